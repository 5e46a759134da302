/- The code of this seat's functions without what a walk does not ask for, and that it is that. Written by program. -/
import Derived.Test.YtodmfjhjaegoeaaGreatDoorAmComp
import Derived.Test.YtodmfjhjaegoeaaGreatDoorProg
import Derived.KernelRfl
set_option maxRecDepth 20000
set_option linter.unusedVariables false
namespace Go.Proofs.Fx
open Go Go.Am

/-- bindle/commit.members -/
noncomputable def g126 : AC :=
 .seq (.reg [⟨none, some 5, .box 141 (.tmp 2)⟩,
  ⟨none, some 6, .assign (.const (.slice none 0 0))⟩,
  ⟨none, some 7, .assign (.const (.int .i64 0))⟩])
 (.scope (.seq (.seq (.reg [⟨none, some 15, .fieldAddr 141 (.tmp 5) 3⟩,
     ⟨none, some 16, .load 4 (.tmp 15)⟩,
     ⟨none, some 17, .unOp .not 4 (.tmp 16)⟩])
    (.cond (.tmp 17) (.seq (.reg [⟨none, some 19, .move (.tmp 0)⟩,
       ⟨none, some 20, .move (.tmp 1)⟩,
       ⟨none, some 21, .fieldAddr 141 (.tmp 5) 1⟩,
       ⟨none, some 22, .load 3 (.tmp 21)⟩,
       ⟨none, some 23, .call { callee := (.value (.func 175)), args := #[(.tmp 19), (.tmp 20), (.tmp 22)], argTypes := #[94, 22, 3] }⟩,
       ⟨none, some 18, .move (.tmp 23)⟩,
       ⟨none, some 24, .extract (.tmp 18) 0⟩,
       ⟨none, some 25, .extract (.tmp 18) 1⟩,
       ⟨none, some 26, .extract (.tmp 18) 2⟩,
       ⟨none, some 8, .assign (.tmp 24)⟩,
       ⟨none, some 9, .assign (.tmp 25)⟩,
       ⟨none, some 10, .assign (.tmp 26)⟩])
      (.seq (.reg [⟨none, some 27, .move (.tmp 8)⟩,
        ⟨none, some 28, .move (.tmp 10)⟩,
        ⟨none, some 6, .assign (.tmp 27)⟩,
        ⟨none, some 7, .assign (.tmp 28)⟩])
       (.ret)))
     (.skip)))
   (.seq (.reg [⟨none, some 30, .move (.tmp 0)⟩,
     ⟨none, some 31, .move (.tmp 1)⟩,
     ⟨none, some 32, .fieldAddr 141 (.tmp 5) 1⟩,
     ⟨none, some 33, .load 3 (.tmp 32)⟩,
     ⟨none, some 34, .fieldAddr 141 (.tmp 5) 1⟩,
     ⟨none, some 35, .load 3 (.tmp 34)⟩,
     ⟨none, some 36, .fieldAddr 141 (.tmp 5) 2⟩,
     ⟨none, some 37, .load 3 (.tmp 36)⟩,
     ⟨none, some 38, .binOp .add 3 (.tmp 35) (.tmp 37) 3⟩,
     ⟨none, some 39, .slice 22 (.tmp 31) (some (.tmp 33)) (some (.tmp 38)) none⟩,
     ⟨none, some 40, .call { callee := (.value (.func 176)), args := #[(.tmp 30), (.tmp 39)], argTypes := #[94, 22] }⟩,
     ⟨none, some 29, .move (.tmp 40)⟩,
     ⟨none, some 41, .extract (.tmp 29) 0⟩,
     ⟨none, some 42, .extract (.tmp 29) 1⟩,
     ⟨none, some 11, .assign (.tmp 41)⟩,
     ⟨none, some 12, .assign (.tmp 42)⟩])
    (.seq (.seq (.reg [⟨none, some 43, .move (.tmp 12)⟩,
       ⟨none, some 44, .binOp .neq 32 (.tmp 43) (.const (.int .i64 0)) 32⟩])
      (.cond (.tmp 44) (.seq (.reg [⟨none, some 45, .move (.tmp 12)⟩,
         ⟨none, some 6, .assign (.const (.slice none 0 0))⟩,
         ⟨none, some 7, .assign (.tmp 45)⟩])
        (.ret))
       (.skip)))
     (.seq (.label 0)
      (.seq (.seq (.reg [⟨none, some 46, .move (.tmp 11)⟩,
         ⟨none, some 47, .call { callee := (.builtin .len), args := #[(.tmp 46)], argTypes := #[91] }⟩,
         ⟨none, some 48, .move (.const (.int .i64 0))⟩])
        (.block 0 (.loop (.seq (.reg [⟨none, some 49, .binOp .lss 3 (.tmp 48) (.tmp 47) 3⟩])
           (.seq (.cond (.tmp 49) (.skip)
             (.exit 0))
            (.seq (.block 1 (.seq (.reg [⟨none, some 50, .indexAddr 91 (.tmp 46) (.tmp 48)⟩,
                ⟨none, some 51, .load 41 (.tmp 50)⟩,
                ⟨none, some 14, .alloc 41⟩,
                ⟨none, none, .store 41 (.tmp 14) (.tmp 51)⟩])
               (.seq (.reg [⟨none, some 52, .fieldAddr 41 (.tmp 14) 2⟩,
                 ⟨none, some 53, .load 3 (.tmp 52)⟩,
                 ⟨none, some 54, .fieldAddr 141 (.tmp 5) 1⟩,
                 ⟨none, some 55, .load 3 (.tmp 54)⟩,
                 ⟨none, some 56, .binOp .gtr 3 (.tmp 53) (.tmp 55) 3⟩,
                 ⟨none, some 57, .move (.tmp 56)⟩,
                 ⟨some (some 57, false), some 58, .fieldAddr 41 (.tmp 14) 3⟩,
                 ⟨some (some 57, false), some 59, .load 3 (.tmp 58)⟩,
                 ⟨some (some 57, false), some 60, .fieldAddr 141 (.tmp 5) 1⟩,
                 ⟨some (some 57, false), some 61, .load 3 (.tmp 60)⟩,
                 ⟨some (some 57, false), some 62, .fieldAddr 41 (.tmp 14) 2⟩,
                 ⟨some (some 57, false), some 63, .load 3 (.tmp 62)⟩,
                 ⟨some (some 57, false), some 64, .binOp .sub 3 (.tmp 61) (.tmp 63) 3⟩,
                 ⟨some (some 57, false), some 65, .binOp .gtr 3 (.tmp 59) (.tmp 64) 3⟩,
                 ⟨none, some 66, .pick (.tmp 57) (.const (.bool true)) (.tmp 65)⟩])
                (.cond (.tmp 66) (.seq (.reg [⟨none, some 12, .assign (.const (.int .i64 3))⟩])
                  (.exit 0))
                 (.skip)))))
             (.reg [⟨none, some 67, .binOp .add 3 (.tmp 48) (.const (.int .i64 1)) 3⟩,
              ⟨none, some 48, .move (.tmp 67)⟩])))))))
       (.seq (.seq (.reg [⟨none, some 68, .move (.tmp 12)⟩,
          ⟨none, some 69, .binOp .neq 32 (.tmp 68) (.const (.int .i64 0)) 32⟩])
         (.cond (.tmp 69) (.seq (.reg [⟨none, some 70, .move (.tmp 12)⟩,
            ⟨none, some 6, .assign (.const (.slice none 0 0))⟩,
            ⟨none, some 7, .assign (.tmp 70)⟩])
           (.ret))
          (.skip)))
        (.seq (.reg [⟨none, some 71, .move (.tmp 11)⟩,
          ⟨none, some 6, .assign (.tmp 71)⟩,
          ⟨none, some 7, .assign (.const (.int .i64 0))⟩])
         (.ret)))))))))
theorem com126 : com Tryz.prog 72 ((Tryz.f126.body).getD .skip) = g126 := by kernel_rfl
theorem enter126 {args : List Value} {h : Heap} {R : Value → Heap → Prop} (hN : args.length ≤ 72) (q : AWC Tryz.prog 72 g126 (RetQ Tryz.prog [.tmp 6, .tmp 7] R) (frOf args) h) : ACall Tryz.prog 126 args h R :=
  C_call Tryz.func126 (by kernel_rfl) com126 (by kernel_rfl) (by kernel_rfl) hN q

/-- bindle/slot.Put -/
noncomputable def g127 : AC :=
 .seq (.reg [⟨none, some 3, .box 141 (.tmp 1)⟩,
  ⟨none, some 4, .assign (.const (.slice none 0 0))⟩,
  ⟨none, some 5, .assign (.const (.int .i64 0))⟩])
 (.seq (.seq (.reg [⟨none, some 9, .load 141 (.tmp 3)⟩,
    ⟨none, some 10, .call { callee := (.value (.func 177)), args := #[(.tmp 9)], argTypes := #[141] }⟩,
    ⟨none, some 11, .unOp .not 4 (.tmp 10)⟩])
   (.cond (.tmp 11) (.seq (.reg [⟨none, some 4, .assign (.const (.slice none 0 0))⟩,
      ⟨none, some 5, .assign (.const (.int .i64 1))⟩])
     (.ret))
    (.skip)))
  (.seq (.reg [⟨none, some 12, .buildSlice 22 4 #[(0, (.const (.int .u8 83))), (1, (.const (.int .u8 76))), (2, (.const (.int .u8 79))), (3, (.const (.int .u8 84)))]⟩,
    ⟨none, some 13, .convert 22 22 (.tmp 12)⟩,
    ⟨none, some 6, .assign (.tmp 13)⟩])
   (.seq (.seq (.reg [⟨none, some 14, .fieldAddr 141 (.tmp 3) 0⟩,
      ⟨none, some 15, .load 3 (.tmp 14)⟩,
      ⟨none, some 16, .fieldAddr 141 (.tmp 3) 1⟩,
      ⟨none, some 17, .load 3 (.tmp 16)⟩,
      ⟨none, some 18, .fieldAddr 141 (.tmp 3) 2⟩,
      ⟨none, some 19, .load 3 (.tmp 18)⟩,
      ⟨none, some 20, .build 211 #[(0, (.tmp 15)), (1, (.tmp 17)), (2, (.tmp 19))]⟩,
      ⟨none, some 21, .move (.const (.int .i64 0))⟩])
     (.block 0 (.loop (.seq (.reg [⟨none, some 22, .binOp .lss 3 (.tmp 21) (.const (.int .i64 3)) 3⟩])
        (.seq (.cond (.tmp 22) (.skip)
          (.exit 0))
         (.seq (.block 1 (.seq (.reg [⟨none, some 23, .index 211 (.tmp 20) (.tmp 21)⟩,
             ⟨none, some 8, .assign (.tmp 23)⟩])
            (.reg [⟨none, some 24, .move (.tmp 6)⟩,
             ⟨none, some 25, .move (.tmp 8)⟩,
             ⟨none, some 26, .convert 3 39 (.tmp 25)⟩,
             ⟨none, some 27, .call { callee := (.value (.func 103)), args := #[(.tmp 24), (.tmp 26), (.const (.int .i64 4))], argTypes := #[22, 39, 3] }⟩,
             ⟨none, some 6, .assign (.tmp 27)⟩])))
          (.reg [⟨none, some 28, .binOp .add 3 (.tmp 21) (.const (.int .i64 1)) 3⟩,
           ⟨none, some 21, .move (.tmp 28)⟩])))))))
    (.seq (.seq (.reg [⟨none, some 29, .fieldAddr 141 (.tmp 3) 3⟩,
       ⟨none, some 30, .load 4 (.tmp 29)⟩])
      (.cond (.tmp 30) (.reg [⟨none, some 31, .move (.tmp 6)⟩,
        ⟨none, some 32, .buildSlice 22 1 #[(0, (.const (.int .u8 1)))]⟩,
        ⟨none, some 33, .call { callee := (.builtin .append), args := #[(.tmp 31), (.tmp 32)], argTypes := #[22, 22] }⟩,
        ⟨none, some 6, .assign (.tmp 33)⟩])
       (.reg [⟨none, some 34, .move (.tmp 6)⟩,
        ⟨none, some 35, .buildSlice 22 1 #[(0, (.const (.int .u8 0)))]⟩,
        ⟨none, some 36, .call { callee := (.builtin .append), args := #[(.tmp 34), (.tmp 35)], argTypes := #[22, 22] }⟩,
        ⟨none, some 6, .assign (.tmp 36)⟩])))
     (.seq (.reg [⟨none, some 37, .move (.tmp 6)⟩,
       ⟨none, some 38, .move (.tmp 0)⟩,
       ⟨none, some 39, .move (.tmp 6)⟩,
       ⟨none, some 40, .call { callee := (.value (.func 68)), args := #[(.tmp 38), (.tmp 39)], argTypes := #[94, 22] }⟩,
       ⟨none, some 41, .call { callee := (.value (.func 103)), args := #[(.tmp 37), (.tmp 40), (.const (.int .i64 4))], argTypes := #[22, 39, 3] }⟩,
       ⟨none, some 6, .assign (.tmp 41)⟩])
      (.seq (.reg [⟨none, some 42, .move (.tmp 6)⟩,
        ⟨none, some 43, .move (.tmp 6)⟩,
        ⟨none, some 44, .call { callee := (.builtin .len), args := #[(.tmp 43)], argTypes := #[22] }⟩,
        ⟨none, some 45, .binOp .sub 3 (.const (.int .i64 512)) (.tmp 44) 3⟩,
        ⟨none, some 46, .call { callee := (.builtin .append), args := #[(.tmp 42), (.tmp 45)], argTypes := #[22, 3] }⟩,
        ⟨none, some 4, .assign (.tmp 46)⟩,
        ⟨none, some 5, .assign (.const (.int .i64 0))⟩])
       (.ret)))))))
theorem com127 : com Tryz.prog 47 ((Tryz.f127.body).getD .skip) = g127 := by kernel_rfl
theorem enter127 {args : List Value} {h : Heap} {R : Value → Heap → Prop} (hN : args.length ≤ 47) (q : AWC Tryz.prog 47 g127 (RetQ Tryz.prog [.tmp 4, .tmp 5] R) (frOf args) h) : ACall Tryz.prog 127 args h R :=
  C_call Tryz.func127 (by kernel_rfl) com127 (by kernel_rfl) (by kernel_rfl) hN q

/-- ( *bindle/crashfs.FS).Create -/
noncomputable def g129 : AC :=
 .seq (.reg [⟨none, some 4, .assign (.const (.int .i64 0))⟩,
  ⟨none, some 5, .assign (.const (.int .i64 0))⟩])
 (.seq (.seq (.reg [⟨none, some 9, .move (.tmp 0)⟩,
    ⟨none, some 10, .call { callee := (.value (.func 119)), args := #[(.tmp 9)], argTypes := #[29] }⟩,
    ⟨none, some 6, .assign (.tmp 10)⟩])
   (.seq (.reg [⟨none, some 11, .move (.tmp 6)⟩,
     ⟨none, some 12, .binOp .neq 32 (.tmp 11) (.const (.int .i64 0)) 32⟩])
    (.cond (.tmp 12) (.seq (.reg [⟨none, some 13, .move (.tmp 6)⟩,
       ⟨none, some 4, .assign (.const (.int .i64 0))⟩,
       ⟨none, some 5, .assign (.tmp 13)⟩])
      (.ret))
     (.skip))))
  (.seq (.reg [⟨none, some 14, .move (.tmp 0)⟩,
    ⟨none, some 15, .nilCheck (.tmp 14)⟩,
    ⟨none, some 16, .fieldAddr 77 (.tmp 15) 0⟩,
    ⟨none, some 17, .load 70 (.tmp 16)⟩,
    ⟨none, some 18, .call { callee := (.builtin .len), args := #[(.tmp 17)], argTypes := #[70] }⟩,
    ⟨none, some 7, .assign (.tmp 18)⟩])
   (.seq (.seq (.reg [⟨none, some 19, .move (.tmp 7)⟩,
      ⟨none, some 20, .binOp .geq 3 (.tmp 19) (.const (.int .i64 1000)) 3⟩])
     (.cond (.tmp 20) (.seq (.reg [⟨none, some 4, .assign (.const (.int .i64 0))⟩,
        ⟨none, some 5, .assign (.const (.int .i64 14))⟩])
       (.ret))
      (.skip)))
    (.seq (.seq (.reg [⟨none, some 21, .move (.tmp 0)⟩,
       ⟨none, some 22, .nilCheck (.tmp 21)⟩,
       ⟨none, some 23, .fieldAddr 77 (.tmp 22) 1⟩,
       ⟨none, some 24, .move (.tmp 1)⟩,
       ⟨none, some 25, .move (.tmp 7)⟩,
       ⟨none, some 26, .call { callee := (.value (.func 179)), args := #[(.tmp 23), (.tmp 24), (.tmp 25)], argTypes := #[74, 9, 3] }⟩,
       ⟨none, some 8, .assign (.tmp 26)⟩])
      (.seq (.reg [⟨none, some 27, .move (.tmp 8)⟩,
        ⟨none, some 28, .binOp .neq 32 (.tmp 27) (.const (.int .i64 0)) 32⟩])
       (.cond (.tmp 28) (.seq (.reg [⟨none, some 29, .move (.tmp 8)⟩,
          ⟨none, some 4, .assign (.const (.int .i64 0))⟩,
          ⟨none, some 5, .assign (.tmp 29)⟩])
         (.ret))
        (.skip))))
     (.seq (.reg [⟨none, some 30, .move (.tmp 0)⟩,
       ⟨none, some 31, .move (.tmp 0)⟩,
       ⟨none, some 32, .nilCheck (.tmp 31)⟩,
       ⟨none, some 33, .fieldAddr 77 (.tmp 32) 0⟩,
       ⟨none, some 34, .load 70 (.tmp 33)⟩,
       ⟨none, some 35, .build 247 #[]⟩,
       ⟨none, some 36, .box 247 (.tmp 35)⟩,
       ⟨none, some 37, .buildSlice 70 1 #[(0, (.tmp 36))]⟩,
       ⟨none, some 38, .call { callee := (.builtin .append), args := #[(.tmp 34), (.tmp 37)], argTypes := #[70, 70] }⟩,
       ⟨none, some 39, .nilCheck (.tmp 30)⟩,
       ⟨none, some 40, .fieldAddr 77 (.tmp 39) 0⟩,
       ⟨none, none, .store 70 (.tmp 40) (.tmp 38)⟩])
      (.seq (.reg [⟨none, some 41, .move (.tmp 7)⟩,
        ⟨none, some 4, .assign (.tmp 41)⟩,
        ⟨none, some 5, .assign (.const (.int .i64 0))⟩])
       (.ret)))))))
theorem com129 : com Tryz.prog 42 ((Tryz.f129.body).getD .skip) = g129 := by kernel_rfl
theorem enter129 {args : List Value} {h : Heap} {R : Value → Heap → Prop} (hN : args.length ≤ 42) (q : AWC Tryz.prog 42 g129 (RetQ Tryz.prog [.tmp 4, .tmp 5] R) (frOf args) h) : ACall Tryz.prog 129 args h R :=
  C_call Tryz.func129 (by kernel_rfl) com129 (by kernel_rfl) (by kernel_rfl) hN q

/-- bindle/commit.fill -/
noncomputable def g130 : AC :=
 .seq (.reg [⟨none, some 8, .assign (.const (.int .i64 0))⟩])
 (.seq (.seq (.reg [⟨none, some 11, .move (.tmp 0)⟩,
    ⟨none, some 12, .move (.tmp 1)⟩,
    ⟨none, some 13, .move (.tmp 3)⟩,
    ⟨none, some 14, .call { callee := (.value (.func 91)), args := #[(.tmp 11), (.tmp 12), (.const (.int .i64 0)), (.tmp 13)], argTypes := #[29, 3, 3, 22] }⟩,
    ⟨none, some 9, .assign (.tmp 14)⟩])
   (.seq (.reg [⟨none, some 15, .move (.tmp 9)⟩,
     ⟨none, some 16, .binOp .neq 32 (.tmp 15) (.const (.int .i64 0)) 32⟩])
    (.cond (.tmp 16) (.seq (.reg [⟨none, some 17, .move (.tmp 9)⟩,
       ⟨none, some 8, .assign (.tmp 17)⟩])
      (.ret))
     (.skip))))
  (.seq (.seq (.reg [⟨none, some 18, .move (.tmp 0)⟩,
     ⟨none, some 19, .move (.tmp 1)⟩,
     ⟨none, some 20, .call { callee := (.value (.func 75)), args := #[(.tmp 18), (.tmp 19)], argTypes := #[29, 3] }⟩,
     ⟨none, some 10, .assign (.tmp 20)⟩])
    (.seq (.reg [⟨none, some 21, .move (.tmp 10)⟩,
      ⟨none, some 22, .binOp .neq 32 (.tmp 21) (.const (.int .i64 0)) 32⟩])
     (.cond (.tmp 22) (.seq (.reg [⟨none, some 23, .move (.tmp 10)⟩,
        ⟨none, some 8, .assign (.tmp 23)⟩])
       (.ret))
      (.skip))))
   (.seq (.reg [⟨none, some 24, .move (.tmp 0)⟩,
     ⟨none, some 25, .move (.tmp 2)⟩,
     ⟨none, some 26, .binOp .add 9 (.tmp 25) (.const (.string { data := #[46, 116, 109, 112] })) 9⟩,
     ⟨none, some 27, .move (.tmp 2)⟩,
     ⟨none, some 28, .call { callee := (.value (.func 180)), args := #[(.tmp 24), (.tmp 26), (.tmp 27)], argTypes := #[29, 9, 9] }⟩,
     ⟨none, some 8, .assign (.tmp 28)⟩])
    (.ret))))
theorem com130 : com Tryz.prog 29 ((Tryz.f130.body).getD .skip) = g130 := by kernel_rfl
theorem enter130 {args : List Value} {h : Heap} {R : Value → Heap → Prop} (hN : args.length ≤ 29) (q : AWC Tryz.prog 29 g130 (RetQ Tryz.prog [.tmp 8] R) (frOf args) h) : ACall Tryz.prog 130 args h R :=
  C_call Tryz.func130 (by kernel_rfl) com130 (by kernel_rfl) (by kernel_rfl) hN q

/-- ( *bindle/play.Stage).open -/
noncomputable def g131 : AC :=
 .seq (.reg [⟨none, some 2, .alloc 57⟩])
 (.seq (.seq (.reg [⟨none, some 7, .move (.tmp 0)⟩,
    ⟨none, some 8, .nilCheck (.tmp 7)⟩,
    ⟨none, some 9, .fieldAddr 99 (.tmp 8) 2⟩,
    ⟨none, some 10, .load 28 (.tmp 9)⟩,
    ⟨none, some 11, .binOp .neq 28 (.tmp 10) (.const (.pointer none)) 28⟩])
   (.cond (.tmp 11) (.seq (.reg [⟨none, some 12, .build 57 #[(0, (.const (.int .i64 8)))]⟩,
      ⟨none, none, .store 57 (.tmp 2) (.tmp 12)⟩])
     (.ret))
    (.skip)))
  (.seq (.reg [⟨none, some 14, .move (.tmp 0)⟩,
    ⟨none, some 15, .nilCheck (.tmp 14)⟩,
    ⟨none, some 16, .fieldAddr 99 (.tmp 15) 0⟩,
    ⟨none, some 17, .load 29 (.tmp 16)⟩,
    ⟨none, some 18, .move (.tmp 0)⟩,
    ⟨none, some 19, .nilCheck (.tmp 18)⟩,
    ⟨none, some 20, .fieldAddr 99 (.tmp 19) 1⟩,
    ⟨none, some 21, .load 9 (.tmp 20)⟩,
    ⟨none, some 22, .call { callee := (.value (.func 12)), args := #[(.tmp 17), (.tmp 21)], argTypes := #[29, 9] }⟩,
    ⟨none, some 13, .move (.tmp 22)⟩,
    ⟨none, some 23, .extract (.tmp 13) 0⟩,
    ⟨none, some 24, .extract (.tmp 13) 1⟩,
    ⟨none, some 3, .assign (.tmp 23)⟩,
    ⟨none, some 4, .assign (.tmp 24)⟩])
   (.seq (.seq (.reg [⟨none, some 25, .move (.tmp 4)⟩,
      ⟨none, some 26, .binOp .neq 32 (.tmp 25) (.const (.int .i64 0)) 32⟩])
     (.cond (.tmp 26) (.seq (.reg [⟨none, some 27, .move (.tmp 4)⟩,
        ⟨none, some 28, .build 57 #[(0, (.tmp 27))]⟩,
        ⟨none, none, .store 57 (.tmp 2) (.tmp 28)⟩])
       (.ret))
      (.skip)))
    (.seq (.reg [⟨none, some 29, .move (.tmp 0)⟩,
      ⟨none, some 30, .move (.tmp 3)⟩,
      ⟨none, some 31, .nilCheck (.tmp 29)⟩,
      ⟨none, some 32, .fieldAddr 99 (.tmp 31) 2⟩,
      ⟨none, none, .store 28 (.tmp 32) (.tmp 30)⟩])
     (.seq (.reg [⟨none, some 34, .move (.tmp 3)⟩,
       ⟨none, some 35, .call { callee := (.value (.func 11)), args := #[(.tmp 34)], argTypes := #[28] }⟩,
       ⟨none, some 33, .move (.tmp 35)⟩,
       ⟨none, some 36, .extract (.tmp 33) 0⟩,
       ⟨none, some 37, .extract (.tmp 33) 1⟩,
       ⟨none, some 5, .assign (.tmp 36)⟩,
       ⟨none, some 6, .assign (.tmp 37)⟩])
      (.seq (.reg [⟨none, some 38, .move (.tmp 5)⟩,
        ⟨none, some 39, .build 57 #[(4, (.tmp 38))]⟩,
        ⟨none, none, .store 57 (.tmp 2) (.tmp 39)⟩])
       (.ret)))))))
theorem com131 : com Tryz.prog 40 ((Tryz.f131.body).getD .skip) = g131 := by kernel_rfl
theorem enter131 {args : List Value} {h : Heap} {R : Value → Heap → Prop} (hN : args.length ≤ 40) (q : AWC Tryz.prog 40 g131 (RetQ Tryz.prog [.cell 2 57] R) (frOf args) h) : ACall Tryz.prog 131 args h R :=
  C_call Tryz.func131 (by kernel_rfl) com131 (by kernel_rfl) (by kernel_rfl) hN q

/-- bindle/play.Each$1 -/
noncomputable def g135 : AC :=
 .seq (.reg [⟨none, some 7, .load 3 (.tmp 1)⟩,
  ⟨none, some 8, .call { callee := (.value (.func 136)), args := #[(.tmp 7), (.const (.string { data := #[97] }))], argTypes := #[3, 9] }⟩,
  ⟨none, some 4, .assign (.tmp 8)⟩])
 (.seq (.reg [⟨none, some 9, .load 102 (.tmp 2)⟩,
   ⟨none, some 10, .call { callee := (.builtin .len), args := #[(.tmp 9)], argTypes := #[102] }⟩,
   ⟨none, some 11, .move (.const (.int .i64 0))⟩])
  (.block 0 (.loop (.seq (.reg [⟨none, some 12, .binOp .lss 3 (.tmp 11) (.tmp 10) 3⟩])
     (.seq (.cond (.tmp 12) (.skip)
       (.exit 0))
      (.seq (.block 1 (.seq (.reg [⟨none, some 13, .move (.tmp 11)⟩,
          ⟨none, some 14, .indexAddr 102 (.tmp 9) (.tmp 11)⟩,
          ⟨none, some 15, .load 27 (.tmp 14)⟩,
          ⟨none, some 6, .alloc 27⟩,
          ⟨none, some 5, .assign (.tmp 13)⟩,
          ⟨none, none, .store 27 (.tmp 6) (.tmp 15)⟩])
         (.seq (.reg [⟨none, some 16, .move (.tmp 0)⟩,
           ⟨none, some 17, .move (.tmp 5)⟩,
           ⟨none, some 18, .move (.tmp 4)⟩,
           ⟨none, some 19, .load 27 (.tmp 6)⟩,
           ⟨none, some 20, .call { callee := (.value (.func 18)), args := #[(.tmp 18), (.tmp 19)], argTypes := #[55, 27] }⟩,
           ⟨none, some 21, .call { callee := (.value (.tmp 16)), args := #[(.tmp 17), (.tmp 20)], argTypes := #[3, 57] }⟩,
           ⟨none, some 22, .unOp .not 4 (.tmp 21)⟩])
          (.cond (.tmp 22) (.ret)
           (.skip)))))
       (.reg [⟨none, some 23, .binOp .add 3 (.tmp 11) (.const (.int .i64 1)) 3⟩,
        ⟨none, some 11, .move (.tmp 23)⟩])))))))
theorem com135 : com Tryz.prog 24 ((Tryz.f135.body).getD .skip) = g135 := by kernel_rfl
theorem enter135 {args : List Value} {h : Heap} {R : Value → Heap → Prop} (hN : args.length ≤ 24) (q : AWC Tryz.prog 24 g135 (RetQ Tryz.prog [] R) (frOf args) h) : ACall Tryz.prog 135 args h R :=
  C_call Tryz.func135 (by kernel_rfl) com135 (by kernel_rfl) (by kernel_rfl) hN q

/-- bindle/play.New -/
noncomputable def g136 : AC :=
 .seq (.reg [⟨none, some 4, .assign (.const (.pointer none))⟩])
 (.seq (.reg [⟨none, some 5, .move (.tmp 0)⟩,
   ⟨none, some 6, .call { callee := (.value (.func 22)), args := #[(.tmp 5)], argTypes := #[3] }⟩,
   ⟨none, some 7, .move (.tmp 1)⟩,
   ⟨none, some 8, .build 99 #[(0, (.tmp 6)), (1, (.tmp 7))]⟩,
   ⟨none, some 9, .box 99 (.tmp 8)⟩,
   ⟨none, some 4, .assign (.tmp 9)⟩])
  (.ret))
theorem com136 : com Tryz.prog 10 ((Tryz.f136.body).getD .skip) = g136 := by kernel_rfl
theorem enter136 {args : List Value} {h : Heap} {R : Value → Heap → Prop} (hN : args.length ≤ 10) (q : AWC Tryz.prog 10 g136 (RetQ Tryz.prog [.tmp 4] R) (frOf args) h) : ACall Tryz.prog 136 args h R :=
  C_call Tryz.func136 (by kernel_rfl) com136 (by kernel_rfl) (by kernel_rfl) hN q

/-- bindle/entry.Put -/
noncomputable def g137 : AC :=
 .seq (.reg [⟨none, some 2, .assign (.const (.slice none 0 0))⟩,
  ⟨none, some 3, .assign (.const (.int .i64 0))⟩])
 (.seq (.seq (.reg [⟨none, some 9, .move (.tmp 0)⟩,
    ⟨none, some 10, .call { callee := (.value (.func 80)), args := #[(.tmp 9)], argTypes := #[91] }⟩,
    ⟨none, some 11, .unOp .not 4 (.tmp 10)⟩])
   (.cond (.tmp 11) (.seq (.reg [⟨none, some 2, .assign (.const (.slice none 0 0))⟩,
      ⟨none, some 3, .assign (.const (.int .i64 1))⟩])
     (.ret))
    (.skip)))
  (.seq (.reg [⟨none, some 4, .assign (.const (.slice none 0 0))⟩])
   (.seq (.seq (.reg [⟨none, some 12, .move (.tmp 0)⟩,
      ⟨none, some 13, .call { callee := (.builtin .len), args := #[(.tmp 12)], argTypes := #[91] }⟩,
      ⟨none, some 14, .move (.const (.int .i64 0))⟩])
     (.block 0 (.loop (.seq (.reg [⟨none, some 15, .binOp .lss 3 (.tmp 14) (.tmp 13) 3⟩])
        (.seq (.cond (.tmp 15) (.skip)
          (.exit 0))
         (.seq (.block 1 (.seq (.reg [⟨none, some 16, .indexAddr 91 (.tmp 12) (.tmp 14)⟩,
             ⟨none, some 17, .load 41 (.tmp 16)⟩,
             ⟨none, some 6, .alloc 41⟩,
             ⟨none, none, .store 41 (.tmp 6) (.tmp 17)⟩])
            (.seq (.reg [⟨none, some 18, .move (.tmp 4)⟩,
              ⟨none, some 19, .fieldAddr 41 (.tmp 6) 6⟩,
              ⟨none, some 20, .load 3 (.tmp 19)⟩,
              ⟨none, some 21, .convert 3 5 (.tmp 20)⟩,
              ⟨none, some 22, .fieldAddr 41 (.tmp 6) 0⟩,
              ⟨none, some 23, .load 9 (.tmp 22)⟩,
              ⟨none, some 24, .call { callee := (.builtin .len), args := #[(.tmp 23)], argTypes := #[9] }⟩,
              ⟨none, some 25, .convert 3 5 (.tmp 24)⟩,
              ⟨none, some 26, .buildSlice 22 2 #[(0, (.tmp 21)), (1, (.tmp 25))]⟩,
              ⟨none, some 27, .call { callee := (.builtin .append), args := #[(.tmp 18), (.tmp 26)], argTypes := #[22, 22] }⟩,
              ⟨none, some 4, .assign (.tmp 27)⟩])
             (.seq (.seq (.reg [⟨none, some 28, .fieldAddr 41 (.tmp 6) 1⟩,
                ⟨none, some 29, .load 3 (.tmp 28)⟩,
                ⟨none, some 30, .convert 3 39 (.tmp 29)⟩,
                ⟨none, some 31, .fieldAddr 41 (.tmp 6) 4⟩,
                ⟨none, some 32, .load 3 (.tmp 31)⟩,
                ⟨none, some 33, .convert 3 39 (.tmp 32)⟩,
                ⟨none, some 34, .fieldAddr 41 (.tmp 6) 3⟩,
                ⟨none, some 35, .load 3 (.tmp 34)⟩,
                ⟨none, some 36, .convert 3 39 (.tmp 35)⟩,
                ⟨none, some 37, .fieldAddr 41 (.tmp 6) 5⟩,
                ⟨none, some 38, .load 39 (.tmp 37)⟩,
                ⟨none, some 39, .build 260 #[(0, (.tmp 30)), (1, (.tmp 33)), (2, (.tmp 36)), (3, (.tmp 38))]⟩,
                ⟨none, some 40, .move (.const (.int .i64 0))⟩])
               (.block 2 (.loop (.seq (.reg [⟨none, some 41, .binOp .lss 3 (.tmp 40) (.const (.int .i64 4)) 3⟩])
                  (.seq (.cond (.tmp 41) (.skip)
                    (.exit 2))
                   (.seq (.block 3 (.seq (.reg [⟨none, some 42, .index 260 (.tmp 39) (.tmp 40)⟩,
                       ⟨none, some 8, .assign (.tmp 42)⟩])
                      (.reg [⟨none, some 43, .move (.tmp 4)⟩,
                       ⟨none, some 44, .move (.tmp 8)⟩,
                       ⟨none, some 45, .call { callee := (.value (.func 103)), args := #[(.tmp 43), (.tmp 44), (.const (.int .i64 4))], argTypes := #[22, 39, 3] }⟩,
                       ⟨none, some 4, .assign (.tmp 45)⟩])))
                    (.reg [⟨none, some 46, .binOp .add 3 (.tmp 40) (.const (.int .i64 1)) 3⟩,
                     ⟨none, some 40, .move (.tmp 46)⟩])))))))
              (.reg [⟨none, some 47, .move (.tmp 4)⟩,
               ⟨none, some 48, .fieldAddr 41 (.tmp 6) 0⟩,
               ⟨none, some 49, .load 9 (.tmp 48)⟩,
               ⟨none, some 50, .call { callee := (.builtin .append), args := #[(.tmp 47), (.tmp 49)], argTypes := #[22, 9] }⟩,
               ⟨none, some 4, .assign (.tmp 50)⟩])))))
          (.reg [⟨none, some 51, .binOp .add 3 (.tmp 14) (.const (.int .i64 1)) 3⟩,
           ⟨none, some 14, .move (.tmp 51)⟩])))))))
    (.seq (.reg [⟨none, some 52, .move (.tmp 4)⟩,
      ⟨none, some 2, .assign (.tmp 52)⟩,
      ⟨none, some 3, .assign (.const (.int .i64 0))⟩])
     (.ret)))))
theorem com137 : com Tryz.prog 53 ((Tryz.f137.body).getD .skip) = g137 := by kernel_rfl
theorem enter137 {args : List Value} {h : Heap} {R : Value → Heap → Prop} (hN : args.length ≤ 53) (q : AWC Tryz.prog 53 g137 (RetQ Tryz.prog [.tmp 2, .tmp 3] R) (frOf args) h) : ACall Tryz.prog 137 args h R :=
  C_call Tryz.func137 (by kernel_rfl) com137 (by kernel_rfl) (by kernel_rfl) hN q

/-- bindle/foot.Put -/
noncomputable def g138 : AC :=
 .seq (.reg [⟨none, some 3, .box 210 (.tmp 1)⟩,
  ⟨none, some 4, .assign (.const (.slice none 0 0))⟩,
  ⟨none, some 5, .assign (.const (.int .i64 0))⟩])
 (.seq (.seq (.reg [⟨none, some 9, .load 210 (.tmp 3)⟩,
    ⟨none, some 10, .call { callee := (.value (.func 186)), args := #[(.tmp 9)], argTypes := #[210] }⟩,
    ⟨none, some 11, .unOp .not 4 (.tmp 10)⟩])
   (.cond (.tmp 11) (.seq (.reg [⟨none, some 4, .assign (.const (.slice none 0 0))⟩,
      ⟨none, some 5, .assign (.const (.int .i64 1))⟩])
     (.ret))
    (.skip)))
  (.seq (.reg [⟨none, some 12, .buildSlice 22 4 #[(0, (.const (.int .u8 70))), (1, (.const (.int .u8 79))), (2, (.const (.int .u8 79))), (3, (.const (.int .u8 84)))]⟩,
    ⟨none, some 13, .convert 22 22 (.tmp 12)⟩,
    ⟨none, some 6, .assign (.tmp 13)⟩])
   (.seq (.seq (.reg [⟨none, some 14, .fieldAddr 210 (.tmp 3) 0⟩,
      ⟨none, some 15, .load 3 (.tmp 14)⟩,
      ⟨none, some 16, .convert 3 39 (.tmp 15)⟩,
      ⟨none, some 17, .fieldAddr 210 (.tmp 3) 1⟩,
      ⟨none, some 18, .load 3 (.tmp 17)⟩,
      ⟨none, some 19, .convert 3 39 (.tmp 18)⟩,
      ⟨none, some 20, .fieldAddr 210 (.tmp 3) 2⟩,
      ⟨none, some 21, .load 39 (.tmp 20)⟩,
      ⟨none, some 22, .build 173 #[(0, (.tmp 16)), (1, (.tmp 19)), (2, (.tmp 21))]⟩,
      ⟨none, some 23, .move (.const (.int .i64 0))⟩])
     (.block 0 (.loop (.seq (.reg [⟨none, some 24, .binOp .lss 3 (.tmp 23) (.const (.int .i64 3)) 3⟩])
        (.seq (.cond (.tmp 24) (.skip)
          (.exit 0))
         (.seq (.block 1 (.seq (.reg [⟨none, some 25, .index 173 (.tmp 22) (.tmp 23)⟩,
             ⟨none, some 8, .assign (.tmp 25)⟩])
            (.reg [⟨none, some 26, .move (.tmp 6)⟩,
             ⟨none, some 27, .move (.tmp 8)⟩,
             ⟨none, some 28, .call { callee := (.value (.func 103)), args := #[(.tmp 26), (.tmp 27), (.const (.int .i64 4))], argTypes := #[22, 39, 3] }⟩,
             ⟨none, some 6, .assign (.tmp 28)⟩])))
          (.reg [⟨none, some 29, .binOp .add 3 (.tmp 23) (.const (.int .i64 1)) 3⟩,
           ⟨none, some 23, .move (.tmp 29)⟩])))))))
    (.seq (.reg [⟨none, some 30, .move (.tmp 6)⟩,
      ⟨none, some 31, .move (.tmp 0)⟩,
      ⟨none, some 32, .move (.tmp 6)⟩,
      ⟨none, some 33, .call { callee := (.value (.func 68)), args := #[(.tmp 31), (.tmp 32)], argTypes := #[94, 22] }⟩,
      ⟨none, some 34, .call { callee := (.value (.func 103)), args := #[(.tmp 30), (.tmp 33), (.const (.int .i64 4))], argTypes := #[22, 39, 3] }⟩,
      ⟨none, some 4, .assign (.tmp 34)⟩,
      ⟨none, some 5, .assign (.const (.int .i64 0))⟩])
     (.ret)))))
theorem com138 : com Tryz.prog 35 ((Tryz.f138.body).getD .skip) = g138 := by kernel_rfl
theorem enter138 {args : List Value} {h : Heap} {R : Value → Heap → Prop} (hN : args.length ≤ 35) (q : AWC Tryz.prog 35 g138 (RetQ Tryz.prog [.tmp 4, .tmp 5] R) (frOf args) h) : ACall Tryz.prog 138 args h R :=
  C_call Tryz.func138 (by kernel_rfl) com138 (by kernel_rfl) (by kernel_rfl) hN q

/-- ( *bindle/disk.Disk).Need -/
noncomputable def g139 : AC :=
 .seq (.reg [⟨none, some 6, .assign (.const (.int .i64 0))⟩,
  ⟨none, some 7, .assign (.const (.bool false))⟩])
 (.seq (.seq (.reg [⟨none, some 8, .move (.tmp 0)⟩,
    ⟨none, some 9, .binOp .eql 190 (.tmp 8) (.const (.pointer none)) 190⟩,
    ⟨none, some 10, .move (.tmp 9)⟩,
    ⟨some (some 10, false), some 11, .move (.tmp 1)⟩,
    ⟨some (some 10, false), some 12, .move (.tmp 2)⟩,
    ⟨some (some 10, false), some 13, .call { callee := (.value (.func 173)), args := #[(.tmp 11), (.tmp 12)], argTypes := #[3, 3] }⟩,
    ⟨some (some 10, false), some 14, .unOp .not 4 (.tmp 13)⟩,
    ⟨none, some 15, .pick (.tmp 10) (.const (.bool true)) (.tmp 14)⟩])
   (.cond (.tmp 15) (.seq (.reg [⟨none, some 6, .assign (.const (.int .i64 0))⟩,
      ⟨none, some 7, .assign (.const (.bool false))⟩])
     (.ret))
    (.skip)))
  (.seq (.seq (.reg [⟨none, some 16, .move (.tmp 2)⟩,
     ⟨none, some 17, .binOp .eql 3 (.tmp 16) (.const (.int .i64 0)) 3⟩])
    (.cond (.tmp 17) (.seq (.reg [⟨none, some 18, .move (.tmp 0)⟩,
       ⟨none, some 19, .call { callee := (.value (.func 124)), args := #[(.tmp 18)], argTypes := #[190] }⟩,
       ⟨none, some 6, .assign (.tmp 19)⟩,
       ⟨none, some 7, .assign (.const (.bool true))⟩])
      (.ret))
     (.skip)))
   (.seq (.reg [⟨none, some 20, .move (.tmp 0)⟩,
     ⟨none, some 21, .call { callee := (.value (.func 124)), args := #[(.tmp 20)], argTypes := #[190] }⟩,
     ⟨none, some 22, .move (.tmp 1)⟩,
     ⟨none, some 23, .move (.tmp 2)⟩,
     ⟨none, some 24, .binOp .add 3 (.tmp 22) (.tmp 23) 3⟩,
     ⟨none, some 25, .call { callee := (.value (.func 187)), args := #[(.tmp 24)], argTypes := #[3] }⟩,
     ⟨none, some 26, .call { callee := (.builtin .max), args := #[(.tmp 21), (.tmp 25)], argTypes := #[3, 3] }⟩,
     ⟨none, some 6, .assign (.tmp 26)⟩,
     ⟨none, some 7, .assign (.const (.bool true))⟩])
    (.ret))))
theorem com139 : com Tryz.prog 27 ((Tryz.f139.body).getD .skip) = g139 := by kernel_rfl
theorem enter139 {args : List Value} {h : Heap} {R : Value → Heap → Prop} (hN : args.length ≤ 27) (q : AWC Tryz.prog 27 g139 (RetQ Tryz.prog [.tmp 6, .tmp 7] R) (frOf args) h) : ACall Tryz.prog 139 args h R :=
  C_call Tryz.func139 (by kernel_rfl) com139 (by kernel_rfl) (by kernel_rfl) hN q

/-- ( *bindle/crashfs.FS).Used -/
noncomputable def g140 : AC :=
 .seq (.reg [⟨none, some 2, .assign (.const (.int .i64 0))⟩])
 (.seq (.seq (.reg [⟨none, some 6, .move (.tmp 0)⟩,
    ⟨none, some 7, .binOp .eql 29 (.tmp 6) (.const (.pointer none)) 29⟩])
   (.cond (.tmp 7) (.seq (.reg [⟨none, some 2, .assign (.const (.int .i64 0))⟩])
     (.ret))
    (.skip)))
  (.seq (.reg [⟨none, some 3, .assign (.const (.int .i64 0))⟩])
   (.seq (.seq (.reg [⟨none, some 8, .move (.tmp 0)⟩,
      ⟨none, some 9, .nilCheck (.tmp 8)⟩,
      ⟨none, some 10, .fieldAddr 77 (.tmp 9) 0⟩,
      ⟨none, some 11, .load 70 (.tmp 10)⟩,
      ⟨none, some 12, .call { callee := (.builtin .len), args := #[(.tmp 11)], argTypes := #[70] }⟩,
      ⟨none, some 13, .move (.const (.int .i64 0))⟩])
     (.block 0 (.loop (.seq (.reg [⟨none, some 14, .binOp .lss 3 (.tmp 13) (.tmp 12) 3⟩])
        (.seq (.cond (.tmp 14) (.skip)
          (.exit 0))
         (.seq (.block 1 (.seq (.reg [⟨none, some 15, .move (.tmp 13)⟩,
             ⟨none, some 16, .indexAddr 70 (.tmp 11) (.tmp 13)⟩,
             ⟨none, some 17, .load 190 (.tmp 16)⟩,
             ⟨none, some 4, .assign (.tmp 15)⟩,
             ⟨none, some 5, .assign (.tmp 17)⟩])
            (.seq (.reg [⟨none, some 18, .move (.tmp 0)⟩,
              ⟨none, some 19, .nilCheck (.tmp 18)⟩,
              ⟨none, some 20, .fieldAddr 77 (.tmp 19) 1⟩,
              ⟨none, some 21, .move (.tmp 4)⟩,
              ⟨none, some 22, .call { callee := (.value (.func 188)), args := #[(.tmp 20), (.tmp 21)], argTypes := #[74, 3] }⟩])
             (.cond (.tmp 22) (.reg [⟨none, some 23, .move (.tmp 3)⟩,
               ⟨none, some 24, .move (.tmp 5)⟩,
               ⟨none, some 25, .call { callee := (.value (.func 124)), args := #[(.tmp 24)], argTypes := #[190] }⟩,
               ⟨none, some 26, .binOp .add 3 (.tmp 23) (.tmp 25) 3⟩,
               ⟨none, some 3, .assign (.tmp 26)⟩])
              (.skip)))))
          (.reg [⟨none, some 27, .binOp .add 3 (.tmp 13) (.const (.int .i64 1)) 3⟩,
           ⟨none, some 13, .move (.tmp 27)⟩])))))))
    (.seq (.reg [⟨none, some 28, .move (.tmp 3)⟩,
      ⟨none, some 2, .assign (.tmp 28)⟩])
     (.ret)))))
theorem com140 : com Tryz.prog 29 ((Tryz.f140.body).getD .skip) = g140 := by kernel_rfl
theorem enter140 {args : List Value} {h : Heap} {R : Value → Heap → Prop} (hN : args.length ≤ 29) (q : AWC Tryz.prog 29 g140 (RetQ Tryz.prog [.tmp 2] R) (frOf args) h) : ACall Tryz.prog 140 args h R :=
  C_call Tryz.func140 (by kernel_rfl) com140 (by kernel_rfl) (by kernel_rfl) hN q

/-- ( *bindle/disk.Disk).Write -/
noncomputable def g141 : AC :=
 .seq (.reg [⟨none, some 6, .assign (.const (.int .i64 0))⟩])
 (.seq (.reg [⟨none, some 11, .move (.tmp 0)⟩,
   ⟨none, some 12, .move (.tmp 1)⟩,
   ⟨none, some 13, .move (.tmp 2)⟩,
   ⟨none, some 14, .call { callee := (.builtin .len), args := #[(.tmp 13)], argTypes := #[22] }⟩,
   ⟨none, some 15, .call { callee := (.value (.func 139)), args := #[(.tmp 11), (.tmp 12), (.tmp 14)], argTypes := #[190, 3, 3] }⟩,
   ⟨none, some 10, .move (.tmp 15)⟩,
   ⟨none, some 16, .extract (.tmp 10) 0⟩,
   ⟨none, some 17, .extract (.tmp 10) 1⟩,
   ⟨none, some 7, .assign (.tmp 16)⟩,
   ⟨none, some 8, .assign (.tmp 17)⟩])
  (.seq (.block 0 (.seq (.reg [⟨none, some 19, .move (.tmp 8)⟩,
      ⟨none, some 20, .unOp .not 4 (.tmp 19)⟩,
      ⟨none, some 18, .assign (.tmp 20)⟩])
     (.cond (.tmp 18) (.seq (.reg [⟨none, some 6, .assign (.const (.int .i64 1))⟩])
       (.ret))
      (.seq (.reg [⟨none, some 22, .move (.tmp 2)⟩,
        ⟨none, some 23, .call { callee := (.builtin .len), args := #[(.tmp 22)], argTypes := #[22] }⟩,
        ⟨none, some 24, .binOp .eql 3 (.tmp 23) (.const (.int .i64 0)) 3⟩,
        ⟨none, some 21, .assign (.tmp 24)⟩])
       (.cond (.tmp 21) (.seq (.reg [⟨none, some 6, .assign (.const (.int .i64 0))⟩])
         (.ret))
        (.skip))))))
   (.seq (.reg [⟨none, some 25, .move (.tmp 0)⟩,
     ⟨none, some 26, .move (.tmp 7)⟩,
     ⟨none, some 27, .call { callee := (.value (.func 189)), args := #[(.tmp 25), (.tmp 26)], argTypes := #[190, 3] }⟩])
    (.seq (.reg [⟨none, some 28, .move (.tmp 0)⟩,
      ⟨none, some 29, .nilCheck (.tmp 28)⟩,
      ⟨none, some 30, .fieldAddr 247 (.tmp 29) 0⟩,
      ⟨none, some 31, .load 22 (.tmp 30)⟩,
      ⟨none, some 32, .move (.tmp 1)⟩,
      ⟨none, some 33, .slice 22 (.tmp 31) (some (.tmp 32)) none none⟩,
      ⟨none, some 34, .move (.tmp 2)⟩,
      ⟨none, some 35, .call { callee := (.builtin .copy), args := #[(.tmp 33), (.tmp 34)], argTypes := #[22, 22] }⟩])
     (.seq (.seq (.reg [⟨none, some 36, .move (.tmp 1)⟩,
        ⟨none, some 37, .binOp .quo 3 (.tmp 36) (.const (.int .i64 512)) 3⟩,
        ⟨none, some 9, .assign (.tmp 37)⟩])
       (.block 1 (.loop (.seq (.seq (.reg [⟨none, some 38, .move (.tmp 9)⟩,
            ⟨none, some 39, .move (.tmp 1)⟩,
            ⟨none, some 40, .move (.tmp 2)⟩,
            ⟨none, some 41, .call { callee := (.builtin .len), args := #[(.tmp 40)], argTypes := #[22] }⟩,
            ⟨none, some 42, .binOp .add 3 (.tmp 39) (.tmp 41) 3⟩,
            ⟨none, some 43, .call { callee := (.value (.func 187)), args := #[(.tmp 42)], argTypes := #[3] }⟩,
            ⟨none, some 44, .binOp .lss 3 (.tmp 38) (.tmp 43) 3⟩])
           (.cond (.tmp 44) (.skip)
            (.exit 1)))
          (.seq (.block 2 (.draw [⟨⟨none, some 47, .move (.tmp 0)⟩, []⟩,
      ⟨⟨none, some 48, .move (.tmp 0)⟩, []⟩,
      ⟨⟨none, some 49, .nilCheck (.tmp 48)⟩, []⟩,
      ⟨⟨none, some 50, .fieldAddr 247 (.tmp 49) 2⟩, []⟩,
      ⟨⟨none, some 51, .load 245 (.tmp 50)⟩, []⟩,
      ⟨⟨none, some 52, .move (.tmp 9)⟩, []⟩,
      ⟨⟨none, some 54, .move (.tmp 0)⟩, []⟩,
      ⟨⟨none, some 55, .move (.tmp 9)⟩, []⟩,
      ⟨⟨none, some 56, .call { callee := (.value (.func 171)), args := #[(.tmp 54), (.tmp 55)], argTypes := #[190, 3] }⟩, [⟨none, some 51, .load 245 (.tmp 50)⟩]⟩,
      ⟨⟨none, some 53, .buildSlice 22 0 #[]⟩, []⟩,
      ⟨⟨none, some 57, .call { callee := (.builtin .append), args := #[(.tmp 53), (.tmp 56)], argTypes := #[22, 22] }⟩, [⟨none, some 51, .load 245 (.tmp 50)⟩]⟩,
      ⟨⟨none, some 58, .build 263 #[(0, (.tmp 52)), (1, (.tmp 57))]⟩, []⟩,
      ⟨⟨none, some 59, .buildSlice 245 1 #[(0, (.tmp 58))]⟩, [⟨none, some 51, .load 245 (.tmp 50)⟩]⟩,
      ⟨⟨none, some 60, .call { callee := (.builtin .append), args := #[(.tmp 51), (.tmp 59)], argTypes := #[245, 245] }⟩, []⟩,
      ⟨⟨none, some 61, .nilCheck (.tmp 47)⟩, []⟩,
      ⟨⟨none, some 62, .fieldAddr 247 (.tmp 61) 2⟩, []⟩,
      ⟨⟨none, none, .store 245 (.tmp 62) (.tmp 60)⟩, []⟩]))
           (.reg [⟨none, some 45, .move (.tmp 9)⟩,
            ⟨none, some 46, .binOp .add 3 (.tmp 45) (.const (.int .i64 1)) 3⟩,
            ⟨none, some 9, .assign (.tmp 46)⟩]))))))
      (.seq (.reg [⟨none, some 6, .assign (.const (.int .i64 0))⟩])
       (.ret)))))))
theorem com141 : com Tryz.prog 63 ((Tryz.f141.body).getD .skip) = g141 := by kernel_rfl
theorem enter141 {args : List Value} {h : Heap} {R : Value → Heap → Prop} (hN : args.length ≤ 63) (q : AWC Tryz.prog 63 g141 (RetQ Tryz.prog [.tmp 6] R) (frOf args) h) : ACall Tryz.prog 141 args h R :=
  C_call Tryz.func141 (by kernel_rfl) com141 (by kernel_rfl) (by kernel_rfl) hN q

/-- bindle/slot.next -/
noncomputable def g142 : AC :=
 .seq (.reg [⟨none, some 2, .box 141 (.tmp 0)⟩,
  ⟨none, some 3, .box 141 (.tmp 1)⟩,
  ⟨none, some 4, .alloc 141⟩,
  ⟨none, some 5, .assign (.const (.bool false))⟩])
 (.seq (.seq (.reg [⟨none, some 6, .load 141 (.tmp 2)⟩,
    ⟨none, some 7, .call { callee := (.value (.func 177)), args := #[(.tmp 6)], argTypes := #[141] }⟩,
    ⟨none, some 8, .unOp .not 4 (.tmp 7)⟩,
    ⟨none, some 9, .move (.tmp 8)⟩,
    ⟨some (some 9, false), some 10, .fieldAddr 141 (.tmp 2) 0⟩,
    ⟨some (some 9, false), some 11, .load 3 (.tmp 10)⟩,
    ⟨some (some 9, false), some 12, .binOp .eql 3 (.tmp 11) (.const (.int .i64 2147483647)) 3⟩,
    ⟨none, some 13, .pick (.tmp 9) (.const (.bool true)) (.tmp 12)⟩])
   (.cond (.tmp 13) (.seq (.reg [⟨none, some 14, .build 141 #[]⟩,
      ⟨none, none, .store 141 (.tmp 4) (.tmp 14)⟩,
      ⟨none, some 5, .assign (.const (.bool false))⟩])
     (.ret))
    (.skip)))
  (.seq (.reg [⟨none, some 15, .fieldAddr 141 (.tmp 2) 0⟩,
    ⟨none, some 16, .load 3 (.tmp 15)⟩,
    ⟨none, some 17, .binOp .add 3 (.tmp 16) (.const (.int .i64 1)) 3⟩,
    ⟨none, some 18, .fieldAddr 141 (.tmp 3) 0⟩,
    ⟨none, none, .store 3 (.tmp 18) (.tmp 17)⟩])
   (.seq (.seq (.reg [⟨none, some 19, .load 141 (.tmp 3)⟩,
      ⟨none, some 20, .call { callee := (.value (.func 177)), args := #[(.tmp 19)], argTypes := #[141] }⟩,
      ⟨none, some 21, .unOp .not 4 (.tmp 20)⟩])
     (.cond (.tmp 21) (.seq (.reg [⟨none, some 22, .build 141 #[]⟩,
        ⟨none, none, .store 141 (.tmp 4) (.tmp 22)⟩,
        ⟨none, some 5, .assign (.const (.bool false))⟩])
       (.ret))
      (.skip)))
    (.seq (.reg [⟨none, some 23, .load 141 (.tmp 3)⟩,
      ⟨none, none, .store 141 (.tmp 4) (.tmp 23)⟩,
      ⟨none, some 5, .assign (.const (.bool true))⟩])
     (.ret)))))
theorem com142 : com Tryz.prog 24 ((Tryz.f142.body).getD .skip) = g142 := by kernel_rfl
theorem enter142 {args : List Value} {h : Heap} {R : Value → Heap → Prop} (hN : args.length ≤ 24) (q : AWC Tryz.prog 24 g142 (RetQ Tryz.prog [.cell 4 141, .tmp 5] R) (frOf args) h) : ACall Tryz.prog 142 args h R :=
  C_call Tryz.func142 (by kernel_rfl) com142 (by kernel_rfl) (by kernel_rfl) hN q

/-- bindle/slot.Place -/
noncomputable def g143 : AC :=
 .seq (.reg [⟨none, some 2, .assign (.const (.int .i64 0))⟩])
 (.seq (.seq (.reg [⟨none, some 3, .move (.tmp 0)⟩,
    ⟨none, some 4, .binOp .and 3 (.tmp 3) (.const (.int .i64 1)) 3⟩,
    ⟨none, some 5, .binOp .eql 3 (.tmp 4) (.const (.int .i64 1)) 3⟩])
   (.cond (.tmp 5) (.seq (.reg [⟨none, some 2, .assign (.const (.int .i64 512))⟩])
     (.ret))
    (.skip)))
  (.seq (.reg [⟨none, some 2, .assign (.const (.int .i64 0))⟩])
   (.ret)))
theorem com143 : com Tryz.prog 6 ((Tryz.f143.body).getD .skip) = g143 := by kernel_rfl
theorem enter143 {args : List Value} {h : Heap} {R : Value → Heap → Prop} (hN : args.length ≤ 6) (q : AWC Tryz.prog 6 g143 (RetQ Tryz.prog [.tmp 2] R) (frOf args) h) : ACall Tryz.prog 143 args h R :=
  C_call Tryz.func143 (by kernel_rfl) com143 (by kernel_rfl) (by kernel_rfl) hN q

/-- bindle/block.Put -/
noncomputable def g144 : AC :=
 .seq (.reg [⟨none, some 4, .assign (.const (.int .i64 0))⟩])
 (.seq (.seq (.reg [⟨none, some 13, .move (.tmp 0)⟩,
    ⟨none, some 14, .binOp .eql 219 (.tmp 13) (.const (.pointer none)) 219⟩])
   (.cond (.tmp 14) (.seq (.reg [⟨none, some 4, .assign (.const (.int .i64 1))⟩])
     (.ret))
    (.skip)))
  (.seq (.reg [⟨none, some 16, .move (.tmp 1)⟩,
    ⟨none, some 17, .call { callee := (.value (.func 190)), args := #[(.tmp 16)], argTypes := #[220] }⟩,
    ⟨none, some 15, .move (.tmp 17)⟩,
    ⟨none, some 18, .extract (.tmp 15) 0⟩,
    ⟨none, some 19, .extract (.tmp 15) 1⟩,
    ⟨none, some 5, .assign (.tmp 18)⟩,
    ⟨none, some 6, .assign (.tmp 19)⟩])
   (.seq (.seq (.reg [⟨none, some 20, .move (.tmp 6)⟩,
      ⟨none, some 21, .unOp .not 4 (.tmp 20)⟩])
     (.cond (.tmp 21) (.seq (.reg [⟨none, some 4, .assign (.const (.int .i64 3))⟩])
       (.ret))
      (.skip)))
    (.seq (.reg [⟨none, some 23, .move (.tmp 5)⟩,
      ⟨none, some 24, .call { callee := (.value (.func 191)), args := #[(.tmp 23)], argTypes := #[264] }⟩,
      ⟨none, some 22, .move (.tmp 24)⟩,
      ⟨none, some 25, .extract (.tmp 22) 0⟩,
      ⟨none, some 26, .extract (.tmp 22) 1⟩,
      ⟨none, some 7, .assign (.tmp 25)⟩,
      ⟨none, some 8, .assign (.tmp 26)⟩])
     (.seq (.reg [⟨none, some 27, .move (.tmp 0)⟩,
       ⟨none, some 28, .move (.tmp 7)⟩,
       ⟨none, some 29, .call { callee := (.value (.func 192)), args := #[(.tmp 27), (.tmp 28)], argTypes := #[219, 75] }⟩,
       ⟨none, some 30, .move (.tmp 0)⟩,
       ⟨none, some 31, .move (.tmp 8)⟩,
       ⟨none, some 32, .call { callee := (.value (.func 192)), args := #[(.tmp 30), (.tmp 31)], argTypes := #[219, 75] }⟩,
       ⟨none, some 9, .assign (.tmp 29)⟩,
       ⟨none, some 10, .assign (.tmp 32)⟩])
      (.seq (.seq (.reg [⟨none, some 33, .move (.tmp 5)⟩,
         ⟨none, some 34, .call { callee := (.builtin .len), args := #[(.tmp 33)], argTypes := #[264] }⟩,
         ⟨none, some 35, .move (.const (.int .i64 0))⟩])
        (.block 0 (.loop (.seq (.reg [⟨none, some 36, .binOp .lss 3 (.tmp 35) (.tmp 34) 3⟩])
           (.seq (.cond (.tmp 36) (.skip)
             (.exit 0))
            (.seq (.block 1 (.seq (.reg [⟨none, some 37, .indexAddr 264 (.tmp 33) (.tmp 35)⟩,
                ⟨none, some 38, .load 274 (.tmp 37)⟩,
                ⟨none, some 12, .alloc 274⟩,
                ⟨none, none, .store 274 (.tmp 12) (.tmp 38)⟩])
               (.seq (.reg [⟨none, some 39, .move (.tmp 0)⟩,
                 ⟨none, some 40, .move (.tmp 9)⟩,
                 ⟨none, some 41, .fieldAddr 274 (.tmp 12) 0⟩,
                 ⟨none, some 42, .load 272 (.tmp 41)⟩,
                 ⟨none, some 43, .call { callee := (.value (.func 193)), args := #[(.tmp 39), (.tmp 40), (.tmp 42)], argTypes := #[219, 269, 272] }⟩])
                (.seq (.reg [⟨none, some 44, .fieldAddr 274 (.tmp 12) 2⟩,
                  ⟨none, some 45, .load 4 (.tmp 44)⟩])
                 (.cond (.tmp 45) (.reg [⟨none, some 46, .move (.tmp 0)⟩,
                   ⟨none, some 47, .move (.tmp 10)⟩,
                   ⟨none, some 48, .fieldAddr 274 (.tmp 12) 1⟩,
                   ⟨none, some 49, .load 272 (.tmp 48)⟩,
                   ⟨none, some 50, .call { callee := (.value (.func 193)), args := #[(.tmp 46), (.tmp 47), (.tmp 49)], argTypes := #[219, 269, 272] }⟩])
                  (.skip))))))
             (.reg [⟨none, some 51, .binOp .add 3 (.tmp 35) (.const (.int .i64 1)) 3⟩,
              ⟨none, some 35, .move (.tmp 51)⟩])))))))
       (.seq (.reg [⟨none, some 52, .move (.tmp 9)⟩,
         ⟨none, some 53, .move (.tmp 0)⟩,
         ⟨none, some 54, .call { callee := (.value (.func 194)), args := #[(.tmp 52), (.tmp 53), (.const (.int .i64 256))], argTypes := #[269, 219, 3] }⟩])
        (.seq (.reg [⟨none, some 4, .assign (.const (.int .i64 0))⟩])
         (.ret)))))))))
theorem com144 : com Tryz.prog 55 ((Tryz.f144.body).getD .skip) = g144 := by kernel_rfl
theorem enter144 {args : List Value} {h : Heap} {R : Value → Heap → Prop} (hN : args.length ≤ 55) (q : AWC Tryz.prog 55 g144 (RetQ Tryz.prog [.tmp 4] R) (frOf args) h) : ACall Tryz.prog 144 args h R :=
  C_call Tryz.func144 (by kernel_rfl) com144 (by kernel_rfl) (by kernel_rfl) hN q

/-- bindle/tokens.Split -/
noncomputable def g145 : AC :=
 .seq (.reg [⟨none, some 4, .assign (.const (.slice none 0 0))⟩])
 (.seq (.reg [⟨none, some 5, .move (.tmp 0)⟩,
   ⟨none, some 6, .move (.tmp 1)⟩,
   ⟨none, some 7, .call { callee := (.value (.func 196)), args := #[(.tmp 5), (.tmp 6)], argTypes := #[22, 3] }⟩,
   ⟨none, some 8, .call { callee := (.value (.func 195)), args := #[(.tmp 7)], argTypes := #[281] }⟩,
   ⟨none, some 4, .assign (.tmp 8)⟩])
  (.ret))
theorem com145 : com Tryz.prog 9 ((Tryz.f145.body).getD .skip) = g145 := by kernel_rfl
theorem enter145 {args : List Value} {h : Heap} {R : Value → Heap → Prop} (hN : args.length ≤ 9) (q : AWC Tryz.prog 9 g145 (RetQ Tryz.prog [.tmp 4] R) (frOf args) h) : ACall Tryz.prog 145 args h R :=
  C_call Tryz.func145 (by kernel_rfl) com145 (by kernel_rfl) (by kernel_rfl) hN q

/-- ( *bindle/bits.Writer).Len -/
noncomputable def g146 : AC :=
 .seq (.reg [⟨none, some 2, .assign (.const (.int .i64 0))⟩])
 (.seq (.seq (.reg [⟨none, some 3, .move (.tmp 0)⟩,
    ⟨none, some 4, .binOp .eql 219 (.tmp 3) (.const (.pointer none)) 219⟩])
   (.cond (.tmp 4) (.seq (.reg [⟨none, some 2, .assign (.const (.int .i64 0))⟩])
     (.ret))
    (.skip)))
  (.seq (.reg [⟨none, some 5, .move (.tmp 0)⟩,
    ⟨none, some 6, .nilCheck (.tmp 5)⟩,
    ⟨none, some 7, .fieldAddr 217 (.tmp 6) 0⟩,
    ⟨none, some 8, .load 22 (.tmp 7)⟩,
    ⟨none, some 9, .call { callee := (.builtin .len), args := #[(.tmp 8)], argTypes := #[22] }⟩,
    ⟨none, some 10, .binOp .mul 3 (.const (.int .i64 8)) (.tmp 9) 3⟩,
    ⟨none, some 11, .move (.tmp 0)⟩,
    ⟨none, some 12, .nilCheck (.tmp 11)⟩,
    ⟨none, some 13, .fieldAddr 217 (.tmp 12) 2⟩,
    ⟨none, some 14, .load 3 (.tmp 13)⟩,
    ⟨none, some 15, .binOp .add 3 (.tmp 10) (.tmp 14) 3⟩,
    ⟨none, some 2, .assign (.tmp 15)⟩])
   (.ret)))
theorem com146 : com Tryz.prog 16 ((Tryz.f146.body).getD .skip) = g146 := by kernel_rfl
theorem enter146 {args : List Value} {h : Heap} {R : Value → Heap → Prop} (hN : args.length ≤ 16) (q : AWC Tryz.prog 16 g146 (RetQ Tryz.prog [.tmp 2] R) (frOf args) h) : ACall Tryz.prog 146 args h R :=
  C_call Tryz.func146 (by kernel_rfl) com146 (by kernel_rfl) (by kernel_rfl) hN q

/-- bindle/entry.in -/
noncomputable def g148 : AC :=
 .seq (.reg [⟨none, some 6, .assign (.const (.bool false))⟩])
 (.seq (.reg [⟨none, some 7, .move (.tmp 0)⟩,
   ⟨none, some 8, .move (.tmp 1)⟩,
   ⟨none, some 9, .binOp .geq 3 (.tmp 7) (.tmp 8) 3⟩,
   ⟨none, some 10, .move (.tmp 9)⟩,
   ⟨some (some 10, true), some 11, .move (.tmp 0)⟩,
   ⟨some (some 10, true), some 12, .move (.tmp 2)⟩,
   ⟨some (some 10, true), some 13, .binOp .leq 3 (.tmp 11) (.tmp 12) 3⟩,
   ⟨none, some 14, .pick (.tmp 10) (.tmp 13) (.const (.bool false))⟩,
   ⟨none, some 6, .assign (.tmp 14)⟩])
  (.ret))
theorem com148 : com Tryz.prog 15 ((Tryz.f148.body).getD .skip) = g148 := by kernel_rfl
theorem enter148 {args : List Value} {h : Heap} {R : Value → Heap → Prop} (hN : args.length ≤ 15) (q : AWC Tryz.prog 15 g148 (RetQ Tryz.prog [.tmp 6] R) (frOf args) h) : ACall Tryz.prog 148 args h R :=
  C_call Tryz.func148 (by kernel_rfl) com148 (by kernel_rfl) (by kernel_rfl) hN q

/-- bindle/stone.Is -/
noncomputable def g151 : AC :=
 .seq (.reg [⟨none, some 4, .assign (.const (.bool false))⟩])
 (.seq (.reg [⟨none, some 5, .move (.tmp 1)⟩,
   ⟨none, some 6, .binOp .geq 3 (.tmp 5) (.const (.int .i64 0)) 3⟩,
   ⟨none, some 7, .move (.tmp 6)⟩,
   ⟨some (some 7, true), some 8, .move (.tmp 1)⟩,
   ⟨some (some 7, true), some 9, .move (.tmp 0)⟩,
   ⟨some (some 7, true), some 10, .call { callee := (.builtin .len), args := #[(.tmp 9)], argTypes := #[22] }⟩,
   ⟨some (some 7, true), some 11, .binOp .sub 3 (.tmp 10) (.const (.int .i64 4)) 3⟩,
   ⟨some (some 7, true), some 12, .binOp .leq 3 (.tmp 8) (.tmp 11) 3⟩,
   ⟨none, some 13, .pick (.tmp 7) (.tmp 12) (.const (.bool false))⟩,
   ⟨none, some 14, .move (.tmp 13)⟩,
   ⟨some (some 14, true), some 15, .move (.tmp 0)⟩,
   ⟨some (some 14, true), some 16, .move (.tmp 1)⟩,
   ⟨some (some 14, true), some 17, .move (.tmp 1)⟩,
   ⟨some (some 14, true), some 18, .binOp .add 3 (.tmp 17) (.const (.int .i64 4)) 3⟩,
   ⟨some (some 14, true), some 19, .slice 22 (.tmp 15) (some (.tmp 16)) (some (.tmp 18)) none⟩,
   ⟨some (some 14, true), some 20, .convert 22 9 (.tmp 19)⟩,
   ⟨some (some 14, true), some 21, .binOp .eql 9 (.tmp 20) (.const (.string { data := #[84, 79, 77, 66] })) 9⟩,
   ⟨none, some 22, .pick (.tmp 14) (.tmp 21) (.const (.bool false))⟩,
   ⟨none, some 4, .assign (.tmp 22)⟩])
  (.ret))
theorem com151 : com Tryz.prog 23 ((Tryz.f151.body).getD .skip) = g151 := by kernel_rfl
theorem enter151 {args : List Value} {h : Heap} {R : Value → Heap → Prop} (hN : args.length ≤ 23) (q : AWC Tryz.prog 23 g151 (RetQ Tryz.prog [.tmp 4] R) (frOf args) h) : ACall Tryz.prog 151 args h R :=
  C_call Tryz.func151 (by kernel_rfl) com151 (by kernel_rfl) (by kernel_rfl) hN q

/-- bindle/local.Take -/
noncomputable def g153 : AC :=
 .seq (.reg [⟨none, some 6, .alloc 115⟩,
  ⟨none, some 7, .assign (.const (.int .i64 0))⟩,
  ⟨none, some 8, .assign (.const (.int .i64 0))⟩])
 (.seq (.block 0 (.seq (.reg [⟨none, some 13, .move (.tmp 2)⟩,
     ⟨none, some 14, .binOp .lss 3 (.tmp 13) (.const (.int .i64 0)) 3⟩,
     ⟨none, some 15, .move (.tmp 14)⟩,
     ⟨some (some 15, false), some 16, .move (.tmp 2)⟩,
     ⟨some (some 15, false), some 17, .move (.tmp 1)⟩,
     ⟨some (some 15, false), some 18, .call { callee := (.builtin .len), args := #[(.tmp 17)], argTypes := #[22] }⟩,
     ⟨some (some 15, false), some 19, .binOp .gtr 3 (.tmp 16) (.tmp 18) 3⟩,
     ⟨none, some 20, .pick (.tmp 15) (.const (.bool true)) (.tmp 19)⟩,
     ⟨none, some 12, .assign (.tmp 20)⟩])
    (.cond (.tmp 12) (.seq (.reg [⟨none, some 21, .build 115 #[]⟩,
       ⟨none, none, .store 115 (.tmp 6) (.tmp 21)⟩,
       ⟨none, some 7, .assign (.const (.int .i64 0))⟩,
       ⟨none, some 8, .assign (.const (.int .i64 1))⟩])
      (.ret))
     (.seq (.reg [⟨none, some 23, .move (.tmp 1)⟩,
       ⟨none, some 24, .call { callee := (.builtin .len), args := #[(.tmp 23)], argTypes := #[22] }⟩,
       ⟨none, some 25, .move (.tmp 2)⟩,
       ⟨none, some 26, .binOp .sub 3 (.tmp 24) (.tmp 25) 3⟩,
       ⟨none, some 27, .binOp .geq 3 (.tmp 26) (.const (.int .i64 4)) 3⟩,
       ⟨none, some 28, .move (.tmp 27)⟩,
       ⟨some (some 28, true), some 29, .move (.tmp 1)⟩,
       ⟨some (some 28, true), some 30, .move (.tmp 2)⟩,
       ⟨some (some 28, true), some 31, .call { callee := (.value (.func 199)), args := #[(.tmp 29), (.tmp 30)], argTypes := #[22, 3] }⟩,
       ⟨some (some 28, true), some 32, .unOp .not 4 (.tmp 31)⟩,
       ⟨none, some 33, .pick (.tmp 28) (.tmp 32) (.const (.bool false))⟩,
       ⟨none, some 22, .assign (.tmp 33)⟩])
      (.cond (.tmp 22) (.seq (.reg [⟨none, some 34, .build 115 #[]⟩,
         ⟨none, none, .store 115 (.tmp 6) (.tmp 34)⟩,
         ⟨none, some 7, .assign (.const (.int .i64 0))⟩,
         ⟨none, some 8, .assign (.const (.int .i64 3))⟩])
        (.ret))
       (.skip))))))
  (.seq (.reg [⟨none, some 35, .move (.tmp 1)⟩,
    ⟨none, some 36, .move (.tmp 2)⟩,
    ⟨none, some 37, .slice 22 (.tmp 35) (some (.tmp 36)) none none⟩,
    ⟨none, some 38, .call { callee := (.value (.func 164)), args := #[(.tmp 37)], argTypes := #[22] }⟩,
    ⟨none, some 9, .assign (.tmp 38)⟩])
   (.seq (.reg [⟨none, some 39, .move (.tmp 9)⟩,
     ⟨none, some 40, .call { callee := (.value (.func 200)), args := #[(.tmp 39)], argTypes := #[238] }⟩,
     ⟨none, none, .store 115 (.tmp 6) (.tmp 40)⟩])
    (.seq (.reg [⟨none, some 41, .move (.tmp 0)⟩,
      ⟨none, some 42, .move (.tmp 1)⟩,
      ⟨none, some 43, .move (.tmp 2)⟩,
      ⟨none, some 44, .move (.tmp 2)⟩,
      ⟨none, some 45, .move (.tmp 9)⟩,
      ⟨none, some 46, .call { callee := (.value (.func 201)), args := #[(.tmp 45)], argTypes := #[238] }⟩,
      ⟨none, some 47, .binOp .add 3 (.tmp 44) (.tmp 46) 3⟩,
      ⟨none, some 48, .slice 22 (.tmp 42) (some (.tmp 43)) (some (.tmp 47)) none⟩,
      ⟨none, some 49, .call { callee := (.value (.func 68)), args := #[(.tmp 41), (.tmp 48)], argTypes := #[94, 22] }⟩,
      ⟨none, some 10, .assign (.tmp 49)⟩])
     (.seq (.reg [⟨none, some 50, .move (.tmp 9)⟩,
       ⟨none, some 51, .call { callee := (.value (.func 165)), args := #[(.tmp 50), (.const (.int .i64 4))], argTypes := #[238, 3] }⟩,
       ⟨none, some 11, .assign (.tmp 51)⟩])
      (.seq (.block 1 (.seq (.reg [⟨none, some 53, .move (.tmp 9)⟩,
          ⟨none, some 54, .call { callee := (.value (.func 167)), args := #[(.tmp 53)], argTypes := #[238] }⟩,
          ⟨none, some 55, .unOp .not 4 (.tmp 54)⟩,
          ⟨none, some 52, .assign (.tmp 55)⟩])
         (.cond (.tmp 52) (.seq (.reg [⟨none, some 56, .build 115 #[]⟩,
            ⟨none, none, .store 115 (.tmp 6) (.tmp 56)⟩,
            ⟨none, some 7, .assign (.const (.int .i64 0))⟩,
            ⟨none, some 8, .assign (.const (.int .i64 2))⟩])
           (.ret))
          (.seq (.reg [⟨none, some 58, .move (.tmp 11)⟩,
            ⟨none, some 59, .move (.tmp 10)⟩,
            ⟨none, some 60, .binOp .neq 39 (.tmp 58) (.tmp 59) 39⟩,
            ⟨none, some 57, .assign (.tmp 60)⟩])
           (.cond (.tmp 57) (.seq (.reg [⟨none, some 61, .build 115 #[]⟩,
              ⟨none, none, .store 115 (.tmp 6) (.tmp 61)⟩,
              ⟨none, some 7, .assign (.const (.int .i64 0))⟩,
              ⟨none, some 8, .assign (.const (.int .i64 4))⟩])
             (.ret))
            (.seq (.reg [⟨none, some 63, .load 115 (.tmp 6)⟩,
              ⟨none, some 64, .call { callee := (.value (.func 102)), args := #[(.tmp 63)], argTypes := #[115] }⟩,
              ⟨none, some 65, .unOp .not 4 (.tmp 64)⟩,
              ⟨none, some 62, .assign (.tmp 65)⟩])
             (.cond (.tmp 62) (.seq (.reg [⟨none, some 66, .build 115 #[]⟩,
                ⟨none, none, .store 115 (.tmp 6) (.tmp 66)⟩,
                ⟨none, some 7, .assign (.const (.int .i64 0))⟩,
                ⟨none, some 8, .assign (.const (.int .i64 3))⟩])
               (.ret))
              (.skip))))))))
       (.seq (.draw [⟨⟨none, some 67, .load 115 (.tmp 6)⟩, []⟩,
      ⟨⟨none, some 68, .move (.tmp 2)⟩, []⟩,
      ⟨⟨none, some 69, .move (.tmp 9)⟩, []⟩,
      ⟨⟨none, some 70, .call { callee := (.value (.func 201)), args := #[(.tmp 69)], argTypes := #[238] }⟩, [⟨none, some 67, .load 115 (.tmp 6)⟩]⟩,
      ⟨⟨none, some 71, .binOp .add 3 (.tmp 68) (.tmp 70) 3⟩, []⟩,
      ⟨⟨none, none, .store 115 (.tmp 6) (.tmp 67)⟩, []⟩,
      ⟨⟨none, some 7, .assign (.tmp 71)⟩, []⟩,
      ⟨⟨none, some 8, .assign (.const (.int .i64 0))⟩, []⟩])
        (.ret))))))))
theorem com153 : com Tryz.prog 72 ((Tryz.f153.body).getD .skip) = g153 := by kernel_rfl
theorem enter153 {args : List Value} {h : Heap} {R : Value → Heap → Prop} (hN : args.length ≤ 72) (q : AWC Tryz.prog 72 g153 (RetQ Tryz.prog [.cell 6 115, .tmp 7, .tmp 8] R) (frOf args) h) : ACall Tryz.prog 153 args h R :=
  C_call Tryz.func153 (by kernel_rfl) com153 (by kernel_rfl) (by kernel_rfl) hN q

/-- slices.IndexFunc[[]string,string] -/
noncomputable def g155 : AC :=
 .seq (.reg [⟨none, some 4, .assign (.const (.int .i64 0))⟩])
 (.seq (.seq (.reg [⟨none, some 6, .move (.tmp 0)⟩,
    ⟨none, some 7, .call { callee := (.builtin .len), args := #[(.tmp 6)], argTypes := #[50] }⟩,
    ⟨none, some 8, .move (.const (.int .i64 0))⟩])
   (.block 0 (.loop (.seq (.reg [⟨none, some 9, .binOp .lss 3 (.tmp 8) (.tmp 7) 3⟩])
      (.seq (.cond (.tmp 9) (.skip)
        (.exit 0))
       (.seq (.block 1 (.seq (.reg [⟨none, some 10, .move (.tmp 8)⟩,
           ⟨none, some 5, .assign (.tmp 10)⟩])
          (.seq (.reg [⟨none, some 11, .move (.tmp 1)⟩,
            ⟨none, some 12, .move (.tmp 0)⟩,
            ⟨none, some 13, .move (.tmp 5)⟩,
            ⟨none, some 14, .indexAddr 50 (.tmp 12) (.tmp 13)⟩,
            ⟨none, some 15, .load 9 (.tmp 14)⟩,
            ⟨none, some 16, .call { callee := (.value (.tmp 11)), args := #[(.tmp 15)], argTypes := #[9] }⟩])
           (.cond (.tmp 16) (.seq (.reg [⟨none, some 17, .move (.tmp 5)⟩,
              ⟨none, some 4, .assign (.tmp 17)⟩])
             (.ret))
            (.skip)))))
        (.reg [⟨none, some 18, .binOp .add 3 (.tmp 8) (.const (.int .i64 1)) 3⟩,
         ⟨none, some 8, .move (.tmp 18)⟩])))))))
  (.seq (.reg [⟨none, some 4, .assign (.const (.int .i64 (-1)))⟩])
   (.ret)))
theorem com155 : com Tryz.prog 19 ((Tryz.f155.body).getD .skip) = g155 := by kernel_rfl
theorem enter155 {args : List Value} {h : Heap} {R : Value → Heap → Prop} (hN : args.length ≤ 19) (q : AWC Tryz.prog 19 g155 (RetQ Tryz.prog [.tmp 4] R) (frOf args) h) : ACall Tryz.prog 155 args h R :=
  C_call Tryz.func155 (by kernel_rfl) com155 (by kernel_rfl) (by kernel_rfl) hN q

/-- strings.genSplit -/
noncomputable def g156 : AC :=
 .seq (.reg [⟨none, some 8, .assign (.const (.slice none 0 0))⟩])
 (.seq (.seq (.reg [⟨none, some 12, .move (.tmp 3)⟩,
    ⟨none, some 13, .binOp .eql 3 (.tmp 12) (.const (.int .i64 0)) 3⟩])
   (.cond (.tmp 13) (.seq (.reg [⟨none, some 8, .assign (.const (.slice none 0 0))⟩])
     (.ret))
    (.skip)))
  (.seq (.seq (.reg [⟨none, some 14, .move (.tmp 1)⟩,
     ⟨none, some 15, .binOp .eql 9 (.tmp 14) (.const (.string { data := #[] })) 9⟩])
    (.cond (.tmp 15) (.seq (.reg [⟨none, some 16, .move (.tmp 0)⟩,
       ⟨none, some 17, .move (.tmp 3)⟩,
       ⟨none, some 18, .call { callee := (.value (.func 204)), args := #[(.tmp 16), (.tmp 17)], argTypes := #[9, 3] }⟩,
       ⟨none, some 8, .assign (.tmp 18)⟩])
      (.ret))
     (.skip)))
   (.seq (.seq (.reg [⟨none, some 19, .move (.tmp 3)⟩,
      ⟨none, some 20, .binOp .lss 3 (.tmp 19) (.const (.int .i64 0)) 3⟩])
     (.cond (.tmp 20) (.reg [⟨none, some 21, .move (.tmp 0)⟩,
       ⟨none, some 22, .move (.tmp 1)⟩,
       ⟨none, some 23, .call { callee := (.value (.func 205)), args := #[(.tmp 21), (.tmp 22)], argTypes := #[9, 9] }⟩,
       ⟨none, some 24, .binOp .add 3 (.tmp 23) (.const (.int .i64 1)) 3⟩,
       ⟨none, some 3, .assign (.tmp 24)⟩])
      (.skip)))
    (.seq (.reg [⟨none, some 25, .move (.tmp 3)⟩,
      ⟨none, some 26, .move (.tmp 0)⟩,
      ⟨none, some 27, .call { callee := (.builtin .len), args := #[(.tmp 26)], argTypes := #[9] }⟩,
      ⟨none, some 28, .binOp .add 3 (.tmp 27) (.const (.int .i64 1)) 3⟩,
      ⟨none, some 29, .call { callee := (.builtin .min), args := #[(.tmp 25), (.tmp 28)], argTypes := #[3, 3] }⟩,
      ⟨none, some 3, .assign (.tmp 29)⟩])
     (.seq (.reg [⟨none, some 30, .move (.tmp 3)⟩,
       ⟨none, some 31, .makeSlice 50 (.tmp 30) (.tmp 30)⟩,
       ⟨none, some 9, .assign (.tmp 31)⟩])
      (.seq (.reg [⟨none, some 32, .move (.tmp 3)⟩,
        ⟨none, some 33, .binOp .sub 3 (.tmp 32) (.const (.int .i64 1)) 3⟩,
        ⟨none, some 3, .assign (.tmp 33)⟩])
       (.seq (.reg [⟨none, some 10, .assign (.const (.int .i64 0))⟩])
        (.seq (.block 0 (.loop (.seq (.seq (.reg [⟨none, some 34, .move (.tmp 10)⟩,
              ⟨none, some 35, .move (.tmp 3)⟩,
              ⟨none, some 36, .binOp .lss 3 (.tmp 34) (.tmp 35) 3⟩])
             (.cond (.tmp 36) (.skip)
              (.exit 0)))
            (.block 1 (.seq (.reg [⟨none, some 37, .move (.tmp 0)⟩,
               ⟨none, some 38, .move (.tmp 1)⟩,
               ⟨none, some 39, .call { callee := (.value (.func 206)), args := #[(.tmp 37), (.tmp 38)], argTypes := #[9, 9] }⟩,
               ⟨none, some 11, .assign (.tmp 39)⟩])
              (.seq (.seq (.reg [⟨none, some 40, .move (.tmp 11)⟩,
                 ⟨none, some 41, .binOp .lss 3 (.tmp 40) (.const (.int .i64 0)) 3⟩])
                (.cond (.tmp 41) (.exit 0)
                 (.skip)))
               (.seq (.reg [⟨none, some 42, .move (.tmp 9)⟩,
                 ⟨none, some 43, .move (.tmp 10)⟩,
                 ⟨none, some 44, .move (.tmp 0)⟩,
                 ⟨none, some 45, .move (.tmp 11)⟩,
                 ⟨none, some 46, .move (.tmp 2)⟩,
                 ⟨none, some 47, .binOp .add 3 (.tmp 45) (.tmp 46) 3⟩,
                 ⟨none, some 48, .slice 9 (.tmp 44) none (some (.tmp 47)) none⟩,
                 ⟨none, some 49, .indexAddr 50 (.tmp 42) (.tmp 43)⟩,
                 ⟨none, none, .store 9 (.tmp 49) (.tmp 48)⟩])
                (.seq (.reg [⟨none, some 50, .move (.tmp 0)⟩,
                  ⟨none, some 51, .move (.tmp 11)⟩,
                  ⟨none, some 52, .move (.tmp 1)⟩,
                  ⟨none, some 53, .call { callee := (.builtin .len), args := #[(.tmp 52)], argTypes := #[9] }⟩,
                  ⟨none, some 54, .binOp .add 3 (.tmp 51) (.tmp 53) 3⟩,
                  ⟨none, some 55, .slice 9 (.tmp 50) (some (.tmp 54)) none none⟩,
                  ⟨none, some 0, .assign (.tmp 55)⟩])
                 (.reg [⟨none, some 56, .move (.tmp 10)⟩,
                  ⟨none, some 57, .binOp .add 3 (.tmp 56) (.const (.int .i64 1)) 3⟩,
                  ⟨none, some 10, .assign (.tmp 57)⟩])))))))))
         (.seq (.reg [⟨none, some 58, .move (.tmp 9)⟩,
           ⟨none, some 59, .move (.tmp 10)⟩,
           ⟨none, some 60, .move (.tmp 0)⟩,
           ⟨none, some 61, .indexAddr 50 (.tmp 58) (.tmp 59)⟩,
           ⟨none, none, .store 9 (.tmp 61) (.tmp 60)⟩])
          (.seq (.reg [⟨none, some 62, .move (.tmp 9)⟩,
            ⟨none, some 63, .move (.tmp 10)⟩,
            ⟨none, some 64, .binOp .add 3 (.tmp 63) (.const (.int .i64 1)) 3⟩,
            ⟨none, some 65, .slice 50 (.tmp 62) none (some (.tmp 64)) none⟩,
            ⟨none, some 8, .assign (.tmp 65)⟩])
           (.ret)))))))))))
theorem com156 : com Tryz.prog 66 ((Tryz.f156.body).getD .skip) = g156 := by kernel_rfl
theorem enter156 {args : List Value} {h : Heap} {R : Value → Heap → Prop} (hN : args.length ≤ 66) (q : AWC Tryz.prog 66 g156 (RetQ Tryz.prog [.tmp 8] R) (frOf args) h) : ACall Tryz.prog 156 args h R :=
  C_call Tryz.func156 (by kernel_rfl) com156 (by kernel_rfl) (by kernel_rfl) hN q

/-- bindle/field.width -/
noncomputable def g157 : AC :=
 .seq (.reg [⟨none, some 2, .assign (.const (.int .i64 0))⟩])
 (.seq (.reg [⟨none, some 3, .move (.tmp 0)⟩,
   ⟨none, some 4, .call { callee := (.builtin .min), args := #[(.const (.int .i64 4)), (.tmp 3)], argTypes := #[3, 3] }⟩,
   ⟨none, some 5, .call { callee := (.builtin .max), args := #[(.const (.int .i64 1)), (.tmp 4)], argTypes := #[3, 3] }⟩,
   ⟨none, some 2, .assign (.tmp 5)⟩])
  (.ret))
theorem com157 : com Tryz.prog 6 ((Tryz.f157.body).getD .skip) = g157 := by kernel_rfl
theorem enter157 {args : List Value} {h : Heap} {R : Value → Heap → Prop} (hN : args.length ≤ 6) (q : AWC Tryz.prog 6 g157 (RetQ Tryz.prog [.tmp 2] R) (frOf args) h) : ACall Tryz.prog 157 args h R :=
  C_call Tryz.func157 (by kernel_rfl) com157 (by kernel_rfl) (by kernel_rfl) hN q

/-- bindle/field.New -/
noncomputable def g164 : AC :=
 .seq (.reg [⟨none, some 2, .assign (.const (.pointer none))⟩])
 (.seq (.reg [⟨none, some 3, .move (.tmp 0)⟩,
   ⟨none, some 4, .build 298 #[(0, (.tmp 3))]⟩,
   ⟨none, some 5, .box 298 (.tmp 4)⟩,
   ⟨none, some 2, .assign (.tmp 5)⟩])
  (.ret))
theorem com164 : com Tryz.prog 6 ((Tryz.f164.body).getD .skip) = g164 := by kernel_rfl
theorem enter164 {args : List Value} {h : Heap} {R : Value → Heap → Prop} (hN : args.length ≤ 6) (q : AWC Tryz.prog 6 g164 (RetQ Tryz.prog [.tmp 2] R) (frOf args) h) : ACall Tryz.prog 164 args h R :=
  C_call Tryz.func164 (by kernel_rfl) com164 (by kernel_rfl) (by kernel_rfl) hN q

/-- ( *bindle/field.Reader).Number -/
noncomputable def g165 : AC :=
 .seq (.reg [⟨none, some 4, .assign (.const (.int .u32 0))⟩])
 (.seq (.seq (.reg [⟨none, some 7, .move (.tmp 0)⟩,
    ⟨none, some 8, .call { callee := (.value (.func 167)), args := #[(.tmp 7)], argTypes := #[238] }⟩,
    ⟨none, some 9, .unOp .not 4 (.tmp 8)⟩])
   (.cond (.tmp 9) (.seq (.reg [⟨none, some 4, .assign (.const (.int .u32 0))⟩])
     (.ret))
    (.skip)))
  (.seq (.reg [⟨none, some 11, .move (.tmp 0)⟩,
    ⟨none, some 12, .nilCheck (.tmp 11)⟩,
    ⟨none, some 13, .fieldAddr 298 (.tmp 12) 0⟩,
    ⟨none, some 14, .load 22 (.tmp 13)⟩,
    ⟨none, some 15, .move (.tmp 0)⟩,
    ⟨none, some 16, .nilCheck (.tmp 15)⟩,
    ⟨none, some 17, .fieldAddr 298 (.tmp 16) 1⟩,
    ⟨none, some 18, .load 3 (.tmp 17)⟩,
    ⟨none, some 19, .move (.tmp 1)⟩,
    ⟨none, some 20, .call { callee := (.value (.func 211)), args := #[(.tmp 14), (.tmp 18), (.tmp 19)], argTypes := #[22, 3, 3] }⟩,
    ⟨none, some 10, .move (.tmp 20)⟩,
    ⟨none, some 21, .extract (.tmp 10) 0⟩,
    ⟨none, some 22, .extract (.tmp 10) 1⟩,
    ⟨none, some 5, .assign (.tmp 21)⟩,
    ⟨none, some 6, .assign (.tmp 22)⟩])
   (.seq (.seq (.reg [⟨none, some 23, .move (.tmp 6)⟩,
      ⟨none, some 24, .unOp .not 4 (.tmp 23)⟩])
     (.cond (.tmp 24) (.seq (.reg [⟨none, some 25, .move (.tmp 0)⟩,
        ⟨none, some 26, .nilCheck (.tmp 25)⟩,
        ⟨none, some 27, .fieldAddr 298 (.tmp 26) 2⟩,
        ⟨none, none, .store 4 (.tmp 27) (.const (.bool true))⟩])
       (.seq (.reg [⟨none, some 4, .assign (.const (.int .u32 0))⟩])
        (.ret)))
      (.skip)))
    (.seq (.draw [⟨⟨none, some 28, .move (.tmp 0)⟩, []⟩,
      ⟨⟨none, some 29, .nilCheck (.tmp 28)⟩, []⟩,
      ⟨⟨none, some 30, .fieldAddr 298 (.tmp 29) 1⟩, []⟩,
      ⟨⟨none, some 31, .load 3 (.tmp 30)⟩, []⟩,
      ⟨⟨none, some 32, .move (.tmp 1)⟩, []⟩,
      ⟨⟨none, some 33, .call { callee := (.value (.func 157)), args := #[(.tmp 32)], argTypes := #[3] }⟩, [⟨none, some 31, .load 3 (.tmp 30)⟩]⟩,
      ⟨⟨none, some 34, .binOp .add 3 (.tmp 31) (.tmp 33) 3⟩, []⟩,
      ⟨⟨none, some 35, .nilCheck (.tmp 28)⟩, []⟩,
      ⟨⟨none, some 36, .fieldAddr 298 (.tmp 35) 1⟩, []⟩,
      ⟨⟨none, none, .store 3 (.tmp 36) (.tmp 34)⟩, []⟩])
     (.seq (.reg [⟨none, some 37, .move (.tmp 5)⟩,
       ⟨none, some 4, .assign (.tmp 37)⟩])
      (.ret))))))
theorem com165 : com Tryz.prog 38 ((Tryz.f165.body).getD .skip) = g165 := by kernel_rfl
theorem enter165 {args : List Value} {h : Heap} {R : Value → Heap → Prop} (hN : args.length ≤ 38) (q : AWC Tryz.prog 38 g165 (RetQ Tryz.prog [.tmp 4] R) (frOf args) h) : ACall Tryz.prog 165 args h R :=
  C_call Tryz.func165 (by kernel_rfl) com165 (by kernel_rfl) (by kernel_rfl) hN q

/-- ( *bindle/field.Reader).Bytes -/
noncomputable def g166 : AC :=
 .seq (.reg [⟨none, some 4, .assign (.const (.slice none 0 0))⟩])
 (.seq (.seq (.reg [⟨none, some 6, .move (.tmp 0)⟩,
    ⟨none, some 7, .call { callee := (.value (.func 167)), args := #[(.tmp 6)], argTypes := #[238] }⟩,
    ⟨none, some 8, .unOp .not 4 (.tmp 7)⟩])
   (.cond (.tmp 8) (.seq (.reg [⟨none, some 4, .assign (.const (.slice none 0 0))⟩])
     (.ret))
    (.skip)))
  (.seq (.seq (.reg [⟨none, some 9, .move (.tmp 1)⟩,
     ⟨none, some 10, .binOp .lss 3 (.tmp 9) (.const (.int .i64 0)) 3⟩,
     ⟨none, some 11, .move (.tmp 10)⟩,
     ⟨some (some 11, false), some 12, .move (.tmp 1)⟩,
     ⟨some (some 11, false), some 13, .move (.tmp 0)⟩,
     ⟨some (some 11, false), some 14, .nilCheck (.tmp 13)⟩,
     ⟨some (some 11, false), some 15, .fieldAddr 298 (.tmp 14) 0⟩,
     ⟨some (some 11, false), some 16, .load 22 (.tmp 15)⟩,
     ⟨some (some 11, false), some 17, .call { callee := (.builtin .len), args := #[(.tmp 16)], argTypes := #[22] }⟩,
     ⟨some (some 11, false), some 18, .move (.tmp 0)⟩,
     ⟨some (some 11, false), some 19, .nilCheck (.tmp 18)⟩,
     ⟨some (some 11, false), some 20, .fieldAddr 298 (.tmp 19) 1⟩,
     ⟨some (some 11, false), some 21, .load 3 (.tmp 20)⟩,
     ⟨some (some 11, false), some 22, .binOp .sub 3 (.tmp 17) (.tmp 21) 3⟩,
     ⟨some (some 11, false), some 23, .binOp .gtr 3 (.tmp 12) (.tmp 22) 3⟩,
     ⟨none, some 24, .pick (.tmp 11) (.const (.bool true)) (.tmp 23)⟩])
    (.cond (.tmp 24) (.seq (.reg [⟨none, some 25, .move (.tmp 0)⟩,
       ⟨none, some 26, .nilCheck (.tmp 25)⟩,
       ⟨none, some 27, .fieldAddr 298 (.tmp 26) 2⟩,
       ⟨none, none, .store 4 (.tmp 27) (.const (.bool true))⟩])
      (.seq (.reg [⟨none, some 4, .assign (.const (.slice none 0 0))⟩])
       (.ret)))
     (.skip)))
   (.seq (.reg [⟨none, some 28, .move (.tmp 1)⟩,
     ⟨none, some 29, .makeSlice 22 (.tmp 28) (.tmp 28)⟩,
     ⟨none, some 5, .assign (.tmp 29)⟩])
    (.seq (.reg [⟨none, some 30, .move (.tmp 5)⟩,
      ⟨none, some 31, .move (.tmp 0)⟩,
      ⟨none, some 32, .nilCheck (.tmp 31)⟩,
      ⟨none, some 33, .fieldAddr 298 (.tmp 32) 0⟩,
      ⟨none, some 34, .load 22 (.tmp 33)⟩,
      ⟨none, some 35, .move (.tmp 0)⟩,
      ⟨none, some 36, .nilCheck (.tmp 35)⟩,
      ⟨none, some 37, .fieldAddr 298 (.tmp 36) 1⟩,
      ⟨none, some 38, .load 3 (.tmp 37)⟩,
      ⟨none, some 39, .slice 22 (.tmp 34) (some (.tmp 38)) none none⟩,
      ⟨none, some 40, .call { callee := (.builtin .copy), args := #[(.tmp 30), (.tmp 39)], argTypes := #[22, 22] }⟩])
     (.seq (.reg [⟨none, some 41, .move (.tmp 0)⟩,
       ⟨none, some 42, .nilCheck (.tmp 41)⟩,
       ⟨none, some 43, .fieldAddr 298 (.tmp 42) 1⟩,
       ⟨none, some 44, .load 3 (.tmp 43)⟩,
       ⟨none, some 45, .move (.tmp 1)⟩,
       ⟨none, some 46, .binOp .add 3 (.tmp 44) (.tmp 45) 3⟩,
       ⟨none, some 47, .nilCheck (.tmp 41)⟩,
       ⟨none, some 48, .fieldAddr 298 (.tmp 47) 1⟩,
       ⟨none, none, .store 3 (.tmp 48) (.tmp 46)⟩])
      (.seq (.reg [⟨none, some 49, .move (.tmp 5)⟩,
        ⟨none, some 4, .assign (.tmp 49)⟩])
       (.ret)))))))
theorem com166 : com Tryz.prog 50 ((Tryz.f166.body).getD .skip) = g166 := by kernel_rfl
theorem enter166 {args : List Value} {h : Heap} {R : Value → Heap → Prop} (hN : args.length ≤ 50) (q : AWC Tryz.prog 50 g166 (RetQ Tryz.prog [.tmp 4] R) (frOf args) h) : ACall Tryz.prog 166 args h R :=
  C_call Tryz.func166 (by kernel_rfl) com166 (by kernel_rfl) (by kernel_rfl) hN q

/-- ( *bindle/field.Reader).Ok -/
noncomputable def g167 : AC :=
 .seq (.reg [⟨none, some 2, .assign (.const (.bool false))⟩])
 (.seq (.reg [⟨none, some 3, .move (.tmp 0)⟩,
   ⟨none, some 4, .binOp .neq 238 (.tmp 3) (.const (.pointer none)) 238⟩,
   ⟨none, some 5, .move (.tmp 4)⟩,
   ⟨some (some 5, true), some 6, .move (.tmp 0)⟩,
   ⟨some (some 5, true), some 7, .nilCheck (.tmp 6)⟩,
   ⟨some (some 5, true), some 8, .fieldAddr 298 (.tmp 7) 2⟩,
   ⟨some (some 5, true), some 9, .load 4 (.tmp 8)⟩,
   ⟨some (some 5, true), some 10, .unOp .not 4 (.tmp 9)⟩,
   ⟨none, some 11, .pick (.tmp 5) (.tmp 10) (.const (.bool false))⟩,
   ⟨none, some 2, .assign (.tmp 11)⟩])
  (.ret))
theorem com167 : com Tryz.prog 12 ((Tryz.f167.body).getD .skip) = g167 := by kernel_rfl
theorem enter167 {args : List Value} {h : Heap} {R : Value → Heap → Prop} (hN : args.length ≤ 12) (q : AWC Tryz.prog 12 g167 (RetQ Tryz.prog [.tmp 2] R) (frOf args) h) : ACall Tryz.prog 167 args h R :=
  C_call Tryz.func167 (by kernel_rfl) com167 (by kernel_rfl) (by kernel_rfl) hN q

/-- ( *bindle/field.Reader).Left -/
noncomputable def g168 : AC :=
 .seq (.reg [⟨none, some 2, .assign (.const (.int .i64 0))⟩])
 (.seq (.seq (.reg [⟨none, some 3, .move (.tmp 0)⟩,
    ⟨none, some 4, .binOp .eql 238 (.tmp 3) (.const (.pointer none)) 238⟩])
   (.cond (.tmp 4) (.seq (.reg [⟨none, some 2, .assign (.const (.int .i64 0))⟩])
     (.ret))
    (.skip)))
  (.seq (.reg [⟨none, some 5, .move (.tmp 0)⟩,
    ⟨none, some 6, .nilCheck (.tmp 5)⟩,
    ⟨none, some 7, .fieldAddr 298 (.tmp 6) 0⟩,
    ⟨none, some 8, .load 22 (.tmp 7)⟩,
    ⟨none, some 9, .call { callee := (.builtin .len), args := #[(.tmp 8)], argTypes := #[22] }⟩,
    ⟨none, some 10, .move (.tmp 0)⟩,
    ⟨none, some 11, .nilCheck (.tmp 10)⟩,
    ⟨none, some 12, .fieldAddr 298 (.tmp 11) 1⟩,
    ⟨none, some 13, .load 3 (.tmp 12)⟩,
    ⟨none, some 14, .binOp .sub 3 (.tmp 9) (.tmp 13) 3⟩,
    ⟨none, some 2, .assign (.tmp 14)⟩])
   (.ret)))
theorem com168 : com Tryz.prog 15 ((Tryz.f168.body).getD .skip) = g168 := by kernel_rfl
theorem enter168 {args : List Value} {h : Heap} {R : Value → Heap → Prop} (hN : args.length ≤ 15) (q : AWC Tryz.prog 15 g168 (RetQ Tryz.prog [.tmp 2] R) (frOf args) h) : ACall Tryz.prog 168 args h R :=
  C_call Tryz.func168 (by kernel_rfl) com168 (by kernel_rfl) (by kernel_rfl) hN q

/-- bindle/member.behind -/
noncomputable def g170 : AC :=
 .seq (.reg [⟨none, some 4, .assign (.const (.string { data := #[] }))⟩,
  ⟨none, some 5, .assign (.const (.bool false))⟩])
 (.seq (.block 0 (.seq (.reg [⟨none, some 7, .move (.tmp 1)⟩,
     ⟨none, some 8, .call { callee := (.value (.func 54)), args := #[(.tmp 7)], argTypes := #[9] }⟩,
     ⟨none, some 9, .unOp .not 4 (.tmp 8)⟩,
     ⟨none, some 6, .assign (.tmp 9)⟩])
    (.cond (.tmp 6) (.seq (.reg [⟨none, some 4, .assign (.const (.string { data := #[] }))⟩,
       ⟨none, some 5, .assign (.const (.bool false))⟩])
      (.ret))
     (.seq (.reg [⟨none, some 11, .move (.tmp 0)⟩,
       ⟨none, some 12, .binOp .eql 9 (.tmp 11) (.const (.string { data := #[] })) 9⟩,
       ⟨none, some 10, .assign (.tmp 12)⟩])
      (.cond (.tmp 10) (.seq (.reg [⟨none, some 13, .move (.tmp 1)⟩,
         ⟨none, some 4, .assign (.tmp 13)⟩,
         ⟨none, some 5, .assign (.const (.bool true))⟩])
        (.ret))
       (.seq (.reg [⟨none, some 15, .move (.tmp 0)⟩,
         ⟨none, some 16, .call { callee := (.value (.func 54)), args := #[(.tmp 15)], argTypes := #[9] }⟩,
         ⟨none, some 17, .unOp .not 4 (.tmp 16)⟩,
         ⟨none, some 14, .assign (.tmp 17)⟩])
        (.cond (.tmp 14) (.seq (.reg [⟨none, some 4, .assign (.const (.string { data := #[] }))⟩,
           ⟨none, some 5, .assign (.const (.bool false))⟩])
          (.ret))
         (.skip))))))))
  (.seq (.reg [⟨none, some 18, .move (.tmp 1)⟩,
    ⟨none, some 19, .move (.tmp 0)⟩,
    ⟨none, some 20, .binOp .add 9 (.tmp 19) (.const (.string { data := #[47] })) 9⟩,
    ⟨none, some 21, .call { callee := (.value (.func 213)), args := #[(.tmp 18), (.tmp 20)], argTypes := #[9, 9] }⟩,
    ⟨none, some 22, .extract (.tmp 21) 0⟩,
    ⟨none, some 23, .extract (.tmp 21) 1⟩,
    ⟨none, some 4, .assign (.tmp 22)⟩,
    ⟨none, some 5, .assign (.tmp 23)⟩])
   (.ret)))
theorem com170 : com Tryz.prog 24 ((Tryz.f170.body).getD .skip) = g170 := by kernel_rfl
theorem enter170 {args : List Value} {h : Heap} {R : Value → Heap → Prop} (hN : args.length ≤ 24) (q : AWC Tryz.prog 24 g170 (RetQ Tryz.prog [.tmp 4, .tmp 5] R) (frOf args) h) : ACall Tryz.prog 170 args h R :=
  C_call Tryz.func170 (by kernel_rfl) com170 (by kernel_rfl) (by kernel_rfl) hN q

/-- ( *bindle/disk.Disk).sector -/
noncomputable def g171 : AC :=
 .seq (.reg [⟨none, some 4, .assign (.const (.slice none 0 0))⟩])
 (.seq (.reg [⟨none, some 7, .move (.tmp 1)⟩,
   ⟨none, some 8, .binOp .mul 3 (.tmp 7) (.const (.int .i64 512)) 3⟩,
   ⟨none, some 9, .move (.tmp 1)⟩,
   ⟨none, some 10, .binOp .add 3 (.tmp 9) (.const (.int .i64 1)) 3⟩,
   ⟨none, some 11, .binOp .mul 3 (.tmp 10) (.const (.int .i64 512)) 3⟩,
   ⟨none, some 5, .assign (.tmp 8)⟩,
   ⟨none, some 6, .assign (.tmp 11)⟩])
  (.seq (.reg [⟨none, some 12, .move (.tmp 0)⟩,
    ⟨none, some 13, .nilCheck (.tmp 12)⟩,
    ⟨none, some 14, .fieldAddr 247 (.tmp 13) 0⟩,
    ⟨none, some 15, .load 22 (.tmp 14)⟩,
    ⟨none, some 16, .move (.tmp 5)⟩,
    ⟨none, some 17, .move (.tmp 6)⟩,
    ⟨none, some 18, .move (.tmp 6)⟩,
    ⟨none, some 19, .slice 22 (.tmp 15) (some (.tmp 16)) (some (.tmp 17)) (some (.tmp 18))⟩,
    ⟨none, some 4, .assign (.tmp 19)⟩])
   (.ret)))
theorem com171 : com Tryz.prog 20 ((Tryz.f171.body).getD .skip) = g171 := by kernel_rfl
theorem enter171 {args : List Value} {h : Heap} {R : Value → Heap → Prop} (hN : args.length ≤ 20) (q : AWC Tryz.prog 20 g171 (RetQ Tryz.prog [.tmp 4] R) (frOf args) h) : ACall Tryz.prog 171 args h R :=
  C_call Tryz.func171 (by kernel_rfl) com171 (by kernel_rfl) (by kernel_rfl) hN q

/-- maps.Clone[map[string]int,string,int] -/
noncomputable def g172 : AC :=
 .seq (.reg [⟨none, some 2, .assign (.const (.map none))⟩])
 (.seq (.seq (.reg [⟨none, some 3, .move (.tmp 0)⟩,
    ⟨none, some 4, .binOp .eql 71 (.tmp 3) (.const (.map none)) 71⟩])
   (.cond (.tmp 4) (.seq (.reg [⟨none, some 2, .assign (.const (.map none))⟩])
     (.ret))
    (.skip)))
  (.seq (.reg [⟨none, some 5, .move (.tmp 0)⟩,
    ⟨none, some 6, .makeInterface 71 (.tmp 5)⟩,
    ⟨none, some 7, .call { callee := (.value (.func 214)), args := #[(.tmp 6)], argTypes := #[20] }⟩,
    ⟨none, some 8, .typeAssert (.tmp 7) 20 71 false⟩,
    ⟨none, some 2, .assign (.tmp 8)⟩])
   (.ret)))
theorem com172 : com Tryz.prog 9 ((Tryz.f172.body).getD .skip) = g172 := by kernel_rfl
theorem enter172 {args : List Value} {h : Heap} {R : Value → Heap → Prop} (hN : args.length ≤ 9) (q : AWC Tryz.prog 9 g172 (RetQ Tryz.prog [.tmp 2] R) (frOf args) h) : ACall Tryz.prog 172 args h R :=
  C_call Tryz.func172 (by kernel_rfl) com172 (by kernel_rfl) (by kernel_rfl) hN q

/-- bindle/disk.right -/
noncomputable def g173 : AC :=
 .seq (.reg [⟨none, some 4, .assign (.const (.bool false))⟩])
 (.seq (.reg [⟨none, some 5, .move (.tmp 0)⟩,
   ⟨none, some 6, .binOp .geq 3 (.tmp 5) (.const (.int .i64 0)) 3⟩,
   ⟨none, some 7, .move (.tmp 6)⟩,
   ⟨some (some 7, true), some 8, .move (.tmp 1)⟩,
   ⟨some (some 7, true), some 9, .binOp .geq 3 (.tmp 8) (.const (.int .i64 0)) 3⟩,
   ⟨none, some 10, .pick (.tmp 7) (.tmp 9) (.const (.bool false))⟩,
   ⟨none, some 11, .move (.tmp 10)⟩,
   ⟨some (some 11, true), some 12, .move (.tmp 1)⟩,
   ⟨some (some 11, true), some 13, .binOp .leq 3 (.tmp 12) (.const (.int .i64 2097152)) 3⟩,
   ⟨none, some 14, .pick (.tmp 11) (.tmp 13) (.const (.bool false))⟩,
   ⟨none, some 15, .move (.tmp 14)⟩,
   ⟨some (some 15, true), some 16, .move (.tmp 0)⟩,
   ⟨some (some 15, true), some 17, .move (.tmp 1)⟩,
   ⟨some (some 15, true), some 18, .binOp .sub 3 (.const (.int .i64 2097152)) (.tmp 17) 3⟩,
   ⟨some (some 15, true), some 19, .binOp .leq 3 (.tmp 16) (.tmp 18) 3⟩,
   ⟨none, some 20, .pick (.tmp 15) (.tmp 19) (.const (.bool false))⟩,
   ⟨none, some 4, .assign (.tmp 20)⟩])
  (.ret))
theorem com173 : com Tryz.prog 21 ((Tryz.f173.body).getD .skip) = g173 := by kernel_rfl
theorem enter173 {args : List Value} {h : Heap} {R : Value → Heap → Prop} (hN : args.length ≤ 21) (q : AWC Tryz.prog 21 g173 (RetQ Tryz.prog [.tmp 4] R) (frOf args) h) : ACall Tryz.prog 173 args h R :=
  C_call Tryz.func173 (by kernel_rfl) com173 (by kernel_rfl) (by kernel_rfl) hN q

/-- bindle/slot.Take -/
noncomputable def g174 : AC :=
 .seq (.reg [⟨none, some 4, .alloc 141⟩,
  ⟨none, some 5, .assign (.const (.int .i64 0))⟩])
 (.seq (.seq (.reg [⟨none, some 11, .move (.tmp 1)⟩,
    ⟨none, some 12, .call { callee := (.builtin .len), args := #[(.tmp 11)], argTypes := #[22] }⟩,
    ⟨none, some 13, .binOp .neq 3 (.tmp 12) (.const (.int .i64 512)) 3⟩])
   (.cond (.tmp 13) (.seq (.reg [⟨none, some 14, .build 141 #[]⟩,
      ⟨none, none, .store 141 (.tmp 4) (.tmp 14)⟩,
      ⟨none, some 5, .assign (.const (.int .i64 2))⟩])
     (.ret))
    (.skip)))
  (.seq (.reg [⟨none, some 15, .move (.tmp 1)⟩,
    ⟨none, some 16, .call { callee := (.value (.func 164)), args := #[(.tmp 15)], argTypes := #[22] }⟩,
    ⟨none, some 6, .assign (.tmp 16)⟩])
   (.seq (.reg [⟨none, some 17, .move (.tmp 6)⟩,
     ⟨none, some 18, .call { callee := (.value (.func 166)), args := #[(.tmp 17), (.const (.int .i64 4))], argTypes := #[238, 3] }⟩,
     ⟨none, some 19, .convert 22 9 (.tmp 18)⟩,
     ⟨none, some 7, .assign (.tmp 19)⟩])
    (.seq (.reg [⟨none, some 20, .move (.tmp 6)⟩,
      ⟨none, some 21, .call { callee := (.value (.func 165)), args := #[(.tmp 20), (.const (.int .i64 4))], argTypes := #[238, 3] }⟩,
      ⟨none, some 22, .convert 39 3 (.tmp 21)⟩,
      ⟨none, some 23, .move (.tmp 6)⟩,
      ⟨none, some 24, .call { callee := (.value (.func 165)), args := #[(.tmp 23), (.const (.int .i64 4))], argTypes := #[238, 3] }⟩,
      ⟨none, some 25, .convert 39 3 (.tmp 24)⟩,
      ⟨none, some 26, .move (.tmp 6)⟩,
      ⟨none, some 27, .call { callee := (.value (.func 165)), args := #[(.tmp 26), (.const (.int .i64 4))], argTypes := #[238, 3] }⟩,
      ⟨none, some 28, .convert 39 3 (.tmp 27)⟩,
      ⟨none, some 29, .build 141 #[(0, (.tmp 22)), (1, (.tmp 25)), (2, (.tmp 28))]⟩,
      ⟨none, some 8, .alloc 141⟩,
      ⟨none, none, .store 141 (.tmp 8) (.tmp 29)⟩])
     (.seq (.reg [⟨none, some 30, .move (.tmp 6)⟩,
       ⟨none, some 31, .call { callee := (.value (.func 165)), args := #[(.tmp 30), (.const (.int .i64 1))], argTypes := #[238, 3] }⟩,
       ⟨none, some 9, .assign (.tmp 31)⟩])
      (.seq (.reg [⟨none, some 32, .move (.tmp 9)⟩,
        ⟨none, some 33, .binOp .eql 39 (.tmp 32) (.const (.int .u32 1)) 39⟩,
        ⟨none, some 34, .fieldAddr 141 (.tmp 8) 3⟩,
        ⟨none, none, .store 4 (.tmp 34) (.tmp 33)⟩])
       (.seq (.reg [⟨none, some 35, .move (.tmp 0)⟩,
         ⟨none, some 36, .move (.tmp 1)⟩,
         ⟨none, some 37, .move (.tmp 6)⟩,
         ⟨none, some 38, .call { callee := (.value (.func 201)), args := #[(.tmp 37)], argTypes := #[238] }⟩,
         ⟨none, some 39, .slice 22 (.tmp 36) none (some (.tmp 38)) none⟩,
         ⟨none, some 40, .call { callee := (.value (.func 68)), args := #[(.tmp 35), (.tmp 39)], argTypes := #[94, 22] }⟩,
         ⟨none, some 10, .assign (.tmp 40)⟩])
        (.seq (.block 0 (.seq (.reg [⟨none, some 42, .move (.tmp 7)⟩,
            ⟨none, some 43, .binOp .neq 9 (.tmp 42) (.const (.string { data := #[83, 76, 79, 84] })) 9⟩,
            ⟨none, some 41, .assign (.tmp 43)⟩])
           (.cond (.tmp 41) (.seq (.reg [⟨none, some 44, .build 141 #[]⟩,
              ⟨none, none, .store 141 (.tmp 4) (.tmp 44)⟩,
              ⟨none, some 5, .assign (.const (.int .i64 3))⟩])
             (.ret))
            (.seq (.reg [⟨none, some 46, .move (.tmp 6)⟩,
              ⟨none, some 47, .call { callee := (.value (.func 165)), args := #[(.tmp 46), (.const (.int .i64 4))], argTypes := #[238, 3] }⟩,
              ⟨none, some 48, .move (.tmp 10)⟩,
              ⟨none, some 49, .binOp .neq 39 (.tmp 47) (.tmp 48) 39⟩,
              ⟨none, some 45, .assign (.tmp 49)⟩])
             (.cond (.tmp 45) (.seq (.reg [⟨none, some 50, .build 141 #[]⟩,
                ⟨none, none, .store 141 (.tmp 4) (.tmp 50)⟩,
                ⟨none, some 5, .assign (.const (.int .i64 4))⟩])
               (.ret))
              (.seq (.draw [⟨⟨none, some 52, .move (.tmp 9)⟩, []⟩,
      ⟨⟨none, some 53, .binOp .gtr 39 (.tmp 52) (.const (.int .u32 1)) 39⟩, []⟩,
      ⟨⟨none, some 54, .move (.tmp 53)⟩, []⟩,
      ⟨⟨some (some 54, false), some 55, .move (.tmp 1)⟩, []⟩,
      ⟨⟨some (some 54, false), some 56, .move (.tmp 6)⟩, []⟩,
      ⟨⟨some (some 54, false), some 60, .move (.tmp 6)⟩, []⟩,
      ⟨⟨some (some 54, false), some 57, .call { callee := (.value (.func 201)), args := #[(.tmp 56)], argTypes := #[238] }⟩, []⟩,
      ⟨⟨some (some 54, false), some 58, .slice 22 (.tmp 55) (some (.tmp 57)) none none⟩, []⟩,
      ⟨⟨some (some 54, false), some 59, .convert 22 9 (.tmp 58)⟩, []⟩,
      ⟨⟨some (some 54, false), some 61, .call { callee := (.value (.func 168)), args := #[(.tmp 60)], argTypes := #[238] }⟩, [⟨some (some 54, false), some 59, .convert 22 9 (.tmp 58)⟩]⟩,
      ⟨⟨some (some 54, false), some 62, .makeSlice 22 (.tmp 61) (.tmp 61)⟩, [⟨some (some 54, false), some 59, .convert 22 9 (.tmp 58)⟩]⟩,
      ⟨⟨some (some 54, false), some 63, .convert 22 9 (.tmp 62)⟩, []⟩,
      ⟨⟨some (some 54, false), some 64, .binOp .neq 9 (.tmp 59) (.tmp 63) 9⟩, []⟩,
      ⟨⟨none, some 65, .pick (.tmp 54) (.const (.bool true)) (.tmp 64)⟩, []⟩,
      ⟨⟨none, some 66, .move (.tmp 65)⟩, []⟩,
      ⟨⟨some (some 66, false), some 67, .load 141 (.tmp 8)⟩, []⟩,
      ⟨⟨some (some 66, false), some 68, .call { callee := (.value (.func 177)), args := #[(.tmp 67)], argTypes := #[141] }⟩, []⟩,
      ⟨⟨some (some 66, false), some 69, .unOp .not 4 (.tmp 68)⟩, []⟩,
      ⟨⟨none, some 70, .pick (.tmp 66) (.const (.bool true)) (.tmp 69)⟩, []⟩,
      ⟨⟨none, some 51, .assign (.tmp 70)⟩, []⟩])
               (.cond (.tmp 51) (.seq (.reg [⟨none, some 71, .build 141 #[]⟩,
                  ⟨none, none, .store 141 (.tmp 4) (.tmp 71)⟩,
                  ⟨none, some 5, .assign (.const (.int .i64 3))⟩])
                 (.ret))
                (.skip))))))))
         (.seq (.reg [⟨none, some 72, .load 141 (.tmp 8)⟩,
           ⟨none, none, .store 141 (.tmp 4) (.tmp 72)⟩,
           ⟨none, some 5, .assign (.const (.int .i64 0))⟩])
          (.ret))))))))))
theorem com174 : com Tryz.prog 73 ((Tryz.f174.body).getD .skip) = g174 := by kernel_rfl
theorem enter174 {args : List Value} {h : Heap} {R : Value → Heap → Prop} (hN : args.length ≤ 73) (q : AWC Tryz.prog 73 g174 (RetQ Tryz.prog [.cell 4 141, .tmp 5] R) (frOf args) h) : ACall Tryz.prog 174 args h R :=
  C_call Tryz.func174 (by kernel_rfl) com174 (by kernel_rfl) (by kernel_rfl) hN q

/-- bindle/foot.Read -/
noncomputable def g176 : AC :=
 .seq (.reg [⟨none, some 4, .assign (.const (.slice none 0 0))⟩,
  ⟨none, some 5, .assign (.const (.int .i64 0))⟩])
 (.seq (.reg [⟨none, some 9, .move (.tmp 0)⟩,
   ⟨none, some 10, .move (.tmp 1)⟩,
   ⟨none, some 11, .call { callee := (.value (.func 218)), args := #[(.tmp 9), (.tmp 10)], argTypes := #[94, 22] }⟩,
   ⟨none, some 8, .move (.tmp 11)⟩,
   ⟨none, some 12, .extract (.tmp 8) 0⟩,
   ⟨none, some 13, .extract (.tmp 8) 1⟩,
   ⟨none, some 6, .alloc 210⟩,
   ⟨none, none, .store 210 (.tmp 6) (.tmp 12)⟩,
   ⟨none, some 7, .assign (.tmp 13)⟩])
  (.seq (.seq (.reg [⟨none, some 14, .move (.tmp 7)⟩,
     ⟨none, some 15, .binOp .neq 32 (.tmp 14) (.const (.int .i64 0)) 32⟩])
    (.cond (.tmp 15) (.seq (.reg [⟨none, some 16, .move (.tmp 7)⟩,
       ⟨none, some 4, .assign (.const (.slice none 0 0))⟩,
       ⟨none, some 5, .assign (.tmp 16)⟩])
      (.ret))
     (.skip)))
   (.seq (.reg [⟨none, some 17, .move (.tmp 1)⟩,
     ⟨none, some 18, .move (.tmp 1)⟩,
     ⟨none, some 19, .call { callee := (.builtin .len), args := #[(.tmp 18)], argTypes := #[22] }⟩,
     ⟨none, some 20, .binOp .sub 3 (.tmp 19) (.const (.int .i64 20)) 3⟩,
     ⟨none, some 21, .slice 22 (.tmp 17) none (some (.tmp 20)) none⟩,
     ⟨none, some 1, .assign (.tmp 21)⟩])
    (.seq (.block 0 (.seq (.reg [⟨none, some 23, .fieldAddr 210 (.tmp 6) 1⟩,
        ⟨none, some 24, .load 3 (.tmp 23)⟩,
        ⟨none, some 25, .move (.tmp 1)⟩,
        ⟨none, some 26, .call { callee := (.builtin .len), args := #[(.tmp 25)], argTypes := #[22] }⟩,
        ⟨none, some 27, .binOp .neq 3 (.tmp 24) (.tmp 26) 3⟩,
        ⟨none, some 22, .assign (.tmp 27)⟩])
       (.cond (.tmp 22) (.seq (.reg [⟨none, some 4, .assign (.const (.slice none 0 0))⟩,
          ⟨none, some 5, .assign (.const (.int .i64 5))⟩])
         (.ret))
        (.seq (.draw [⟨⟨none, some 29, .fieldAddr 210 (.tmp 6) 2⟩, []⟩,
      ⟨⟨none, some 30, .load 39 (.tmp 29)⟩, []⟩,
      ⟨⟨none, some 31, .move (.tmp 0)⟩, []⟩,
      ⟨⟨none, some 32, .move (.tmp 1)⟩, []⟩,
      ⟨⟨none, some 33, .call { callee := (.value (.func 68)), args := #[(.tmp 31), (.tmp 32)], argTypes := #[94, 22] }⟩, [⟨none, some 30, .load 39 (.tmp 29)⟩]⟩,
      ⟨⟨none, some 34, .binOp .neq 39 (.tmp 30) (.tmp 33) 39⟩, []⟩,
      ⟨⟨none, some 28, .assign (.tmp 34)⟩, []⟩])
         (.cond (.tmp 28) (.seq (.reg [⟨none, some 4, .assign (.const (.slice none 0 0))⟩,
            ⟨none, some 5, .assign (.const (.int .i64 4))⟩])
           (.ret))
          (.skip))))))
     (.seq (.reg [⟨none, some 35, .move (.tmp 1)⟩,
       ⟨none, some 36, .fieldAddr 210 (.tmp 6) 0⟩,
       ⟨none, some 37, .load 3 (.tmp 36)⟩,
       ⟨none, some 38, .call { callee := (.value (.func 219)), args := #[(.tmp 35), (.tmp 37)], argTypes := #[22, 3] }⟩,
       ⟨none, some 39, .extract (.tmp 38) 0⟩,
       ⟨none, some 40, .extract (.tmp 38) 1⟩,
       ⟨none, some 4, .assign (.tmp 39)⟩,
       ⟨none, some 5, .assign (.tmp 40)⟩])
      (.ret))))))
theorem com176 : com Tryz.prog 41 ((Tryz.f176.body).getD .skip) = g176 := by kernel_rfl
theorem enter176 {args : List Value} {h : Heap} {R : Value → Heap → Prop} (hN : args.length ≤ 41) (q : AWC Tryz.prog 41 g176 (RetQ Tryz.prog [.tmp 4, .tmp 5] R) (frOf args) h) : ACall Tryz.prog 176 args h R :=
  C_call Tryz.func176 (by kernel_rfl) com176 (by kernel_rfl) (by kernel_rfl) hN q

/-- bindle/slot.Right -/
noncomputable def g177 : AC :=
 .seq (.reg [⟨none, some 1, .box 141 (.tmp 0)⟩,
  ⟨none, some 2, .assign (.const (.bool false))⟩])
 (.seq (.seq (.reg [⟨none, some 3, .fieldAddr 141 (.tmp 1) 0⟩,
    ⟨none, some 4, .load 3 (.tmp 3)⟩,
    ⟨none, some 5, .binOp .lss 3 (.tmp 4) (.const (.int .i64 0)) 3⟩,
    ⟨none, some 6, .move (.tmp 5)⟩,
    ⟨some (some 6, false), some 7, .fieldAddr 141 (.tmp 1) 0⟩,
    ⟨some (some 6, false), some 8, .load 3 (.tmp 7)⟩,
    ⟨some (some 6, false), some 9, .binOp .gtr 3 (.tmp 8) (.const (.int .i64 2147483647)) 3⟩,
    ⟨none, some 10, .pick (.tmp 6) (.const (.bool true)) (.tmp 9)⟩,
    ⟨none, some 11, .move (.tmp 10)⟩,
    ⟨some (some 11, false), some 12, .fieldAddr 141 (.tmp 1) 1⟩,
    ⟨some (some 11, false), some 13, .load 3 (.tmp 12)⟩,
    ⟨some (some 11, false), some 14, .binOp .lss 3 (.tmp 13) (.const (.int .i64 1024)) 3⟩,
    ⟨none, some 15, .pick (.tmp 11) (.const (.bool true)) (.tmp 14)⟩,
    ⟨none, some 16, .move (.tmp 15)⟩,
    ⟨some (some 16, false), some 17, .fieldAddr 141 (.tmp 1) 1⟩,
    ⟨some (some 16, false), some 18, .load 3 (.tmp 17)⟩,
    ⟨some (some 16, false), some 19, .binOp .gtr 3 (.tmp 18) (.const (.int .i64 2097152)) 3⟩,
    ⟨none, some 20, .pick (.tmp 16) (.const (.bool true)) (.tmp 19)⟩])
   (.cond (.tmp 20) (.seq (.reg [⟨none, some 2, .assign (.const (.bool false))⟩])
     (.ret))
    (.skip)))
  (.seq (.seq (.reg [⟨none, some 21, .fieldAddr 141 (.tmp 1) 3⟩,
     ⟨none, some 22, .load 4 (.tmp 21)⟩,
     ⟨none, some 23, .unOp .not 4 (.tmp 22)⟩])
    (.cond (.tmp 23) (.seq (.reg [⟨none, some 24, .fieldAddr 141 (.tmp 1) 2⟩,
       ⟨none, some 25, .load 3 (.tmp 24)⟩,
       ⟨none, some 26, .binOp .eql 3 (.tmp 25) (.const (.int .i64 0)) 3⟩,
       ⟨none, some 2, .assign (.tmp 26)⟩])
      (.ret))
     (.skip)))
   (.seq (.reg [⟨none, some 27, .fieldAddr 141 (.tmp 1) 2⟩,
     ⟨none, some 28, .load 3 (.tmp 27)⟩,
     ⟨none, some 29, .binOp .geq 3 (.tmp 28) (.const (.int .i64 20)) 3⟩,
     ⟨none, some 30, .move (.tmp 29)⟩,
     ⟨some (some 30, true), some 31, .fieldAddr 141 (.tmp 1) 2⟩,
     ⟨some (some 30, true), some 32, .load 3 (.tmp 31)⟩,
     ⟨some (some 30, true), some 33, .binOp .leq 3 (.tmp 32) (.const (.int .i64 16420)) 3⟩,
     ⟨none, some 34, .pick (.tmp 30) (.tmp 33) (.const (.bool false))⟩,
     ⟨none, some 35, .move (.tmp 34)⟩,
     ⟨some (some 35, true), some 36, .fieldAddr 141 (.tmp 1) 2⟩,
     ⟨some (some 35, true), some 37, .load 3 (.tmp 36)⟩,
     ⟨some (some 35, true), some 38, .fieldAddr 141 (.tmp 1) 1⟩,
     ⟨some (some 35, true), some 39, .load 3 (.tmp 38)⟩,
     ⟨some (some 35, true), some 40, .binOp .sub 3 (.const (.int .i64 2097152)) (.tmp 39) 3⟩,
     ⟨some (some 35, true), some 41, .binOp .leq 3 (.tmp 37) (.tmp 40) 3⟩,
     ⟨none, some 42, .pick (.tmp 35) (.tmp 41) (.const (.bool false))⟩,
     ⟨none, some 2, .assign (.tmp 42)⟩])
    (.ret))))
theorem com177 : com Tryz.prog 43 ((Tryz.f177.body).getD .skip) = g177 := by kernel_rfl
theorem enter177 {args : List Value} {h : Heap} {R : Value → Heap → Prop} (hN : args.length ≤ 43) (q : AWC Tryz.prog 43 g177 (RetQ Tryz.prog [.tmp 2] R) (frOf args) h) : ACall Tryz.prog 177 args h R :=
  C_call Tryz.func177 (by kernel_rfl) com177 (by kernel_rfl) (by kernel_rfl) hN q

/-- ( *bindle/names.Dir).Create -/
noncomputable def g179 : AC :=
 .seq (.reg [⟨none, some 6, .assign (.const (.int .i64 0))⟩])
 (.seq (.seq (.reg [⟨none, some 9, .move (.tmp 0)⟩,
    ⟨none, some 10, .binOp .eql 243 (.tmp 9) (.const (.pointer none)) 243⟩])
   (.cond (.tmp 10) (.seq (.reg [⟨none, some 6, .assign (.const (.int .i64 1))⟩])
     (.ret))
    (.skip)))
  (.seq (.reg [⟨none, some 12, .move (.tmp 0)⟩,
    ⟨none, some 13, .nilCheck (.tmp 12)⟩,
    ⟨none, some 14, .fieldAddr 74 (.tmp 13) 0⟩,
    ⟨none, some 15, .load 71 (.tmp 14)⟩,
    ⟨none, some 16, .move (.tmp 1)⟩,
    ⟨none, some 17, .lookup 71 (.tmp 15) (.tmp 16) true⟩,
    ⟨none, some 11, .move (.tmp 17)⟩,
    ⟨none, some 18, .extract (.tmp 11) 0⟩,
    ⟨none, some 19, .extract (.tmp 11) 1⟩,
    ⟨none, some 7, .assign (.tmp 18)⟩,
    ⟨none, some 8, .assign (.tmp 19)⟩])
   (.seq (.block 0 (.seq (.reg [⟨none, some 21, .move (.tmp 1)⟩,
       ⟨none, some 22, .call { callee := (.value (.func 221)), args := #[(.tmp 21)], argTypes := #[9] }⟩,
       ⟨none, some 23, .unOp .not 4 (.tmp 22)⟩,
       ⟨none, some 20, .assign (.tmp 23)⟩])
      (.cond (.tmp 20) (.seq (.reg [⟨none, some 6, .assign (.const (.int .i64 6))⟩])
        (.ret))
       (.seq (.reg [⟨none, some 25, .move (.tmp 8)⟩,
         ⟨none, some 24, .assign (.tmp 25)⟩])
        (.cond (.tmp 24) (.seq (.reg [⟨none, some 6, .assign (.const (.int .i64 16))⟩])
          (.ret))
         (.seq (.reg [⟨none, some 27, .move (.tmp 0)⟩,
           ⟨none, some 28, .nilCheck (.tmp 27)⟩,
           ⟨none, some 29, .fieldAddr 74 (.tmp 28) 0⟩,
           ⟨none, some 30, .load 71 (.tmp 29)⟩,
           ⟨none, some 31, .call { callee := (.builtin .len), args := #[(.tmp 30)], argTypes := #[71] }⟩,
           ⟨none, some 32, .binOp .geq 3 (.tmp 31) (.const (.int .i64 16)) 3⟩,
           ⟨none, some 26, .assign (.tmp 32)⟩])
          (.cond (.tmp 26) (.seq (.reg [⟨none, some 6, .assign (.const (.int .i64 14))⟩])
            (.ret))
           (.skip))))))))
    (.seq (.reg [⟨none, some 33, .move (.tmp 0)⟩,
      ⟨none, some 34, .move (.tmp 1)⟩,
      ⟨none, some 35, .move (.tmp 2)⟩,
      ⟨none, some 36, .build 312 #[(1, (.tmp 34)), (2, (.tmp 35))]⟩,
      ⟨none, some 37, .call { callee := (.value (.func 220)), args := #[(.tmp 33), (.tmp 36)], argTypes := #[243, 312] }⟩,
      ⟨none, some 6, .assign (.tmp 37)⟩])
     (.ret)))))
theorem com179 : com Tryz.prog 38 ((Tryz.f179.body).getD .skip) = g179 := by kernel_rfl
theorem enter179 {args : List Value} {h : Heap} {R : Value → Heap → Prop} (hN : args.length ≤ 38) (q : AWC Tryz.prog 38 g179 (RetQ Tryz.prog [.tmp 6] R) (frOf args) h) : ACall Tryz.prog 179 args h R :=
  C_call Tryz.func179 (by kernel_rfl) com179 (by kernel_rfl) (by kernel_rfl) hN q

end Go.Proofs.Fx
