/- The code of this seat's functions without what a walk does not ask for, and that it is that. Written by program. -/
import Derived.Test.YtodmfjhjaegoeaaGreatDoorAmComp
import Derived.Test.YtodmfjhjaegoeaaGreatDoorProg
import Derived.KernelRfl
set_option maxRecDepth 20000
set_option linter.unusedVariables false
namespace Go.Proofs.Fx
open Go Go.Am

/-- ( *bindle/index.Index).Get -/
noncomputable def g33 : AC :=
 .seq (.reg [⟨none, some 4, .alloc 41⟩,
  ⟨none, some 5, .assign (.const (.bool false))⟩])
 (.seq (.seq (.reg [⟨none, some 8, .move (.tmp 0)⟩,
    ⟨none, some 9, .binOp .eql 66 (.tmp 8) (.const (.pointer none)) 66⟩])
   (.cond (.tmp 9) (.seq (.reg [⟨none, some 10, .build 41 #[]⟩,
      ⟨none, none, .store 41 (.tmp 4) (.tmp 10)⟩,
      ⟨none, some 5, .assign (.const (.bool false))⟩])
     (.ret))
    (.skip)))
  (.seq (.reg [⟨none, some 12, .move (.tmp 0)⟩,
    ⟨none, some 13, .move (.tmp 1)⟩,
    ⟨none, some 14, .call { callee := (.value (.func 70)), args := #[(.tmp 12), (.tmp 13)], argTypes := #[66, 9] }⟩,
    ⟨none, some 11, .move (.tmp 14)⟩,
    ⟨none, some 15, .extract (.tmp 11) 0⟩,
    ⟨none, some 16, .extract (.tmp 11) 1⟩,
    ⟨none, some 6, .assign (.tmp 15)⟩,
    ⟨none, some 7, .assign (.tmp 16)⟩])
   (.seq (.seq (.reg [⟨none, some 17, .move (.tmp 7)⟩,
      ⟨none, some 18, .unOp .not 4 (.tmp 17)⟩])
     (.cond (.tmp 18) (.seq (.reg [⟨none, some 19, .build 41 #[]⟩,
        ⟨none, none, .store 41 (.tmp 4) (.tmp 19)⟩,
        ⟨none, some 5, .assign (.const (.bool false))⟩])
       (.ret))
      (.skip)))
    (.seq (.reg [⟨none, some 20, .move (.tmp 0)⟩,
      ⟨none, some 21, .nilCheck (.tmp 20)⟩,
      ⟨none, some 22, .fieldAddr 133 (.tmp 21) 0⟩,
      ⟨none, some 23, .load 91 (.tmp 22)⟩,
      ⟨none, some 24, .move (.tmp 6)⟩,
      ⟨none, some 25, .indexAddr 91 (.tmp 23) (.tmp 24)⟩,
      ⟨none, some 26, .load 41 (.tmp 25)⟩,
      ⟨none, none, .store 41 (.tmp 4) (.tmp 26)⟩,
      ⟨none, some 5, .assign (.const (.bool true))⟩])
     (.ret)))))
theorem com33 : com Tryz.prog 27 ((Tryz.f33.body).getD .skip) = g33 := by kernel_rfl
theorem enter33 {args : List Value} {h : Heap} {R : Value → Heap → Prop} (hN : args.length ≤ 27) (q : AWC Tryz.prog 27 g33 (RetQ Tryz.prog [.cell 4 41, .tmp 5] R) (frOf args) h) : ACall Tryz.prog 33 args h R :=
  C_call Tryz.func33 (by kernel_rfl) com33 (by kernel_rfl) (by kernel_rfl) hN q

/-- ( *bindle/archive.Archive).List -/
noncomputable def g34 : AC :=
 .seq (.reg [⟨none, some 4, .assign (.const .nilFunc)⟩])
 (.seq (.seq (.reg [⟨none, some 5, .move (.tmp 0)⟩,
    ⟨none, some 6, .call { callee := (.value (.func 23)), args := #[(.tmp 5)], argTypes := #[28] }⟩,
    ⟨none, some 7, .binOp .neq 32 (.tmp 6) (.const (.int .i64 0)) 32⟩])
   (.cond (.tmp 7) (.seq (.reg [⟨none, some 4, .assign (.func 71)⟩])
     (.ret))
    (.skip)))
  (.seq (.reg [⟨none, some 8, .move (.tmp 0)⟩,
    ⟨none, some 9, .nilCheck (.tmp 8)⟩,
    ⟨none, some 10, .fieldAddr 69 (.tmp 9) 2⟩,
    ⟨none, some 11, .load 66 (.tmp 10)⟩,
    ⟨none, some 12, .move (.tmp 1)⟩,
    ⟨none, some 13, .call { callee := (.value (.func 72)), args := #[(.tmp 11), (.tmp 12)], argTypes := #[66, 9] }⟩,
    ⟨none, some 4, .assign (.tmp 13)⟩])
   (.ret)))
theorem com34 : com Tryz.prog 14 ((Tryz.f34.body).getD .skip) = g34 := by kernel_rfl
theorem enter34 {args : List Value} {h : Heap} {R : Value → Heap → Prop} (hN : args.length ≤ 14) (q : AWC Tryz.prog 14 g34 (RetQ Tryz.prog [.tmp 4] R) (frOf args) h) : ACall Tryz.prog 34 args h R :=
  C_call Tryz.func34 (by kernel_rfl) com34 (by kernel_rfl) (by kernel_rfl) hN q

/-- bindle/crc.Make -/
noncomputable def g35 : AC :=
 .seq (.reg [⟨none, some 0, .alloc 64⟩])
 (.seq (.reg [⟨none, some 1, .alloc 64⟩])
  (.seq (.seq (.reg [⟨none, some 4, .move (.const (.int .i64 0))⟩])
    (.block 0 (.loop (.seq (.reg [⟨none, some 5, .binOp .lss 3 (.tmp 4) (.const (.int .i64 256)) 3⟩])
       (.seq (.cond (.tmp 5) (.skip)
         (.exit 0))
        (.seq (.block 1 (.seq (.reg [⟨none, some 6, .move (.tmp 4)⟩,
            ⟨none, some 2, .assign (.tmp 6)⟩])
           (.seq (.reg [⟨none, some 7, .move (.tmp 2)⟩,
             ⟨none, some 8, .convert 3 39 (.tmp 7)⟩,
             ⟨none, some 3, .assign (.tmp 8)⟩])
            (.seq (.seq (.reg [⟨none, some 9, .move (.const (.int .i64 0))⟩])
              (.block 2 (.loop (.seq (.reg [⟨none, some 10, .binOp .lss 3 (.tmp 9) (.const (.int .i64 8)) 3⟩])
                 (.seq (.cond (.tmp 10) (.skip)
                   (.exit 2))
                  (.seq (.block 3 (.reg [⟨none, some 11, .move (.tmp 3)⟩,
                     ⟨none, some 12, .call { callee := (.value (.func 73)), args := #[(.tmp 11)], argTypes := #[39] }⟩,
                     ⟨none, some 3, .assign (.tmp 12)⟩]))
                   (.reg [⟨none, some 13, .binOp .add 3 (.tmp 9) (.const (.int .i64 1)) 3⟩,
                    ⟨none, some 9, .move (.tmp 13)⟩])))))))
             (.reg [⟨none, some 14, .move (.tmp 2)⟩,
              ⟨none, some 15, .move (.tmp 3)⟩,
              ⟨none, some 16, .indexAddr 64 (.tmp 1) (.tmp 14)⟩,
              ⟨none, none, .store 39 (.tmp 16) (.tmp 15)⟩])))))
         (.reg [⟨none, some 17, .binOp .add 3 (.tmp 4) (.const (.int .i64 1)) 3⟩,
          ⟨none, some 4, .move (.tmp 17)⟩])))))))
   (.seq (.reg [⟨none, some 18, .load 64 (.tmp 1)⟩,
     ⟨none, none, .store 64 (.tmp 0) (.tmp 18)⟩])
    (.ret))))
theorem com35 : com Tryz.prog 19 ((Tryz.f35.body).getD .skip) = g35 := by kernel_rfl
theorem enter35 {args : List Value} {h : Heap} {R : Value → Heap → Prop} (hN : args.length ≤ 19) (q : AWC Tryz.prog 19 g35 (RetQ Tryz.prog [.cell 0 64] R) (frOf args) h) : ACall Tryz.prog 35 args h R :=
  C_call Tryz.func35 (by kernel_rfl) com35 (by kernel_rfl) (by kernel_rfl) hN q

/-- bindle/commit.Open -/
noncomputable def g36 : AC :=
 .seq (.reg [⟨none, some 6, .assign (.const (.pointer none))⟩,
  ⟨none, some 7, .assign (.const (.slice none 0 0))⟩,
  ⟨none, some 8, .assign (.const (.int .i64 0))⟩])
 (.seq (.seq (.reg [⟨none, some 15, .move (.tmp 0)⟩,
    ⟨none, some 16, .binOp .eql 29 (.tmp 15) (.const (.pointer none)) 29⟩,
    ⟨none, some 17, .move (.tmp 16)⟩,
    ⟨some (some 17, false), some 18, .move (.tmp 1)⟩,
    ⟨some (some 17, false), some 19, .binOp .eql 94 (.tmp 18) (.const (.pointer none)) 94⟩,
    ⟨none, some 20, .pick (.tmp 17) (.const (.bool true)) (.tmp 19)⟩])
   (.cond (.tmp 20) (.seq (.reg [⟨none, some 6, .assign (.const (.pointer none))⟩,
      ⟨none, some 7, .assign (.const (.slice none 0 0))⟩,
      ⟨none, some 8, .assign (.const (.int .i64 1))⟩])
     (.ret))
    (.skip)))
  (.seq (.reg [⟨none, some 22, .move (.tmp 0)⟩,
    ⟨none, some 23, .move (.tmp 2)⟩,
    ⟨none, some 24, .call { callee := (.value (.func 74)), args := #[(.tmp 22), (.tmp 23)], argTypes := #[29, 9] }⟩,
    ⟨none, some 21, .move (.tmp 24)⟩,
    ⟨none, some 25, .extract (.tmp 21) 0⟩,
    ⟨none, some 26, .extract (.tmp 21) 1⟩,
    ⟨none, some 9, .assign (.tmp 25)⟩,
    ⟨none, some 10, .assign (.tmp 26)⟩])
   (.seq (.seq (.reg [⟨none, some 27, .move (.tmp 10)⟩,
      ⟨none, some 28, .binOp .neq 32 (.tmp 27) (.const (.int .i64 0)) 32⟩])
     (.cond (.tmp 28) (.seq (.reg [⟨none, some 29, .move (.tmp 10)⟩,
        ⟨none, some 6, .assign (.const (.pointer none))⟩,
        ⟨none, some 7, .assign (.const (.slice none 0 0))⟩,
        ⟨none, some 8, .assign (.tmp 29)⟩])
       (.ret))
      (.skip)))
    (.seq (.seq (.reg [⟨none, some 30, .move (.tmp 0)⟩,
       ⟨none, some 31, .move (.tmp 9)⟩,
       ⟨none, some 32, .call { callee := (.value (.func 75)), args := #[(.tmp 30), (.tmp 31)], argTypes := #[29, 3] }⟩,
       ⟨none, some 10, .assign (.tmp 32)⟩])
      (.seq (.reg [⟨none, some 33, .move (.tmp 10)⟩,
        ⟨none, some 34, .binOp .neq 32 (.tmp 33) (.const (.int .i64 0)) 32⟩])
       (.cond (.tmp 34) (.seq (.reg [⟨none, some 35, .move (.tmp 10)⟩,
          ⟨none, some 6, .assign (.const (.pointer none))⟩,
          ⟨none, some 7, .assign (.const (.slice none 0 0))⟩,
          ⟨none, some 8, .assign (.tmp 35)⟩])
         (.ret))
        (.skip))))
     (.seq (.seq (.reg [⟨none, some 36, .move (.tmp 0)⟩,
        ⟨none, some 37, .call { callee := (.value (.func 76)), args := #[(.tmp 36)], argTypes := #[29] }⟩,
        ⟨none, some 10, .assign (.tmp 37)⟩])
       (.seq (.reg [⟨none, some 38, .move (.tmp 10)⟩,
         ⟨none, some 39, .binOp .neq 32 (.tmp 38) (.const (.int .i64 0)) 32⟩])
        (.cond (.tmp 39) (.seq (.reg [⟨none, some 40, .move (.tmp 10)⟩,
           ⟨none, some 6, .assign (.const (.pointer none))⟩,
           ⟨none, some 7, .assign (.const (.slice none 0 0))⟩,
           ⟨none, some 8, .assign (.tmp 40)⟩])
          (.ret))
         (.skip))))
      (.seq (.reg [⟨none, some 42, .move (.tmp 0)⟩,
        ⟨none, some 43, .move (.tmp 9)⟩,
        ⟨none, some 44, .move (.tmp 0)⟩,
        ⟨none, some 45, .move (.tmp 9)⟩,
        ⟨none, some 46, .call { callee := (.value (.func 78)), args := #[(.tmp 44), (.tmp 45)], argTypes := #[29, 3] }⟩,
        ⟨none, some 47, .binOp .mul 3 (.tmp 46) (.const (.int .i64 512)) 3⟩,
        ⟨none, some 48, .call { callee := (.value (.func 77)), args := #[(.tmp 42), (.tmp 43), (.const (.int .i64 0)), (.tmp 47)], argTypes := #[29, 3, 3, 3] }⟩,
        ⟨none, some 41, .move (.tmp 48)⟩,
        ⟨none, some 49, .extract (.tmp 41) 0⟩,
        ⟨none, some 50, .extract (.tmp 41) 1⟩,
        ⟨none, some 11, .assign (.tmp 49)⟩,
        ⟨none, some 12, .assign (.tmp 50)⟩])
       (.seq (.reg [⟨none, some 52, .move (.tmp 1)⟩,
         ⟨none, some 53, .move (.tmp 11)⟩,
         ⟨none, some 54, .call { callee := (.value (.func 79)), args := #[(.tmp 52), (.tmp 53)], argTypes := #[94, 22] }⟩,
         ⟨none, some 51, .move (.tmp 54)⟩,
         ⟨none, some 55, .extract (.tmp 51) 0⟩,
         ⟨none, some 56, .extract (.tmp 51) 1⟩,
         ⟨none, some 57, .extract (.tmp 51) 2⟩,
         ⟨none, some 13, .alloc 141⟩,
         ⟨none, none, .store 141 (.tmp 13) (.tmp 55)⟩,
         ⟨none, some 14, .assign (.tmp 56)⟩,
         ⟨none, some 10, .assign (.tmp 57)⟩])
        (.seq (.seq (.reg [⟨none, some 58, .move (.tmp 10)⟩,
           ⟨none, some 59, .binOp .neq 32 (.tmp 58) (.const (.int .i64 0)) 32⟩])
          (.cond (.tmp 59) (.seq (.reg [⟨none, some 60, .move (.tmp 10)⟩,
             ⟨none, some 6, .assign (.const (.pointer none))⟩,
             ⟨none, some 7, .assign (.const (.slice none 0 0))⟩,
             ⟨none, some 8, .assign (.tmp 60)⟩])
            (.ret))
           (.skip)))
         (.seq (.reg [⟨none, some 61, .move (.tmp 0)⟩,
           ⟨none, some 62, .move (.tmp 1)⟩,
           ⟨none, some 63, .move (.tmp 2)⟩,
           ⟨none, some 64, .move (.tmp 9)⟩,
           ⟨none, some 65, .fieldAddr 141 (.tmp 13) 1⟩,
           ⟨none, some 66, .load 3 (.tmp 65)⟩,
           ⟨none, some 67, .load 141 (.tmp 13)⟩,
           ⟨none, some 68, .build 145 #[(0, (.tmp 61)), (1, (.tmp 62)), (2, (.tmp 63)), (3, (.tmp 64)), (4, (.tmp 66)), (5, (.tmp 67))]⟩,
           ⟨none, some 69, .box 145 (.tmp 68)⟩,
           ⟨none, some 70, .move (.tmp 14)⟩,
           ⟨none, some 6, .assign (.tmp 69)⟩,
           ⟨none, some 7, .assign (.tmp 70)⟩,
           ⟨none, some 8, .assign (.const (.int .i64 0))⟩])
          (.ret))))))))))
theorem com36 : com Tryz.prog 71 ((Tryz.f36.body).getD .skip) = g36 := by kernel_rfl
theorem enter36 {args : List Value} {h : Heap} {R : Value → Heap → Prop} (hN : args.length ≤ 71) (q : AWC Tryz.prog 71 g36 (RetQ Tryz.prog [.tmp 6, .tmp 7, .tmp 8] R) (frOf args) h) : ACall Tryz.prog 36 args h R :=
  C_call Tryz.func36 (by kernel_rfl) com36 (by kernel_rfl) (by kernel_rfl) hN q

/-- bindle/index.New -/
noncomputable def g37 : AC :=
 .seq (.reg [⟨none, some 2, .assign (.const (.pointer none))⟩,
  ⟨none, some 3, .assign (.const (.int .i64 0))⟩])
 (.seq (.seq (.reg [⟨none, some 4, .move (.tmp 0)⟩,
    ⟨none, some 5, .call { callee := (.value (.func 80)), args := #[(.tmp 4)], argTypes := #[91] }⟩,
    ⟨none, some 6, .unOp .not 4 (.tmp 5)⟩])
   (.cond (.tmp 6) (.seq (.reg [⟨none, some 2, .assign (.const (.pointer none))⟩,
      ⟨none, some 3, .assign (.const (.int .i64 1))⟩])
     (.ret))
    (.skip)))
  (.seq (.reg [⟨none, some 7, .move (.tmp 0)⟩,
    ⟨none, some 8, .call { callee := (.value (.func 81)), args := #[(.tmp 7)], argTypes := #[91] }⟩,
    ⟨none, some 9, .build 133 #[(0, (.tmp 8))]⟩,
    ⟨none, some 10, .box 133 (.tmp 9)⟩,
    ⟨none, some 2, .assign (.tmp 10)⟩,
    ⟨none, some 3, .assign (.const (.int .i64 0))⟩])
   (.ret)))
theorem com37 : com Tryz.prog 11 ((Tryz.f37.body).getD .skip) = g37 := by kernel_rfl
theorem enter37 {args : List Value} {h : Heap} {R : Value → Heap → Prop} (hN : args.length ≤ 11) (q : AWC Tryz.prog 11 g37 (RetQ Tryz.prog [.tmp 2, .tmp 3] R) (frOf args) h) : ACall Tryz.prog 37 args h R :=
  C_call Tryz.func37 (by kernel_rfl) com37 (by kernel_rfl) (by kernel_rfl) hN q

/-- bindle/commit.Make -/
noncomputable def g38 : AC :=
 .seq (.reg [⟨none, some 6, .assign (.const (.int .i64 0))⟩])
 (.seq (.block 0 (.seq (.reg [⟨none, some 15, .move (.tmp 0)⟩,
     ⟨none, some 16, .binOp .eql 29 (.tmp 15) (.const (.pointer none)) 29⟩,
     ⟨none, some 17, .move (.tmp 16)⟩,
     ⟨some (some 17, false), some 18, .move (.tmp 1)⟩,
     ⟨some (some 17, false), some 19, .binOp .eql 94 (.tmp 18) (.const (.pointer none)) 94⟩,
     ⟨none, some 20, .pick (.tmp 17) (.const (.bool true)) (.tmp 19)⟩,
     ⟨none, some 14, .assign (.tmp 20)⟩])
    (.cond (.tmp 14) (.seq (.reg [⟨none, some 6, .assign (.const (.int .i64 1))⟩])
      (.ret))
     (.seq (.reg [⟨none, some 22, .move (.tmp 2)⟩,
       ⟨none, some 23, .binOp .eql 9 (.tmp 22) (.const (.string { data := #[] })) 9⟩,
       ⟨none, some 24, .move (.tmp 23)⟩,
       ⟨some (some 24, false), some 25, .move (.tmp 2)⟩,
       ⟨some (some 24, false), some 26, .call { callee := (.builtin .len), args := #[(.tmp 25)], argTypes := #[9] }⟩,
       ⟨some (some 24, false), some 27, .binOp .gtr 3 (.tmp 26) (.const (.int .i64 96)) 3⟩,
       ⟨none, some 28, .pick (.tmp 24) (.const (.bool true)) (.tmp 27)⟩,
       ⟨none, some 21, .assign (.tmp 28)⟩])
      (.cond (.tmp 21) (.seq (.reg [⟨none, some 6, .assign (.const (.int .i64 6))⟩])
        (.ret))
       (.skip))))))
  (.seq (.seq (.reg [⟨none, some 30, .move (.tmp 0)⟩,
     ⟨none, some 31, .move (.tmp 2)⟩,
     ⟨none, some 32, .call { callee := (.value (.func 74)), args := #[(.tmp 30), (.tmp 31)], argTypes := #[29, 9] }⟩,
     ⟨none, some 29, .move (.tmp 32)⟩,
     ⟨none, some 33, .extract (.tmp 29) 0⟩,
     ⟨none, some 34, .extract (.tmp 29) 1⟩,
     ⟨none, some 7, .assign (.tmp 33)⟩,
     ⟨none, some 8, .assign (.tmp 34)⟩])
    (.seq (.reg [⟨none, some 35, .move (.tmp 8)⟩,
      ⟨none, some 36, .binOp .eql 32 (.tmp 35) (.const (.int .i64 0)) 32⟩])
     (.cond (.tmp 36) (.seq (.reg [⟨none, some 6, .assign (.const (.int .i64 16))⟩])
       (.ret))
      (.skip))))
   (.seq (.reg [⟨none, some 38, .move (.tmp 1)⟩,
     ⟨none, some 39, .call { callee := (.value (.func 82)), args := #[(.tmp 38), (.const (.slice none 0 0)), (.const (.slice none 0 0))], argTypes := #[94, 22, 91] }⟩,
     ⟨none, some 37, .move (.tmp 39)⟩,
     ⟨none, some 40, .extract (.tmp 37) 0⟩,
     ⟨none, some 41, .extract (.tmp 37) 1⟩,
     ⟨none, some 9, .assign (.tmp 40)⟩,
     ⟨none, some 10, .assign (.tmp 41)⟩])
    (.seq (.reg [⟨none, some 43, .move (.tmp 0)⟩,
      ⟨none, some 44, .move (.tmp 2)⟩,
      ⟨none, some 45, .move (.tmp 9)⟩,
      ⟨none, some 46, .call { callee := (.value (.func 83)), args := #[(.tmp 43), (.tmp 44), (.tmp 45)], argTypes := #[29, 9, 22] }⟩,
      ⟨none, some 42, .move (.tmp 46)⟩,
      ⟨none, some 47, .extract (.tmp 42) 0⟩,
      ⟨none, some 48, .extract (.tmp 42) 1⟩,
      ⟨none, some 49, .extract (.tmp 42) 2⟩,
      ⟨none, some 11, .assign (.tmp 47)⟩,
      ⟨none, some 12, .assign (.tmp 48)⟩,
      ⟨none, some 13, .assign (.tmp 49)⟩])
     (.seq (.reg [⟨none, some 50, .move (.tmp 13)⟩,
       ⟨none, some 6, .assign (.tmp 50)⟩])
      (.ret))))))
theorem com38 : com Tryz.prog 51 ((Tryz.f38.body).getD .skip) = g38 := by kernel_rfl
theorem enter38 {args : List Value} {h : Heap} {R : Value → Heap → Prop} (hN : args.length ≤ 51) (q : AWC Tryz.prog 51 g38 (RetQ Tryz.prog [.tmp 6] R) (frOf args) h) : ACall Tryz.prog 38 args h R :=
  C_call Tryz.func38 (by kernel_rfl) com38 (by kernel_rfl) (by kernel_rfl) hN q

/-- ( *bindle/commit.Store).Poisoned -/
noncomputable def g39 : AC :=
 .seq (.reg [⟨none, some 2, .assign (.const (.bool false))⟩])
 (.seq (.reg [⟨none, some 3, .move (.tmp 0)⟩,
   ⟨none, some 4, .binOp .neq 65 (.tmp 3) (.const (.pointer none)) 65⟩,
   ⟨none, some 5, .move (.tmp 4)⟩,
   ⟨some (some 5, true), some 6, .move (.tmp 0)⟩,
   ⟨some (some 5, true), some 7, .nilCheck (.tmp 6)⟩,
   ⟨some (some 5, true), some 8, .fieldAddr 145 (.tmp 7) 6⟩,
   ⟨some (some 5, true), some 9, .load 4 (.tmp 8)⟩,
   ⟨none, some 10, .pick (.tmp 5) (.tmp 9) (.const (.bool false))⟩,
   ⟨none, some 2, .assign (.tmp 10)⟩])
  (.ret))
theorem com39 : com Tryz.prog 11 ((Tryz.f39.body).getD .skip) = g39 := by kernel_rfl
theorem enter39 {args : List Value} {h : Heap} {R : Value → Heap → Prop} (hN : args.length ≤ 11) (q : AWC Tryz.prog 11 g39 (RetQ Tryz.prog [.tmp 2] R) (frOf args) h) : ACall Tryz.prog 39 args h R :=
  C_call Tryz.func39 (by kernel_rfl) com39 (by kernel_rfl) (by kernel_rfl) hN q

/-- ( *bindle/commit.Store).End -/
noncomputable def g40 : AC :=
 .seq (.reg [⟨none, some 2, .assign (.const (.int .i64 0))⟩])
 (.seq (.seq (.reg [⟨none, some 3, .move (.tmp 0)⟩,
    ⟨none, some 4, .binOp .eql 65 (.tmp 3) (.const (.pointer none)) 65⟩])
   (.cond (.tmp 4) (.seq (.reg [⟨none, some 2, .assign (.const (.int .i64 0))⟩])
     (.ret))
    (.skip)))
  (.seq (.reg [⟨none, some 5, .move (.tmp 0)⟩,
    ⟨none, some 6, .nilCheck (.tmp 5)⟩,
    ⟨none, some 7, .fieldAddr 145 (.tmp 6) 4⟩,
    ⟨none, some 8, .load 3 (.tmp 7)⟩,
    ⟨none, some 2, .assign (.tmp 8)⟩])
   (.ret)))
theorem com40 : com Tryz.prog 9 ((Tryz.f40.body).getD .skip) = g40 := by kernel_rfl
theorem enter40 {args : List Value} {h : Heap} {R : Value → Heap → Prop} (hN : args.length ≤ 9) (q : AWC Tryz.prog 9 g40 (RetQ Tryz.prog [.tmp 2] R) (frOf args) h) : ACall Tryz.prog 40 args h R :=
  C_call Tryz.func40 (by kernel_rfl) com40 (by kernel_rfl) (by kernel_rfl) hN q

/-- ( *bindle/play.Stage).answer -/
noncomputable def g41 : AC :=
 .seq (.reg [⟨none, some 3, .box 27 (.tmp 1)⟩,
  ⟨none, some 4, .alloc 57⟩])
 (.seq (.reg [⟨none, some 8, .move (.tmp 0)⟩,
   ⟨none, some 9, .load 27 (.tmp 3)⟩,
   ⟨none, some 10, .call { callee := (.value (.func 84)), args := #[(.tmp 8), (.tmp 9)], argTypes := #[55, 27] }⟩,
   ⟨none, some 7, .move (.tmp 10)⟩,
   ⟨none, some 11, .extract (.tmp 7) 0⟩,
   ⟨none, some 12, .extract (.tmp 7) 1⟩,
   ⟨none, some 5, .alloc 57⟩,
   ⟨none, none, .store 57 (.tmp 5) (.tmp 11)⟩,
   ⟨none, some 6, .assign (.tmp 12)⟩])
  (.seq (.block 0 (.seq (.reg [⟨none, some 14, .move (.tmp 6)⟩,
      ⟨none, some 13, .assign (.tmp 14)⟩])
     (.cond (.tmp 13) (.seq (.reg [⟨none, some 15, .load 57 (.tmp 5)⟩,
        ⟨none, none, .store 57 (.tmp 4) (.tmp 15)⟩])
       (.ret))
      (.seq (.reg [⟨none, some 17, .move (.tmp 0)⟩,
        ⟨none, some 18, .nilCheck (.tmp 17)⟩,
        ⟨none, some 19, .fieldAddr 99 (.tmp 18) 2⟩,
        ⟨none, some 20, .load 28 (.tmp 19)⟩,
        ⟨none, some 21, .binOp .eql 28 (.tmp 20) (.const (.pointer none)) 28⟩,
        ⟨none, some 16, .assign (.tmp 21)⟩])
       (.cond (.tmp 16) (.seq (.reg [⟨none, some 22, .build 57 #[(0, (.const (.int .i64 12)))]⟩,
          ⟨none, none, .store 57 (.tmp 4) (.tmp 22)⟩])
         (.ret))
        (.seq (.reg [⟨none, some 24, .fieldAddr 27 (.tmp 3) 0⟩,
          ⟨none, some 25, .load 3 (.tmp 24)⟩,
          ⟨none, some 26, .binOp .eql 3 (.tmp 25) (.const (.int .i64 8)) 3⟩,
          ⟨none, some 27, .move (.tmp 26)⟩,
          ⟨some (some 27, false), some 28, .fieldAddr 27 (.tmp 3) 0⟩,
          ⟨some (some 27, false), some 29, .load 3 (.tmp 28)⟩,
          ⟨some (some 27, false), some 30, .binOp .eql 3 (.tmp 29) (.const (.int .i64 9)) 3⟩,
          ⟨none, some 31, .pick (.tmp 27) (.const (.bool true)) (.tmp 30)⟩,
          ⟨none, some 32, .move (.tmp 31)⟩,
          ⟨some (some 32, false), some 33, .fieldAddr 27 (.tmp 3) 0⟩,
          ⟨some (some 32, false), some 34, .load 3 (.tmp 33)⟩,
          ⟨some (some 32, false), some 35, .binOp .eql 3 (.tmp 34) (.const (.int .i64 10)) 3⟩,
          ⟨none, some 36, .pick (.tmp 32) (.const (.bool true)) (.tmp 35)⟩,
          ⟨none, some 23, .assign (.tmp 36)⟩])
         (.cond (.tmp 23) (.seq (.reg [⟨none, some 37, .move (.tmp 0)⟩,
            ⟨none, some 38, .load 27 (.tmp 3)⟩,
            ⟨none, some 39, .call { callee := (.value (.func 85)), args := #[(.tmp 37), (.tmp 38)], argTypes := #[55, 27] }⟩,
            ⟨none, none, .store 57 (.tmp 4) (.tmp 39)⟩])
           (.ret))
          (.skip))))))))
   (.seq (.reg [⟨none, some 40, .move (.tmp 0)⟩,
     ⟨none, some 41, .load 27 (.tmp 3)⟩,
     ⟨none, some 42, .call { callee := (.value (.func 86)), args := #[(.tmp 40), (.tmp 41)], argTypes := #[55, 27] }⟩,
     ⟨none, some 43, .build 57 #[(0, (.tmp 42))]⟩,
     ⟨none, none, .store 57 (.tmp 4) (.tmp 43)⟩])
    (.ret))))
theorem com41 : com Tryz.prog 44 ((Tryz.f41.body).getD .skip) = g41 := by kernel_rfl
theorem enter41 {args : List Value} {h : Heap} {R : Value → Heap → Prop} (hN : args.length ≤ 44) (q : AWC Tryz.prog 44 g41 (RetQ Tryz.prog [.cell 4 57] R) (frOf args) h) : ACall Tryz.prog 41 args h R :=
  C_call Tryz.func41 (by kernel_rfl) com41 (by kernel_rfl) (by kernel_rfl) hN q

/-- bindle/bindleref15.Same -/
noncomputable def g42 : AC :=
 .seq (.reg [⟨none, some 4, .assign (.const (.bool false))⟩])
 (.seq (.seq (.reg [⟨none, some 6, .move (.tmp 0)⟩,
    ⟨none, some 7, .call { callee := (.builtin .len), args := #[(.tmp 6)], argTypes := #[50] }⟩,
    ⟨none, some 8, .move (.tmp 1)⟩,
    ⟨none, some 9, .call { callee := (.builtin .len), args := #[(.tmp 8)], argTypes := #[50] }⟩,
    ⟨none, some 10, .binOp .neq 3 (.tmp 7) (.tmp 9) 3⟩])
   (.cond (.tmp 10) (.seq (.reg [⟨none, some 4, .assign (.const (.bool false))⟩])
     (.ret))
    (.skip)))
  (.seq (.seq (.reg [⟨none, some 5, .assign (.const (.int .i64 0))⟩])
    (.block 0 (.loop (.seq (.seq (.reg [⟨none, some 11, .move (.tmp 5)⟩,
         ⟨none, some 12, .move (.tmp 0)⟩,
         ⟨none, some 13, .call { callee := (.builtin .len), args := #[(.tmp 12)], argTypes := #[50] }⟩,
         ⟨none, some 14, .binOp .lss 3 (.tmp 11) (.tmp 13) 3⟩])
        (.cond (.tmp 14) (.skip)
         (.exit 0)))
       (.seq (.block 1 (.seq (.reg [⟨none, some 17, .move (.tmp 0)⟩,
           ⟨none, some 18, .move (.tmp 5)⟩,
           ⟨none, some 19, .indexAddr 50 (.tmp 17) (.tmp 18)⟩,
           ⟨none, some 20, .load 9 (.tmp 19)⟩,
           ⟨none, some 21, .move (.tmp 1)⟩,
           ⟨none, some 22, .move (.tmp 5)⟩,
           ⟨none, some 23, .indexAddr 50 (.tmp 21) (.tmp 22)⟩,
           ⟨none, some 24, .load 9 (.tmp 23)⟩,
           ⟨none, some 25, .binOp .neq 9 (.tmp 20) (.tmp 24) 9⟩])
          (.cond (.tmp 25) (.seq (.reg [⟨none, some 4, .assign (.const (.bool false))⟩])
            (.ret))
           (.skip))))
        (.reg [⟨none, some 15, .move (.tmp 5)⟩,
         ⟨none, some 16, .binOp .add 3 (.tmp 15) (.const (.int .i64 1)) 3⟩,
         ⟨none, some 5, .assign (.tmp 16)⟩]))))))
   (.seq (.reg [⟨none, some 4, .assign (.const (.bool true))⟩])
    (.ret))))
theorem com42 : com Tryz.prog 26 ((Tryz.f42.body).getD .skip) = g42 := by kernel_rfl
theorem enter42 {args : List Value} {h : Heap} {R : Value → Heap → Prop} (hN : args.length ≤ 26) (q : AWC Tryz.prog 26 g42 (RetQ Tryz.prog [.tmp 4] R) (frOf args) h) : ACall Tryz.prog 42 args h R :=
  C_call Tryz.func42 (by kernel_rfl) com42 (by kernel_rfl) (by kernel_rfl) hN q

/-- bindle/bindleref25.Same -/
noncomputable def g43 : AC :=
 .seq (.reg [⟨none, some 4, .assign (.const (.bool false))⟩])
 (.seq (.seq (.reg [⟨none, some 6, .move (.tmp 0)⟩,
    ⟨none, some 7, .call { callee := (.builtin .len), args := #[(.tmp 6)], argTypes := #[44] }⟩,
    ⟨none, some 8, .move (.tmp 1)⟩,
    ⟨none, some 9, .call { callee := (.builtin .len), args := #[(.tmp 8)], argTypes := #[44] }⟩,
    ⟨none, some 10, .binOp .neq 3 (.tmp 7) (.tmp 9) 3⟩])
   (.cond (.tmp 10) (.seq (.reg [⟨none, some 4, .assign (.const (.bool false))⟩])
     (.ret))
    (.skip)))
  (.seq (.seq (.reg [⟨none, some 5, .assign (.const (.int .i64 0))⟩])
    (.block 0 (.loop (.seq (.seq (.reg [⟨none, some 11, .move (.tmp 5)⟩,
         ⟨none, some 12, .move (.tmp 0)⟩,
         ⟨none, some 13, .call { callee := (.builtin .len), args := #[(.tmp 12)], argTypes := #[44] }⟩,
         ⟨none, some 14, .binOp .lss 3 (.tmp 11) (.tmp 13) 3⟩])
        (.cond (.tmp 14) (.skip)
         (.exit 0)))
       (.seq (.block 1 (.seq (.reg [⟨none, some 17, .move (.tmp 0)⟩,
           ⟨none, some 18, .move (.tmp 5)⟩,
           ⟨none, some 19, .indexAddr 44 (.tmp 17) (.tmp 18)⟩,
           ⟨none, some 20, .fieldAddr 89 (.tmp 19) 0⟩,
           ⟨none, some 21, .load 9 (.tmp 20)⟩,
           ⟨none, some 22, .move (.tmp 1)⟩,
           ⟨none, some 23, .move (.tmp 5)⟩,
           ⟨none, some 24, .indexAddr 44 (.tmp 22) (.tmp 23)⟩,
           ⟨none, some 25, .fieldAddr 89 (.tmp 24) 0⟩,
           ⟨none, some 26, .load 9 (.tmp 25)⟩,
           ⟨none, some 27, .binOp .neq 9 (.tmp 21) (.tmp 26) 9⟩,
           ⟨none, some 28, .move (.tmp 27)⟩,
           ⟨some (some 28, false), some 29, .move (.tmp 0)⟩,
           ⟨some (some 28, false), some 30, .move (.tmp 5)⟩,
           ⟨some (some 28, false), some 31, .indexAddr 44 (.tmp 29) (.tmp 30)⟩,
           ⟨some (some 28, false), some 32, .fieldAddr 89 (.tmp 31) 1⟩,
           ⟨some (some 28, false), some 33, .load 22 (.tmp 32)⟩,
           ⟨some (some 28, false), some 34, .convert 22 9 (.tmp 33)⟩,
           ⟨some (some 28, false), some 35, .move (.tmp 1)⟩,
           ⟨some (some 28, false), some 36, .move (.tmp 5)⟩,
           ⟨some (some 28, false), some 37, .indexAddr 44 (.tmp 35) (.tmp 36)⟩,
           ⟨some (some 28, false), some 38, .fieldAddr 89 (.tmp 37) 1⟩,
           ⟨some (some 28, false), some 39, .load 22 (.tmp 38)⟩,
           ⟨some (some 28, false), some 40, .convert 22 9 (.tmp 39)⟩,
           ⟨some (some 28, false), some 41, .binOp .neq 9 (.tmp 34) (.tmp 40) 9⟩,
           ⟨none, some 42, .pick (.tmp 28) (.const (.bool true)) (.tmp 41)⟩])
          (.cond (.tmp 42) (.seq (.reg [⟨none, some 4, .assign (.const (.bool false))⟩])
            (.ret))
           (.skip))))
        (.reg [⟨none, some 15, .move (.tmp 5)⟩,
         ⟨none, some 16, .binOp .add 3 (.tmp 15) (.const (.int .i64 1)) 3⟩,
         ⟨none, some 5, .assign (.tmp 16)⟩]))))))
   (.seq (.reg [⟨none, some 4, .assign (.const (.bool true))⟩])
    (.ret))))
theorem com43 : com Tryz.prog 43 ((Tryz.f43.body).getD .skip) = g43 := by kernel_rfl
theorem enter43 {args : List Value} {h : Heap} {R : Value → Heap → Prop} (hN : args.length ≤ 43) (q : AWC Tryz.prog 43 g43 (RetQ Tryz.prog [.tmp 4] R) (frOf args) h) : ACall Tryz.prog 43 args h R :=
  C_call Tryz.func43 (by kernel_rfl) com43 (by kernel_rfl) (by kernel_rfl) hN q

/-- bindle/play.Run -/
noncomputable def g44 : AC :=
 .seq (.reg [⟨none, some 4, .assign (.const (.slice none 0 0))⟩])
 (.seq (.reg [⟨none, some 5, .alloc 103⟩])
  (.seq (.seq (.reg [⟨none, some 8, .move (.tmp 0)⟩,
     ⟨none, some 9, .move (.tmp 1)⟩,
     ⟨none, some 10, .call { callee := (.value (.func 87)), args := #[(.tmp 8), (.tmp 9)], argTypes := #[3, 102] }⟩])
    (.block 0 (.range (.tmp 10) #[11, 12] (rcode (Tryz.f44.body.getD .skip) 0).1 (rcode (Tryz.f44.body.getD .skip) 0).2 (.reg [⟨none, some 7, .alloc 57⟩,
       ⟨none, none, .store 57 (.tmp 7) (.tmp 12)⟩])
      (.block 1 (.reg [⟨none, some 13, .load 103 (.tmp 5)⟩,
        ⟨none, some 14, .load 57 (.tmp 7)⟩,
        ⟨none, some 15, .buildSlice 103 1 #[(0, (.tmp 14))]⟩,
        ⟨none, some 16, .call { callee := (.builtin .append), args := #[(.tmp 13), (.tmp 15)], argTypes := #[103, 103] }⟩,
        ⟨none, none, .store 103 (.tmp 5) (.tmp 16)⟩])))))
   (.seq (.reg [⟨none, some 17, .load 103 (.tmp 5)⟩,
     ⟨none, some 4, .assign (.tmp 17)⟩])
    (.ret))))
theorem com44 : com Tryz.prog 18 ((Tryz.f44.body).getD .skip) = g44 := by kernel_rfl
theorem enter44 {args : List Value} {h : Heap} {R : Value → Heap → Prop} (hN : args.length ≤ 18) (q : AWC Tryz.prog 18 g44 (RetQ Tryz.prog [.tmp 4] R) (frOf args) h) : ACall Tryz.prog 44 args h R :=
  C_call Tryz.func44 (by kernel_rfl) com44 (by kernel_rfl) (by kernel_rfl) hN q

/-- ( *bindle/archive.Archive).free -/
noncomputable def g45 : AC :=
 .seq (.reg [⟨none, some 2, .assign (.const (.int .i64 0))⟩])
 (.seq (.seq (.reg [⟨none, some 4, .move (.tmp 0)⟩,
    ⟨none, some 5, .call { callee := (.value (.func 23)), args := #[(.tmp 4)], argTypes := #[28] }⟩,
    ⟨none, some 3, .assign (.tmp 5)⟩])
   (.seq (.reg [⟨none, some 6, .move (.tmp 3)⟩,
     ⟨none, some 7, .binOp .neq 32 (.tmp 6) (.const (.int .i64 0)) 32⟩])
    (.cond (.tmp 7) (.seq (.reg [⟨none, some 8, .move (.tmp 3)⟩,
       ⟨none, some 2, .assign (.tmp 8)⟩])
      (.ret))
     (.skip))))
  (.seq (.block 0 (.seq (.reg [⟨none, some 10, .move (.tmp 0)⟩,
      ⟨none, some 11, .nilCheck (.tmp 10)⟩,
      ⟨none, some 12, .fieldAddr 69 (.tmp 11) 3⟩,
      ⟨none, some 13, .load 67 (.tmp 12)⟩,
      ⟨none, some 14, .binOp .neq 67 (.tmp 13) (.const (.pointer none)) 67⟩,
      ⟨none, some 9, .assign (.tmp 14)⟩])
     (.cond (.tmp 9) (.seq (.reg [⟨none, some 2, .assign (.const (.int .i64 8))⟩])
       (.ret))
      (.seq (.reg [⟨none, some 16, .move (.tmp 0)⟩,
        ⟨none, some 17, .nilCheck (.tmp 16)⟩,
        ⟨none, some 18, .fieldAddr 69 (.tmp 17) 1⟩,
        ⟨none, some 19, .load 65 (.tmp 18)⟩,
        ⟨none, some 20, .call { callee := (.value (.func 39)), args := #[(.tmp 19)], argTypes := #[65] }⟩,
        ⟨none, some 15, .assign (.tmp 20)⟩])
       (.cond (.tmp 15) (.seq (.reg [⟨none, some 2, .assign (.const (.int .i64 11))⟩])
         (.ret))
        (.skip))))))
   (.seq (.reg [⟨none, some 2, .assign (.const (.int .i64 0))⟩])
    (.ret))))
theorem com45 : com Tryz.prog 21 ((Tryz.f45.body).getD .skip) = g45 := by kernel_rfl
theorem enter45 {args : List Value} {h : Heap} {R : Value → Heap → Prop} (hN : args.length ≤ 21) (q : AWC Tryz.prog 21 g45 (RetQ Tryz.prog [.tmp 2] R) (frOf args) h) : ACall Tryz.prog 45 args h R :=
  C_call Tryz.func45 (by kernel_rfl) com45 (by kernel_rfl) (by kernel_rfl) hN q

/-- ( *bindle/commit.Store).Commit -/
noncomputable def g46 : AC :=
 .seq (.reg [⟨none, some 4, .assign (.const (.int .i64 0))⟩])
 (.seq (.block 0 (.seq (.reg [⟨none, some 11, .move (.tmp 0)⟩,
     ⟨none, some 12, .binOp .eql 65 (.tmp 11) (.const (.pointer none)) 65⟩,
     ⟨none, some 10, .assign (.tmp 12)⟩])
    (.cond (.tmp 10) (.seq (.reg [⟨none, some 4, .assign (.const (.int .i64 1))⟩])
      (.ret))
     (.seq (.reg [⟨none, some 14, .move (.tmp 0)⟩,
       ⟨none, some 15, .nilCheck (.tmp 14)⟩,
       ⟨none, some 16, .fieldAddr 145 (.tmp 15) 6⟩,
       ⟨none, some 17, .load 4 (.tmp 16)⟩,
       ⟨none, some 13, .assign (.tmp 17)⟩])
      (.cond (.tmp 13) (.seq (.reg [⟨none, some 4, .assign (.const (.int .i64 11))⟩])
        (.ret))
       (.seq (.reg [⟨none, some 19, .move (.tmp 1)⟩,
         ⟨none, some 20, .call { callee := (.value (.func 80)), args := #[(.tmp 19)], argTypes := #[91] }⟩,
         ⟨none, some 21, .unOp .not 4 (.tmp 20)⟩,
         ⟨none, some 18, .assign (.tmp 21)⟩])
        (.cond (.tmp 18) (.seq (.reg [⟨none, some 4, .assign (.const (.int .i64 1))⟩])
          (.ret))
         (.seq (.reg [⟨none, some 23, .move (.tmp 0)⟩,
           ⟨none, some 24, .nilCheck (.tmp 23)⟩,
           ⟨none, some 25, .fieldAddr 145 (.tmp 24) 5⟩,
           ⟨none, some 26, .fieldAddr 141 (.tmp 25) 3⟩,
           ⟨none, some 27, .load 4 (.tmp 26)⟩,
           ⟨none, some 22, .assign (.tmp 27)⟩])
          (.cond (.tmp 22) (.seq (.reg [⟨none, some 4, .assign (.const (.int .i64 0))⟩])
            (.ret))
           (.skip))))))))))
  (.seq (.reg [⟨none, some 29, .move (.tmp 0)⟩,
    ⟨none, some 30, .nilCheck (.tmp 29)⟩,
    ⟨none, some 31, .fieldAddr 145 (.tmp 30) 1⟩,
    ⟨none, some 32, .load 94 (.tmp 31)⟩,
    ⟨none, some 33, .move (.tmp 1)⟩,
    ⟨none, some 34, .call { callee := (.value (.func 88)), args := #[(.tmp 32), (.tmp 33)], argTypes := #[94, 91] }⟩,
    ⟨none, some 28, .move (.tmp 34)⟩,
    ⟨none, some 35, .extract (.tmp 28) 0⟩,
    ⟨none, some 36, .extract (.tmp 28) 1⟩,
    ⟨none, some 5, .assign (.tmp 35)⟩,
    ⟨none, some 6, .assign (.tmp 36)⟩])
   (.seq (.seq (.reg [⟨none, some 37, .move (.tmp 0)⟩,
      ⟨none, some 38, .call { callee := (.value (.func 89)), args := #[(.tmp 37)], argTypes := #[65] }⟩,
      ⟨none, some 39, .unOp .not 4 (.tmp 38)⟩,
      ⟨none, some 40, .move (.tmp 39)⟩,
      ⟨some (some 40, false), some 41, .move (.tmp 0)⟩,
      ⟨some (some 40, false), some 42, .nilCheck (.tmp 41)⟩,
      ⟨some (some 40, false), some 43, .fieldAddr 145 (.tmp 42) 4⟩,
      ⟨some (some 40, false), some 44, .load 3 (.tmp 43)⟩,
      ⟨some (some 40, false), some 45, .move (.tmp 5)⟩,
      ⟨some (some 40, false), some 46, .call { callee := (.builtin .len), args := #[(.tmp 45)], argTypes := #[22] }⟩,
      ⟨some (some 40, false), some 47, .call { callee := (.value (.func 90)), args := #[(.tmp 44), (.const (.int .i64 0)), (.tmp 46)], argTypes := #[3, 3, 3] }⟩,
      ⟨some (some 40, false), some 48, .unOp .not 4 (.tmp 47)⟩,
      ⟨none, some 49, .pick (.tmp 40) (.const (.bool true)) (.tmp 48)⟩])
     (.cond (.tmp 49) (.seq (.reg [⟨none, some 4, .assign (.const (.int .i64 14))⟩])
       (.ret))
      (.skip)))
    (.seq (.reg [⟨none, some 50, .move (.tmp 0)⟩,
      ⟨none, some 51, .nilCheck (.tmp 50)⟩,
      ⟨none, some 52, .fieldAddr 145 (.tmp 51) 0⟩,
      ⟨none, some 53, .load 29 (.tmp 52)⟩,
      ⟨none, some 54, .move (.tmp 0)⟩,
      ⟨none, some 55, .nilCheck (.tmp 54)⟩,
      ⟨none, some 56, .fieldAddr 145 (.tmp 55) 3⟩,
      ⟨none, some 57, .load 3 (.tmp 56)⟩,
      ⟨none, some 58, .move (.tmp 0)⟩,
      ⟨none, some 59, .nilCheck (.tmp 58)⟩,
      ⟨none, some 60, .fieldAddr 145 (.tmp 59) 4⟩,
      ⟨none, some 61, .load 3 (.tmp 60)⟩,
      ⟨none, some 62, .move (.tmp 5)⟩,
      ⟨none, some 63, .call { callee := (.value (.func 91)), args := #[(.tmp 53), (.tmp 57), (.tmp 61), (.tmp 62)], argTypes := #[29, 3, 3, 22] }⟩,
      ⟨none, some 7, .assign (.tmp 63)⟩])
     (.seq (.seq (.reg [⟨none, some 64, .move (.tmp 7)⟩,
        ⟨none, some 65, .binOp .eql 32 (.tmp 64) (.const (.int .i64 0)) 32⟩])
       (.cond (.tmp 65) (.reg [⟨none, some 66, .move (.tmp 0)⟩,
         ⟨none, some 67, .nilCheck (.tmp 66)⟩,
         ⟨none, some 68, .fieldAddr 145 (.tmp 67) 0⟩,
         ⟨none, some 69, .load 29 (.tmp 68)⟩,
         ⟨none, some 70, .move (.tmp 0)⟩,
         ⟨none, some 71, .nilCheck (.tmp 70)⟩,
         ⟨none, some 72, .fieldAddr 145 (.tmp 71) 3⟩,
         ⟨none, some 73, .load 3 (.tmp 72)⟩,
         ⟨none, some 74, .call { callee := (.value (.func 75)), args := #[(.tmp 69), (.tmp 73)], argTypes := #[29, 3] }⟩,
         ⟨none, some 7, .assign (.tmp 74)⟩])
        (.skip)))
      (.seq (.seq (.reg [⟨none, some 75, .move (.tmp 7)⟩,
         ⟨none, some 76, .binOp .eql 32 (.tmp 75) (.const (.int .i64 0)) 32⟩])
        (.cond (.tmp 76) (.seq (.draw [⟨⟨none, some 78, .move (.tmp 0)⟩, []⟩,
      ⟨⟨none, some 79, .nilCheck (.tmp 78)⟩, []⟩,
      ⟨⟨none, some 80, .fieldAddr 145 (.tmp 79) 5⟩, []⟩,
      ⟨⟨none, some 81, .load 141 (.tmp 80)⟩, []⟩,
      ⟨⟨none, some 82, .move (.tmp 0)⟩, []⟩,
      ⟨⟨none, some 83, .nilCheck (.tmp 82)⟩, []⟩,
      ⟨⟨none, some 84, .fieldAddr 145 (.tmp 83) 4⟩, []⟩,
      ⟨⟨none, some 85, .load 3 (.tmp 84)⟩, []⟩,
      ⟨⟨none, some 86, .move (.tmp 5)⟩, []⟩,
      ⟨⟨none, some 87, .call { callee := (.builtin .len), args := #[(.tmp 86)], argTypes := #[22] }⟩, []⟩,
      ⟨⟨none, some 88, .call { callee := (.value (.func 92)), args := #[(.tmp 81), (.tmp 85), (.tmp 87)], argTypes := #[141, 3, 3] }⟩, []⟩,
      ⟨⟨none, some 77, .move (.tmp 88)⟩, []⟩,
      ⟨⟨none, some 89, .extract (.tmp 77) 0⟩, []⟩,
      ⟨⟨none, some 90, .extract (.tmp 77) 1⟩, []⟩,
      ⟨⟨none, some 8, .alloc 141⟩, []⟩,
      ⟨⟨none, none, .store 141 (.tmp 8) (.tmp 89)⟩, []⟩,
      ⟨⟨none, some 9, .assign (.tmp 90)⟩, []⟩])
          (.reg [⟨none, some 91, .move (.tmp 0)⟩,
           ⟨none, some 92, .load 141 (.tmp 8)⟩,
           ⟨none, some 93, .call { callee := (.value (.func 93)), args := #[(.tmp 91), (.tmp 92)], argTypes := #[65, 141] }⟩,
           ⟨none, some 7, .assign (.tmp 93)⟩]))
         (.skip)))
       (.seq (.reg [⟨none, some 94, .move (.tmp 0)⟩,
         ⟨none, some 95, .move (.tmp 7)⟩,
         ⟨none, some 96, .binOp .neq 32 (.tmp 95) (.const (.int .i64 0)) 32⟩,
         ⟨none, some 97, .nilCheck (.tmp 94)⟩,
         ⟨none, some 98, .fieldAddr 145 (.tmp 97) 6⟩,
         ⟨none, none, .store 4 (.tmp 98) (.tmp 96)⟩])
        (.seq (.reg [⟨none, some 99, .move (.tmp 7)⟩,
          ⟨none, some 4, .assign (.tmp 99)⟩])
         (.ret)))))))))
theorem com46 : com Tryz.prog 100 ((Tryz.f46.body).getD .skip) = g46 := by kernel_rfl
theorem enter46 {args : List Value} {h : Heap} {R : Value → Heap → Prop} (hN : args.length ≤ 100) (q : AWC Tryz.prog 100 g46 (RetQ Tryz.prog [.tmp 4] R) (frOf args) h) : ACall Tryz.prog 46 args h R :=
  C_call Tryz.func46 (by kernel_rfl) com46 (by kernel_rfl) (by kernel_rfl) hN q

/-- ( *bindle/index.Index).All -/
noncomputable def g47 : AC :=
 .seq (.reg [⟨none, some 2, .assign (.const (.slice none 0 0))⟩])
 (.seq (.seq (.reg [⟨none, some 3, .move (.tmp 0)⟩,
    ⟨none, some 4, .binOp .eql 66 (.tmp 3) (.const (.pointer none)) 66⟩])
   (.cond (.tmp 4) (.seq (.reg [⟨none, some 2, .assign (.const (.slice none 0 0))⟩])
     (.ret))
    (.skip)))
  (.seq (.reg [⟨none, some 5, .move (.tmp 0)⟩,
    ⟨none, some 6, .nilCheck (.tmp 5)⟩,
    ⟨none, some 7, .fieldAddr 133 (.tmp 6) 0⟩,
    ⟨none, some 8, .load 91 (.tmp 7)⟩,
    ⟨none, some 9, .call { callee := (.value (.func 81)), args := #[(.tmp 8)], argTypes := #[91] }⟩,
    ⟨none, some 2, .assign (.tmp 9)⟩])
   (.ret)))
theorem com47 : com Tryz.prog 10 ((Tryz.f47.body).getD .skip) = g47 := by kernel_rfl
theorem enter47 {args : List Value} {h : Heap} {R : Value → Heap → Prop} (hN : args.length ≤ 10) (q : AWC Tryz.prog 10 g47 (RetQ Tryz.prog [.tmp 2] R) (frOf args) h) : ACall Tryz.prog 47 args h R :=
  C_call Tryz.func47 (by kernel_rfl) com47 (by kernel_rfl) (by kernel_rfl) hN q

/-- bindle/record.Put -/
noncomputable def g48 : AC :=
 .seq (.reg [⟨none, some 8, .assign (.const (.slice none 0 0))⟩,
  ⟨none, some 9, .assign (.const (.int .i64 0))⟩])
 (.seq (.seq (.reg [⟨none, some 14, .move (.tmp 1)⟩,
    ⟨none, some 15, .call { callee := (.value (.func 54)), args := #[(.tmp 14)], argTypes := #[9] }⟩,
    ⟨none, some 16, .unOp .not 4 (.tmp 15)⟩])
   (.cond (.tmp 16) (.seq (.reg [⟨none, some 8, .assign (.const (.slice none 0 0))⟩,
      ⟨none, some 9, .assign (.const (.int .i64 6))⟩])
     (.ret))
    (.skip)))
  (.seq (.reg [⟨none, some 18, .move (.tmp 2)⟩,
    ⟨none, some 19, .move (.tmp 3)⟩,
    ⟨none, some 20, .call { callee := (.value (.func 94)), args := #[(.tmp 18), (.tmp 19)], argTypes := #[22, 3] }⟩,
    ⟨none, some 17, .move (.tmp 20)⟩,
    ⟨none, some 21, .extract (.tmp 17) 0⟩,
    ⟨none, some 22, .extract (.tmp 17) 1⟩,
    ⟨none, some 23, .extract (.tmp 17) 2⟩,
    ⟨none, some 10, .assign (.tmp 21)⟩,
    ⟨none, some 11, .assign (.tmp 22)⟩,
    ⟨none, some 12, .assign (.tmp 23)⟩])
   (.seq (.seq (.reg [⟨none, some 24, .move (.tmp 12)⟩,
      ⟨none, some 25, .binOp .neq 32 (.tmp 24) (.const (.int .i64 0)) 32⟩])
     (.cond (.tmp 25) (.seq (.reg [⟨none, some 26, .move (.tmp 12)⟩,
        ⟨none, some 8, .assign (.const (.slice none 0 0))⟩,
        ⟨none, some 9, .assign (.tmp 26)⟩])
       (.ret))
      (.skip)))
    (.seq (.reg [⟨none, some 28, .move (.tmp 0)⟩,
      ⟨none, some 29, .move (.tmp 10)⟩,
      ⟨none, some 30, .move (.tmp 1)⟩,
      ⟨none, some 31, .move (.tmp 2)⟩,
      ⟨none, some 32, .call { callee := (.builtin .len), args := #[(.tmp 31)], argTypes := #[22] }⟩,
      ⟨none, some 33, .move (.tmp 11)⟩,
      ⟨none, some 34, .call { callee := (.builtin .len), args := #[(.tmp 33)], argTypes := #[22] }⟩,
      ⟨none, some 35, .move (.tmp 0)⟩,
      ⟨none, some 36, .move (.tmp 11)⟩,
      ⟨none, some 37, .call { callee := (.value (.func 68)), args := #[(.tmp 35), (.tmp 36)], argTypes := #[94, 22] }⟩,
      ⟨none, some 38, .build 115 #[(0, (.tmp 29)), (1, (.tmp 30)), (2, (.tmp 32)), (3, (.tmp 34)), (4, (.tmp 37))]⟩,
      ⟨none, some 39, .call { callee := (.value (.func 55)), args := #[(.tmp 28), (.tmp 38)], argTypes := #[94, 115] }⟩,
      ⟨none, some 27, .move (.tmp 39)⟩,
      ⟨none, some 40, .extract (.tmp 27) 0⟩,
      ⟨none, some 41, .extract (.tmp 27) 1⟩,
      ⟨none, some 13, .assign (.tmp 40)⟩,
      ⟨none, some 12, .assign (.tmp 41)⟩])
     (.seq (.reg [⟨none, some 42, .move (.tmp 13)⟩,
       ⟨none, some 43, .move (.tmp 11)⟩,
       ⟨none, some 44, .call { callee := (.builtin .append), args := #[(.tmp 42), (.tmp 43)], argTypes := #[22, 22] }⟩,
       ⟨none, some 45, .move (.tmp 12)⟩,
       ⟨none, some 8, .assign (.tmp 44)⟩,
       ⟨none, some 9, .assign (.tmp 45)⟩])
      (.ret))))))
theorem com48 : com Tryz.prog 46 ((Tryz.f48.body).getD .skip) = g48 := by kernel_rfl
theorem enter48 {args : List Value} {h : Heap} {R : Value → Heap → Prop} (hN : args.length ≤ 46) (q : AWC Tryz.prog 46 g48 (RetQ Tryz.prog [.tmp 8, .tmp 9] R) (frOf args) h) : ACall Tryz.prog 48 args h R :=
  C_call Tryz.func48 (by kernel_rfl) com48 (by kernel_rfl) (by kernel_rfl) hN q

/-- ( *bindle/index.Index).Room -/
noncomputable def g49 : AC :=
 .seq (.reg [⟨none, some 4, .assign (.const (.bool false))⟩])
 (.seq (.seq (.reg [⟨none, some 7, .move (.tmp 0)⟩,
    ⟨none, some 8, .binOp .eql 66 (.tmp 7) (.const (.pointer none)) 66⟩])
   (.cond (.tmp 8) (.seq (.reg [⟨none, some 4, .assign (.const (.bool false))⟩])
     (.ret))
    (.skip)))
  (.seq (.reg [⟨none, some 10, .move (.tmp 0)⟩,
    ⟨none, some 11, .move (.tmp 1)⟩,
    ⟨none, some 12, .call { callee := (.value (.func 70)), args := #[(.tmp 10), (.tmp 11)], argTypes := #[66, 9] }⟩,
    ⟨none, some 9, .move (.tmp 12)⟩,
    ⟨none, some 13, .extract (.tmp 9) 0⟩,
    ⟨none, some 14, .extract (.tmp 9) 1⟩,
    ⟨none, some 5, .assign (.tmp 13)⟩,
    ⟨none, some 6, .assign (.tmp 14)⟩])
   (.seq (.reg [⟨none, some 15, .move (.tmp 6)⟩,
     ⟨none, some 16, .move (.tmp 15)⟩,
     ⟨some (some 16, false), some 17, .move (.tmp 0)⟩,
     ⟨some (some 16, false), some 18, .nilCheck (.tmp 17)⟩,
     ⟨some (some 16, false), some 19, .fieldAddr 133 (.tmp 18) 0⟩,
     ⟨some (some 16, false), some 20, .load 91 (.tmp 19)⟩,
     ⟨some (some 16, false), some 21, .call { callee := (.builtin .len), args := #[(.tmp 20)], argTypes := #[91] }⟩,
     ⟨some (some 16, false), some 22, .binOp .lss 3 (.tmp 21) (.const (.int .i64 200)) 3⟩,
     ⟨none, some 23, .pick (.tmp 16) (.const (.bool true)) (.tmp 22)⟩,
     ⟨none, some 4, .assign (.tmp 23)⟩])
    (.ret))))
theorem com49 : com Tryz.prog 24 ((Tryz.f49.body).getD .skip) = g49 := by kernel_rfl
theorem enter49 {args : List Value} {h : Heap} {R : Value → Heap → Prop} (hN : args.length ≤ 24) (q : AWC Tryz.prog 24 g49 (RetQ Tryz.prog [.tmp 4] R) (frOf args) h) : ACall Tryz.prog 49 args h R :=
  C_call Tryz.func49 (by kernel_rfl) com49 (by kernel_rfl) (by kernel_rfl) hN q

/-- ( *bindle/archive.Archive).add -/
noncomputable def g50 : AC :=
 .seq (.reg [⟨none, some 6, .assign (.const (.int .i64 0))⟩])
 (.seq (.seq (.reg [⟨none, some 8, .move (.tmp 0)⟩,
    ⟨none, some 9, .nilCheck (.tmp 8)⟩,
    ⟨none, some 10, .fieldAddr 69 (.tmp 9) 1⟩,
    ⟨none, some 11, .load 65 (.tmp 10)⟩,
    ⟨none, some 12, .move (.tmp 1)⟩,
    ⟨none, some 13, .move (.tmp 2)⟩,
    ⟨none, some 14, .call { callee := (.value (.func 56)), args := #[(.tmp 11), (.const (.int .i64 0)), (.tmp 12), (.tmp 13)], argTypes := #[65, 3, 22, 3] }⟩,
    ⟨none, some 7, .assign (.tmp 14)⟩])
   (.seq (.reg [⟨none, some 15, .move (.tmp 7)⟩,
     ⟨none, some 16, .binOp .neq 32 (.tmp 15) (.const (.int .i64 0)) 32⟩])
    (.cond (.tmp 16) (.seq (.reg [⟨none, some 17, .move (.tmp 7)⟩,
       ⟨none, some 6, .assign (.tmp 17)⟩])
      (.ret))
     (.skip))))
  (.seq (.reg [⟨none, some 18, .move (.tmp 0)⟩,
    ⟨none, some 19, .nilCheck (.tmp 18)⟩,
    ⟨none, some 20, .fieldAddr 69 (.tmp 19) 1⟩,
    ⟨none, some 21, .load 65 (.tmp 20)⟩,
    ⟨none, some 22, .move (.tmp 1)⟩,
    ⟨none, some 23, .call { callee := (.builtin .len), args := #[(.tmp 22)], argTypes := #[22] }⟩,
    ⟨none, some 24, .call { callee := (.value (.func 62)), args := #[(.tmp 21), (.tmp 23)], argTypes := #[65, 3] }⟩])
   (.seq (.reg [⟨none, some 6, .assign (.const (.int .i64 0))⟩])
    (.ret))))
theorem com50 : com Tryz.prog 25 ((Tryz.f50.body).getD .skip) = g50 := by kernel_rfl
theorem enter50 {args : List Value} {h : Heap} {R : Value → Heap → Prop} (hN : args.length ≤ 25) (q : AWC Tryz.prog 25 g50 (RetQ Tryz.prog [.tmp 6] R) (frOf args) h) : ACall Tryz.prog 50 args h R :=
  C_call Tryz.func50 (by kernel_rfl) com50 (by kernel_rfl) (by kernel_rfl) hN q

/-- ( *bindle/archive.Archive).with -/
noncomputable def g51 : AC :=
 .seq (.reg [⟨none, some 4, .assign (.const (.int .i64 0))⟩])
 (.seq (.reg [⟨none, some 8, .move (.tmp 0)⟩,
   ⟨none, some 9, .nilCheck (.tmp 8)⟩,
   ⟨none, some 10, .fieldAddr 69 (.tmp 9) 2⟩,
   ⟨none, some 11, .load 66 (.tmp 10)⟩,
   ⟨none, some 12, .call { callee := (.value (.func 64)), args := #[(.tmp 11)], argTypes := #[66] }⟩,
   ⟨none, some 5, .assign (.tmp 12)⟩])
  (.seq (.seq (.reg [⟨none, some 14, .move (.tmp 0)⟩,
     ⟨none, some 15, .nilCheck (.tmp 14)⟩,
     ⟨none, some 16, .fieldAddr 69 (.tmp 15) 2⟩,
     ⟨none, some 17, .load 66 (.tmp 16)⟩,
     ⟨none, some 18, .move (.tmp 1)⟩,
     ⟨none, some 19, .call { callee := (.value (.func 33)), args := #[(.tmp 17), (.tmp 18)], argTypes := #[66, 9] }⟩,
     ⟨none, some 13, .move (.tmp 19)⟩,
     ⟨none, some 20, .extract (.tmp 13) 0⟩,
     ⟨none, some 21, .extract (.tmp 13) 1⟩,
     ⟨none, some 6, .alloc 41⟩,
     ⟨none, none, .store 41 (.tmp 6) (.tmp 20)⟩,
     ⟨none, some 7, .assign (.tmp 21)⟩])
    (.seq (.reg [⟨none, some 22, .move (.tmp 7)⟩,
      ⟨none, some 23, .unOp .not 4 (.tmp 22)⟩])
     (.cond (.tmp 23) (.reg [⟨none, some 24, .move (.tmp 5)⟩,
       ⟨none, some 25, .move (.tmp 1)⟩,
       ⟨none, some 26, .call { callee := (.builtin .len), args := #[(.tmp 25)], argTypes := #[9] }⟩,
       ⟨none, some 27, .binOp .add 3 (.const (.int .i64 18)) (.tmp 26) 3⟩,
       ⟨none, some 28, .binOp .add 3 (.tmp 24) (.tmp 27) 3⟩,
       ⟨none, some 5, .assign (.tmp 28)⟩])
      (.skip))))
   (.seq (.reg [⟨none, some 29, .move (.tmp 5)⟩,
     ⟨none, some 4, .assign (.tmp 29)⟩])
    (.ret))))
theorem com51 : com Tryz.prog 30 ((Tryz.f51.body).getD .skip) = g51 := by kernel_rfl
theorem enter51 {args : List Value} {h : Heap} {R : Value → Heap → Prop} (hN : args.length ≤ 30) (q : AWC Tryz.prog 30 g51 (RetQ Tryz.prog [.tmp 4] R) (frOf args) h) : ACall Tryz.prog 51 args h R :=
  C_call Tryz.func51 (by kernel_rfl) com51 (by kernel_rfl) (by kernel_rfl) hN q

/-- ( *bindle/index.Index).Put -/
noncomputable def g52 : AC :=
 .seq (.reg [⟨none, some 3, .box 41 (.tmp 1)⟩,
  ⟨none, some 4, .assign (.const (.int .i64 0))⟩])
 (.seq (.block 0 (.seq (.reg [⟨none, some 8, .move (.tmp 0)⟩,
     ⟨none, some 9, .binOp .eql 66 (.tmp 8) (.const (.pointer none)) 66⟩,
     ⟨none, some 10, .move (.tmp 9)⟩,
     ⟨some (some 10, false), some 11, .load 41 (.tmp 3)⟩,
     ⟨some (some 10, false), some 12, .call { callee := (.value (.func 95)), args := #[(.tmp 11)], argTypes := #[41] }⟩,
     ⟨some (some 10, false), some 13, .unOp .not 4 (.tmp 12)⟩,
     ⟨none, some 14, .pick (.tmp 10) (.const (.bool true)) (.tmp 13)⟩,
     ⟨none, some 7, .assign (.tmp 14)⟩])
    (.cond (.tmp 7) (.seq (.reg [⟨none, some 4, .assign (.const (.int .i64 1))⟩])
      (.ret))
     (.seq (.reg [⟨none, some 16, .move (.tmp 0)⟩,
       ⟨none, some 17, .fieldAddr 41 (.tmp 3) 0⟩,
       ⟨none, some 18, .load 9 (.tmp 17)⟩,
       ⟨none, some 19, .call { callee := (.value (.func 49)), args := #[(.tmp 16), (.tmp 18)], argTypes := #[66, 9] }⟩,
       ⟨none, some 20, .unOp .not 4 (.tmp 19)⟩,
       ⟨none, some 15, .assign (.tmp 20)⟩])
      (.cond (.tmp 15) (.seq (.reg [⟨none, some 4, .assign (.const (.int .i64 14))⟩])
        (.ret))
       (.skip))))))
  (.seq (.reg [⟨none, some 22, .move (.tmp 0)⟩,
    ⟨none, some 23, .fieldAddr 41 (.tmp 3) 0⟩,
    ⟨none, some 24, .load 9 (.tmp 23)⟩,
    ⟨none, some 25, .call { callee := (.value (.func 70)), args := #[(.tmp 22), (.tmp 24)], argTypes := #[66, 9] }⟩,
    ⟨none, some 21, .move (.tmp 25)⟩,
    ⟨none, some 26, .extract (.tmp 21) 0⟩,
    ⟨none, some 27, .extract (.tmp 21) 1⟩,
    ⟨none, some 5, .assign (.tmp 26)⟩,
    ⟨none, some 6, .assign (.tmp 27)⟩])
   (.seq (.seq (.reg [⟨none, some 28, .move (.tmp 6)⟩])
     (.cond (.tmp 28) (.reg [⟨none, some 29, .move (.tmp 0)⟩,
       ⟨none, some 30, .nilCheck (.tmp 29)⟩,
       ⟨none, some 31, .fieldAddr 133 (.tmp 30) 0⟩,
       ⟨none, some 32, .load 91 (.tmp 31)⟩,
       ⟨none, some 33, .move (.tmp 5)⟩,
       ⟨none, some 34, .load 41 (.tmp 3)⟩,
       ⟨none, some 35, .indexAddr 91 (.tmp 32) (.tmp 33)⟩,
       ⟨none, none, .store 41 (.tmp 35) (.tmp 34)⟩])
      (.draw [⟨⟨none, some 36, .move (.tmp 0)⟩, []⟩,
      ⟨⟨none, some 37, .move (.tmp 0)⟩, []⟩,
      ⟨⟨none, some 38, .nilCheck (.tmp 37)⟩, []⟩,
      ⟨⟨none, some 39, .fieldAddr 133 (.tmp 38) 0⟩, []⟩,
      ⟨⟨none, some 40, .load 91 (.tmp 39)⟩, []⟩,
      ⟨⟨none, some 41, .move (.tmp 5)⟩, []⟩,
      ⟨⟨none, some 42, .load 41 (.tmp 3)⟩, []⟩,
      ⟨⟨none, some 43, .buildSlice 91 1 #[(0, (.tmp 42))]⟩, [⟨none, some 40, .load 91 (.tmp 39)⟩]⟩,
      ⟨⟨none, some 44, .call { callee := (.value (.func 96)), args := #[(.tmp 40), (.tmp 41), (.tmp 43)], argTypes := #[91, 3, 91] }⟩, []⟩,
      ⟨⟨none, some 45, .nilCheck (.tmp 36)⟩, []⟩,
      ⟨⟨none, some 46, .fieldAddr 133 (.tmp 45) 0⟩, []⟩,
      ⟨⟨none, none, .store 91 (.tmp 46) (.tmp 44)⟩, []⟩])))
    (.seq (.reg [⟨none, some 4, .assign (.const (.int .i64 0))⟩])
     (.ret)))))
theorem com52 : com Tryz.prog 47 ((Tryz.f52.body).getD .skip) = g52 := by kernel_rfl
theorem enter52 {args : List Value} {h : Heap} {R : Value → Heap → Prop} (hN : args.length ≤ 47) (q : AWC Tryz.prog 47 g52 (RetQ Tryz.prog [.tmp 4] R) (frOf args) h) : ACall Tryz.prog 52 args h R :=
  C_call Tryz.func52 (by kernel_rfl) com52 (by kernel_rfl) (by kernel_rfl) hN q

/-- bindle/archive.moved -/
noncomputable def g53 : AC :=
 .seq (.reg [⟨none, some 6, .alloc 41⟩])
 (.seq (.reg [⟨none, some 11, .move (.tmp 0)⟩,
   ⟨none, some 12, .move (.tmp 1)⟩,
   ⟨none, some 13, .call { callee := (.value (.func 97)), args := #[(.tmp 11), (.tmp 12), (.const (.int .i64 0))], argTypes := #[94, 22, 3] }⟩,
   ⟨none, some 10, .move (.tmp 13)⟩,
   ⟨none, some 14, .extract (.tmp 10) 0⟩,
   ⟨none, some 15, .extract (.tmp 10) 1⟩,
   ⟨none, some 7, .alloc 167⟩,
   ⟨none, none, .store 167 (.tmp 7) (.tmp 14)⟩,
   ⟨none, some 8, .assign (.tmp 15)⟩])
  (.seq (.reg [⟨none, some 16, .fieldAddr 167 (.tmp 7) 1⟩,
    ⟨none, some 17, .load 41 (.tmp 16)⟩,
    ⟨none, some 9, .alloc 41⟩,
    ⟨none, none, .store 41 (.tmp 9) (.tmp 17)⟩])
   (.seq (.reg [⟨none, some 18, .move (.tmp 2)⟩,
     ⟨none, some 19, .fieldAddr 41 (.tmp 9) 2⟩,
     ⟨none, some 20, .load 3 (.tmp 19)⟩,
     ⟨none, some 21, .move (.tmp 2)⟩,
     ⟨none, some 22, .binOp .add 3 (.tmp 20) (.tmp 21) 3⟩,
     ⟨none, some 23, .fieldAddr 41 (.tmp 9) 1⟩,
     ⟨none, none, .store 3 (.tmp 23) (.tmp 18)⟩,
     ⟨none, some 24, .fieldAddr 41 (.tmp 9) 2⟩,
     ⟨none, none, .store 3 (.tmp 24) (.tmp 22)⟩])
    (.seq (.reg [⟨none, some 25, .load 41 (.tmp 9)⟩,
      ⟨none, none, .store 41 (.tmp 6) (.tmp 25)⟩])
     (.ret)))))
theorem com53 : com Tryz.prog 26 ((Tryz.f53.body).getD .skip) = g53 := by kernel_rfl
theorem enter53 {args : List Value} {h : Heap} {R : Value → Heap → Prop} (hN : args.length ≤ 26) (q : AWC Tryz.prog 26 g53 (RetQ Tryz.prog [.cell 6 41] R) (frOf args) h) : ACall Tryz.prog 53 args h R :=
  C_call Tryz.func53 (by kernel_rfl) com53 (by kernel_rfl) (by kernel_rfl) hN q

/-- bindle/member.Right -/
noncomputable def g54 : AC :=
 .seq (.reg [⟨none, some 2, .assign (.const (.bool false))⟩])
 (.seq (.reg [⟨none, some 3, .move (.tmp 0)⟩,
   ⟨none, some 4, .call { callee := (.builtin .len), args := #[(.tmp 3)], argTypes := #[9] }⟩,
   ⟨none, some 5, .binOp .leq 3 (.tmp 4) (.const (.int .i64 64)) 3⟩,
   ⟨none, some 6, .move (.tmp 5)⟩,
   ⟨some (some 6, true), some 7, .move (.tmp 0)⟩,
   ⟨some (some 6, true), some 8, .call { callee := (.value (.func 99)), args := #[(.tmp 7), (.const (.string { data := #[47] }))], argTypes := #[9, 9] }⟩,
   ⟨some (some 6, true), some 9, .call { callee := (.value (.func 98)), args := #[(.tmp 8), (.func 100)], argTypes := #[50, 108] }⟩,
   ⟨some (some 6, true), some 10, .unOp .not 4 (.tmp 9)⟩,
   ⟨none, some 11, .pick (.tmp 6) (.tmp 10) (.const (.bool false))⟩,
   ⟨none, some 2, .assign (.tmp 11)⟩])
  (.ret))
theorem com54 : com Tryz.prog 12 ((Tryz.f54.body).getD .skip) = g54 := by kernel_rfl
theorem enter54 {args : List Value} {h : Heap} {R : Value → Heap → Prop} (hN : args.length ≤ 12) (q : AWC Tryz.prog 12 g54 (RetQ Tryz.prog [.tmp 2] R) (frOf args) h) : ACall Tryz.prog 54 args h R :=
  C_call Tryz.func54 (by kernel_rfl) com54 (by kernel_rfl) (by kernel_rfl) hN q

/-- bindle/local.Put -/
noncomputable def g55 : AC :=
 .seq (.reg [⟨none, some 3, .box 115 (.tmp 1)⟩,
  ⟨none, some 4, .assign (.const (.slice none 0 0))⟩,
  ⟨none, some 5, .assign (.const (.int .i64 0))⟩])
 (.seq (.seq (.reg [⟨none, some 9, .load 115 (.tmp 3)⟩,
    ⟨none, some 10, .call { callee := (.value (.func 102)), args := #[(.tmp 9)], argTypes := #[115] }⟩,
    ⟨none, some 11, .unOp .not 4 (.tmp 10)⟩])
   (.cond (.tmp 11) (.seq (.reg [⟨none, some 4, .assign (.const (.slice none 0 0))⟩,
      ⟨none, some 5, .assign (.const (.int .i64 1))⟩])
     (.ret))
    (.skip)))
  (.seq (.reg [⟨none, some 12, .buildSlice 22 4 #[(0, (.const (.int .u8 76))), (1, (.const (.int .u8 77))), (2, (.const (.int .u8 66))), (3, (.const (.int .u8 82)))]⟩,
    ⟨none, some 13, .convert 22 22 (.tmp 12)⟩,
    ⟨none, some 14, .fieldAddr 115 (.tmp 3) 0⟩,
    ⟨none, some 15, .load 3 (.tmp 14)⟩,
    ⟨none, some 16, .convert 3 5 (.tmp 15)⟩,
    ⟨none, some 17, .fieldAddr 115 (.tmp 3) 1⟩,
    ⟨none, some 18, .load 9 (.tmp 17)⟩,
    ⟨none, some 19, .call { callee := (.builtin .len), args := #[(.tmp 18)], argTypes := #[9] }⟩,
    ⟨none, some 20, .convert 3 5 (.tmp 19)⟩,
    ⟨none, some 21, .buildSlice 22 2 #[(0, (.tmp 16)), (1, (.tmp 20))]⟩,
    ⟨none, some 22, .call { callee := (.builtin .append), args := #[(.tmp 13), (.tmp 21)], argTypes := #[22, 22] }⟩,
    ⟨none, some 6, .assign (.tmp 22)⟩])
   (.seq (.seq (.reg [⟨none, some 23, .fieldAddr 115 (.tmp 3) 2⟩,
      ⟨none, some 24, .load 3 (.tmp 23)⟩,
      ⟨none, some 25, .convert 3 39 (.tmp 24)⟩,
      ⟨none, some 26, .fieldAddr 115 (.tmp 3) 3⟩,
      ⟨none, some 27, .load 3 (.tmp 26)⟩,
      ⟨none, some 28, .convert 3 39 (.tmp 27)⟩,
      ⟨none, some 29, .fieldAddr 115 (.tmp 3) 4⟩,
      ⟨none, some 30, .load 39 (.tmp 29)⟩,
      ⟨none, some 31, .build 173 #[(0, (.tmp 25)), (1, (.tmp 28)), (2, (.tmp 30))]⟩,
      ⟨none, some 32, .move (.const (.int .i64 0))⟩])
     (.block 0 (.loop (.seq (.reg [⟨none, some 33, .binOp .lss 3 (.tmp 32) (.const (.int .i64 3)) 3⟩])
        (.seq (.cond (.tmp 33) (.skip)
          (.exit 0))
         (.seq (.block 1 (.seq (.reg [⟨none, some 34, .index 173 (.tmp 31) (.tmp 32)⟩,
             ⟨none, some 8, .assign (.tmp 34)⟩])
            (.reg [⟨none, some 35, .move (.tmp 6)⟩,
             ⟨none, some 36, .move (.tmp 8)⟩,
             ⟨none, some 37, .call { callee := (.value (.func 103)), args := #[(.tmp 35), (.tmp 36), (.const (.int .i64 4))], argTypes := #[22, 39, 3] }⟩,
             ⟨none, some 6, .assign (.tmp 37)⟩])))
          (.reg [⟨none, some 38, .binOp .add 3 (.tmp 32) (.const (.int .i64 1)) 3⟩,
           ⟨none, some 32, .move (.tmp 38)⟩])))))))
    (.seq (.reg [⟨none, some 39, .move (.tmp 6)⟩,
      ⟨none, some 40, .fieldAddr 115 (.tmp 3) 1⟩,
      ⟨none, some 41, .load 9 (.tmp 40)⟩,
      ⟨none, some 42, .call { callee := (.builtin .append), args := #[(.tmp 39), (.tmp 41)], argTypes := #[22, 9] }⟩,
      ⟨none, some 6, .assign (.tmp 42)⟩])
     (.seq (.reg [⟨none, some 43, .move (.tmp 6)⟩,
       ⟨none, some 44, .move (.tmp 0)⟩,
       ⟨none, some 45, .move (.tmp 6)⟩,
       ⟨none, some 46, .call { callee := (.value (.func 68)), args := #[(.tmp 44), (.tmp 45)], argTypes := #[94, 22] }⟩,
       ⟨none, some 47, .call { callee := (.value (.func 103)), args := #[(.tmp 43), (.tmp 46), (.const (.int .i64 4))], argTypes := #[22, 39, 3] }⟩,
       ⟨none, some 4, .assign (.tmp 47)⟩,
       ⟨none, some 5, .assign (.const (.int .i64 0))⟩])
      (.ret))))))
theorem com55 : com Tryz.prog 48 ((Tryz.f55.body).getD .skip) = g55 := by kernel_rfl
theorem enter55 {args : List Value} {h : Heap} {R : Value → Heap → Prop} (hN : args.length ≤ 48) (q : AWC Tryz.prog 48 g55 (RetQ Tryz.prog [.tmp 4, .tmp 5] R) (frOf args) h) : ACall Tryz.prog 55 args h R :=
  C_call Tryz.func55 (by kernel_rfl) com55 (by kernel_rfl) (by kernel_rfl) hN q

/-- ( *bindle/commit.Store).Lay -/
noncomputable def g56 : AC :=
 .seq (.reg [⟨none, some 8, .assign (.const (.int .i64 0))⟩])
 (.seq (.block 0 (.seq (.reg [⟨none, some 13, .move (.tmp 0)⟩,
     ⟨none, some 14, .binOp .eql 65 (.tmp 13) (.const (.pointer none)) 65⟩,
     ⟨none, some 12, .assign (.tmp 14)⟩])
    (.cond (.tmp 12) (.seq (.reg [⟨none, some 8, .assign (.const (.int .i64 1))⟩])
      (.ret))
     (.seq (.reg [⟨none, some 16, .move (.tmp 0)⟩,
       ⟨none, some 17, .nilCheck (.tmp 16)⟩,
       ⟨none, some 18, .fieldAddr 145 (.tmp 17) 6⟩,
       ⟨none, some 19, .load 4 (.tmp 18)⟩,
       ⟨none, some 15, .assign (.tmp 19)⟩])
      (.cond (.tmp 15) (.seq (.reg [⟨none, some 8, .assign (.const (.int .i64 11))⟩])
        (.ret))
       (.seq (.reg [⟨none, some 21, .move (.tmp 1)⟩,
         ⟨none, some 22, .binOp .lss 3 (.tmp 21) (.const (.int .i64 0)) 3⟩,
         ⟨none, some 20, .assign (.tmp 22)⟩])
        (.cond (.tmp 20) (.seq (.reg [⟨none, some 8, .assign (.const (.int .i64 1))⟩])
          (.ret))
         (.seq (.reg [⟨none, some 24, .move (.tmp 1)⟩,
           ⟨none, some 25, .binOp .gtr 3 (.tmp 24) (.const (.int .i64 2097152)) 3⟩,
           ⟨none, some 26, .move (.tmp 25)⟩,
           ⟨some (some 26, false), some 27, .move (.tmp 0)⟩,
           ⟨some (some 26, false), some 28, .nilCheck (.tmp 27)⟩,
           ⟨some (some 26, false), some 29, .fieldAddr 145 (.tmp 28) 4⟩,
           ⟨some (some 26, false), some 30, .load 3 (.tmp 29)⟩,
           ⟨some (some 26, false), some 31, .move (.tmp 1)⟩,
           ⟨some (some 26, false), some 32, .binOp .add 3 (.tmp 30) (.tmp 31) 3⟩,
           ⟨some (some 26, false), some 33, .move (.tmp 2)⟩,
           ⟨some (some 26, false), some 34, .call { callee := (.builtin .len), args := #[(.tmp 33)], argTypes := #[22] }⟩,
           ⟨some (some 26, false), some 35, .move (.tmp 3)⟩,
           ⟨some (some 26, false), some 36, .call { callee := (.value (.func 90)), args := #[(.tmp 32), (.tmp 34), (.tmp 35)], argTypes := #[3, 3, 3] }⟩,
           ⟨some (some 26, false), some 37, .unOp .not 4 (.tmp 36)⟩,
           ⟨none, some 38, .pick (.tmp 26) (.const (.bool true)) (.tmp 37)⟩,
           ⟨none, some 39, .move (.tmp 38)⟩,
           ⟨some (some 39, false), some 40, .move (.tmp 0)⟩,
           ⟨some (some 39, false), some 41, .call { callee := (.value (.func 89)), args := #[(.tmp 40)], argTypes := #[65] }⟩,
           ⟨some (some 39, false), some 42, .unOp .not 4 (.tmp 41)⟩,
           ⟨none, some 43, .pick (.tmp 39) (.const (.bool true)) (.tmp 42)⟩,
           ⟨none, some 23, .assign (.tmp 43)⟩])
          (.cond (.tmp 23) (.seq (.reg [⟨none, some 8, .assign (.const (.int .i64 14))⟩])
            (.ret))
           (.skip))))))))))
  (.seq (.seq (.reg [⟨none, some 44, .move (.tmp 0)⟩,
     ⟨none, some 45, .nilCheck (.tmp 44)⟩,
     ⟨none, some 46, .fieldAddr 145 (.tmp 45) 5⟩,
     ⟨none, some 47, .fieldAddr 141 (.tmp 46) 3⟩,
     ⟨none, some 48, .load 4 (.tmp 47)⟩])
    (.cond (.tmp 48) (.seq (.reg [⟨none, some 50, .move (.tmp 0)⟩,
       ⟨none, some 51, .nilCheck (.tmp 50)⟩,
       ⟨none, some 52, .fieldAddr 145 (.tmp 51) 5⟩,
       ⟨none, some 53, .load 141 (.tmp 52)⟩,
       ⟨none, some 54, .call { callee := (.value (.func 104)), args := #[(.tmp 53)], argTypes := #[141] }⟩,
       ⟨none, some 49, .move (.tmp 54)⟩,
       ⟨none, some 55, .extract (.tmp 49) 0⟩,
       ⟨none, some 56, .extract (.tmp 49) 1⟩,
       ⟨none, some 9, .alloc 141⟩,
       ⟨none, none, .store 141 (.tmp 9) (.tmp 55)⟩,
       ⟨none, some 10, .assign (.tmp 56)⟩])
      (.seq (.reg [⟨none, some 57, .move (.tmp 0)⟩,
        ⟨none, some 58, .load 141 (.tmp 9)⟩,
        ⟨none, some 59, .call { callee := (.value (.func 93)), args := #[(.tmp 57), (.tmp 58)], argTypes := #[65, 141] }⟩,
        ⟨none, some 11, .assign (.tmp 59)⟩])
       (.seq (.reg [⟨none, some 60, .move (.tmp 11)⟩,
         ⟨none, some 61, .binOp .neq 32 (.tmp 60) (.const (.int .i64 0)) 32⟩])
        (.cond (.tmp 61) (.seq (.reg [⟨none, some 62, .move (.tmp 11)⟩,
           ⟨none, some 8, .assign (.tmp 62)⟩])
          (.ret))
         (.skip)))))
     (.skip)))
   (.seq (.reg [⟨none, some 63, .move (.tmp 0)⟩,
     ⟨none, some 64, .nilCheck (.tmp 63)⟩,
     ⟨none, some 65, .fieldAddr 145 (.tmp 64) 0⟩,
     ⟨none, some 66, .load 29 (.tmp 65)⟩,
     ⟨none, some 67, .move (.tmp 0)⟩,
     ⟨none, some 68, .nilCheck (.tmp 67)⟩,
     ⟨none, some 69, .fieldAddr 145 (.tmp 68) 3⟩,
     ⟨none, some 70, .load 3 (.tmp 69)⟩,
     ⟨none, some 71, .move (.tmp 0)⟩,
     ⟨none, some 72, .nilCheck (.tmp 71)⟩,
     ⟨none, some 73, .fieldAddr 145 (.tmp 72) 4⟩,
     ⟨none, some 74, .load 3 (.tmp 73)⟩,
     ⟨none, some 75, .move (.tmp 1)⟩,
     ⟨none, some 76, .binOp .add 3 (.tmp 74) (.tmp 75) 3⟩,
     ⟨none, some 77, .move (.tmp 2)⟩,
     ⟨none, some 78, .call { callee := (.value (.func 91)), args := #[(.tmp 66), (.tmp 70), (.tmp 76), (.tmp 77)], argTypes := #[29, 3, 3, 22] }⟩,
     ⟨none, some 8, .assign (.tmp 78)⟩])
    (.ret))))
theorem com56 : com Tryz.prog 79 ((Tryz.f56.body).getD .skip) = g56 := by kernel_rfl
theorem enter56 {args : List Value} {h : Heap} {R : Value → Heap → Prop} (hN : args.length ≤ 79) (q : AWC Tryz.prog 79 g56 (RetQ Tryz.prog [.tmp 8] R) (frOf args) h) : ACall Tryz.prog 56 args h R :=
  C_call Tryz.func56 (by kernel_rfl) com56 (by kernel_rfl) (by kernel_rfl) hN q

/-- ( *bindle/archive.Archive).streaming -/
noncomputable def g57 : AC :=
 .seq (.reg [⟨none, some 2, .assign (.const (.int .i64 0))⟩])
 (.seq (.seq (.reg [⟨none, some 4, .move (.tmp 0)⟩,
    ⟨none, some 5, .call { callee := (.value (.func 23)), args := #[(.tmp 4)], argTypes := #[28] }⟩,
    ⟨none, some 3, .assign (.tmp 5)⟩])
   (.seq (.reg [⟨none, some 6, .move (.tmp 3)⟩,
     ⟨none, some 7, .binOp .neq 32 (.tmp 6) (.const (.int .i64 0)) 32⟩])
    (.cond (.tmp 7) (.seq (.reg [⟨none, some 8, .move (.tmp 3)⟩,
       ⟨none, some 2, .assign (.tmp 8)⟩])
      (.ret))
     (.skip))))
  (.seq (.seq (.reg [⟨none, some 9, .move (.tmp 0)⟩,
     ⟨none, some 10, .nilCheck (.tmp 9)⟩,
     ⟨none, some 11, .fieldAddr 69 (.tmp 10) 3⟩,
     ⟨none, some 12, .load 67 (.tmp 11)⟩,
     ⟨none, some 13, .binOp .eql 67 (.tmp 12) (.const (.pointer none)) 67⟩])
    (.cond (.tmp 13) (.seq (.reg [⟨none, some 2, .assign (.const (.int .i64 15))⟩])
      (.ret))
     (.skip)))
   (.seq (.reg [⟨none, some 2, .assign (.const (.int .i64 0))⟩])
    (.ret))))
theorem com57 : com Tryz.prog 14 ((Tryz.f57.body).getD .skip) = g57 := by kernel_rfl
theorem enter57 {args : List Value} {h : Heap} {R : Value → Heap → Prop} (hN : args.length ≤ 14) (q : AWC Tryz.prog 14 g57 (RetQ Tryz.prog [.tmp 2] R) (frOf args) h) : ACall Tryz.prog 57 args h R :=
  C_call Tryz.func57 (by kernel_rfl) com57 (by kernel_rfl) (by kernel_rfl) hN q

/-- ( *bindle/crc.Table).Go -/
noncomputable def g59 : AC :=
 .seq (.reg [⟨none, some 6, .assign (.const (.int .u32 0))⟩])
 (.seq (.seq (.reg [⟨none, some 9, .move (.tmp 0)⟩,
    ⟨none, some 10, .binOp .eql 94 (.tmp 9) (.const (.pointer none)) 94⟩])
   (.cond (.tmp 10) (.seq (.reg [⟨none, some 6, .assign (.const (.int .u32 0))⟩])
     (.ret))
    (.skip)))
  (.seq (.seq (.reg [⟨none, some 11, .move (.tmp 2)⟩,
     ⟨none, some 12, .call { callee := (.builtin .len), args := #[(.tmp 11)], argTypes := #[22] }⟩,
     ⟨none, some 13, .move (.const (.int .i64 0))⟩])
    (.block 0 (.loop (.seq (.reg [⟨none, some 14, .binOp .lss 3 (.tmp 13) (.tmp 12) 3⟩])
       (.seq (.cond (.tmp 14) (.skip)
         (.exit 0))
        (.seq (.block 1 (.seq (.reg [⟨none, some 15, .indexAddr 22 (.tmp 11) (.tmp 13)⟩,
            ⟨none, some 16, .load 5 (.tmp 15)⟩,
            ⟨none, some 8, .assign (.tmp 16)⟩])
           (.reg [⟨none, some 17, .move (.tmp 0)⟩,
            ⟨none, some 18, .move (.tmp 1)⟩,
            ⟨none, some 19, .convert 39 5 (.tmp 18)⟩,
            ⟨none, some 20, .move (.tmp 8)⟩,
            ⟨none, some 21, .binOp .xor 5 (.tmp 19) (.tmp 20) 5⟩,
            ⟨none, some 22, .nilCheck (.tmp 17)⟩,
            ⟨none, some 23, .indexAddr 64 (.tmp 22) (.tmp 21)⟩,
            ⟨none, some 24, .load 39 (.tmp 23)⟩,
            ⟨none, some 25, .move (.tmp 1)⟩,
            ⟨none, some 26, .binOp .shr 39 (.tmp 25) (.const (.int .u64 8)) 179⟩,
            ⟨none, some 27, .binOp .xor 39 (.tmp 24) (.tmp 26) 39⟩,
            ⟨none, some 1, .assign (.tmp 27)⟩])))
         (.reg [⟨none, some 28, .binOp .add 3 (.tmp 13) (.const (.int .i64 1)) 3⟩,
          ⟨none, some 13, .move (.tmp 28)⟩])))))))
   (.seq (.reg [⟨none, some 29, .move (.tmp 1)⟩,
     ⟨none, some 6, .assign (.tmp 29)⟩])
    (.ret))))
theorem com59 : com Tryz.prog 30 ((Tryz.f59.body).getD .skip) = g59 := by kernel_rfl
theorem enter59 {args : List Value} {h : Heap} {R : Value → Heap → Prop} (hN : args.length ≤ 30) (q : AWC Tryz.prog 30 g59 (RetQ Tryz.prog [.tmp 6] R) (frOf args) h) : ACall Tryz.prog 59 args h R :=
  C_call Tryz.func59 (by kernel_rfl) com59 (by kernel_rfl) (by kernel_rfl) hN q

/-- bindle/local.Len -/
noncomputable def g60 : AC :=
 .seq (.reg [⟨none, some 2, .assign (.const (.int .i64 0))⟩])
 (.seq (.reg [⟨none, some 3, .move (.tmp 0)⟩,
   ⟨none, some 4, .call { callee := (.builtin .len), args := #[(.tmp 3)], argTypes := #[9] }⟩,
   ⟨none, some 5, .binOp .add 3 (.const (.int .i64 22)) (.tmp 4) 3⟩,
   ⟨none, some 2, .assign (.tmp 5)⟩])
  (.ret))
theorem com60 : com Tryz.prog 6 ((Tryz.f60.body).getD .skip) = g60 := by kernel_rfl
theorem enter60 {args : List Value} {h : Heap} {R : Value → Heap → Prop} (hN : args.length ≤ 6) (q : AWC Tryz.prog 6 g60 (RetQ Tryz.prog [.tmp 2] R) (frOf args) h) : ACall Tryz.prog 60 args h R :=
  C_call Tryz.func60 (by kernel_rfl) com60 (by kernel_rfl) (by kernel_rfl) hN q

/-- ( *bindle/commit.Store).Grow -/
noncomputable def g62 : AC :=
 .seq (.reg [⟨none, some 4, .assign (.const (.bool false))⟩])
 (.seq (.seq (.reg [⟨none, some 5, .move (.tmp 0)⟩,
    ⟨none, some 6, .binOp .eql 65 (.tmp 5) (.const (.pointer none)) 65⟩,
    ⟨none, some 7, .move (.tmp 6)⟩,
    ⟨some (some 7, false), some 8, .move (.tmp 0)⟩,
    ⟨some (some 7, false), some 9, .nilCheck (.tmp 8)⟩,
    ⟨some (some 7, false), some 10, .fieldAddr 145 (.tmp 9) 6⟩,
    ⟨some (some 7, false), some 11, .load 4 (.tmp 10)⟩,
    ⟨none, some 12, .pick (.tmp 7) (.const (.bool true)) (.tmp 11)⟩,
    ⟨none, some 13, .move (.tmp 12)⟩,
    ⟨some (some 13, false), some 14, .move (.tmp 0)⟩,
    ⟨some (some 13, false), some 15, .nilCheck (.tmp 14)⟩,
    ⟨some (some 13, false), some 16, .fieldAddr 145 (.tmp 15) 5⟩,
    ⟨some (some 13, false), some 17, .fieldAddr 141 (.tmp 16) 3⟩,
    ⟨some (some 13, false), some 18, .load 4 (.tmp 17)⟩,
    ⟨none, some 19, .pick (.tmp 13) (.const (.bool true)) (.tmp 18)⟩,
    ⟨none, some 20, .move (.tmp 19)⟩,
    ⟨some (some 20, false), some 21, .move (.tmp 1)⟩,
    ⟨some (some 20, false), some 22, .binOp .lss 3 (.tmp 21) (.const (.int .i64 0)) 3⟩,
    ⟨none, some 23, .pick (.tmp 20) (.const (.bool true)) (.tmp 22)⟩,
    ⟨none, some 24, .move (.tmp 23)⟩,
    ⟨some (some 24, false), some 25, .move (.tmp 1)⟩,
    ⟨some (some 24, false), some 26, .move (.tmp 0)⟩,
    ⟨some (some 24, false), some 27, .nilCheck (.tmp 26)⟩,
    ⟨some (some 24, false), some 28, .fieldAddr 145 (.tmp 27) 4⟩,
    ⟨some (some 24, false), some 29, .load 3 (.tmp 28)⟩,
    ⟨some (some 24, false), some 30, .binOp .sub 3 (.const (.int .i64 2097152)) (.tmp 29) 3⟩,
    ⟨some (some 24, false), some 31, .binOp .gtr 3 (.tmp 25) (.tmp 30) 3⟩,
    ⟨none, some 32, .pick (.tmp 24) (.const (.bool true)) (.tmp 31)⟩])
   (.cond (.tmp 32) (.seq (.reg [⟨none, some 4, .assign (.const (.bool false))⟩])
     (.ret))
    (.skip)))
  (.seq (.reg [⟨none, some 33, .move (.tmp 0)⟩,
    ⟨none, some 34, .nilCheck (.tmp 33)⟩,
    ⟨none, some 35, .fieldAddr 145 (.tmp 34) 4⟩,
    ⟨none, some 36, .load 3 (.tmp 35)⟩,
    ⟨none, some 37, .move (.tmp 1)⟩,
    ⟨none, some 38, .binOp .add 3 (.tmp 36) (.tmp 37) 3⟩,
    ⟨none, some 39, .nilCheck (.tmp 33)⟩,
    ⟨none, some 40, .fieldAddr 145 (.tmp 39) 4⟩,
    ⟨none, none, .store 3 (.tmp 40) (.tmp 38)⟩])
   (.seq (.reg [⟨none, some 4, .assign (.const (.bool true))⟩])
    (.ret))))
theorem com62 : com Tryz.prog 41 ((Tryz.f62.body).getD .skip) = g62 := by kernel_rfl
theorem enter62 {args : List Value} {h : Heap} {R : Value → Heap → Prop} (hN : args.length ≤ 41) (q : AWC Tryz.prog 41 g62 (RetQ Tryz.prog [.tmp 4] R) (frOf args) h) : ACall Tryz.prog 62 args h R :=
  C_call Tryz.func62 (by kernel_rfl) com62 (by kernel_rfl) (by kernel_rfl) hN q

/-- ( *bindle/index.Index).Bytes -/
noncomputable def g64 : AC :=
 .seq (.reg [⟨none, some 2, .assign (.const (.int .i64 0))⟩])
 (.seq (.seq (.reg [⟨none, some 3, .move (.tmp 0)⟩,
    ⟨none, some 4, .binOp .eql 66 (.tmp 3) (.const (.pointer none)) 66⟩])
   (.cond (.tmp 4) (.seq (.reg [⟨none, some 2, .assign (.const (.int .i64 0))⟩])
     (.ret))
    (.skip)))
  (.seq (.reg [⟨none, some 5, .move (.tmp 0)⟩,
    ⟨none, some 6, .nilCheck (.tmp 5)⟩,
    ⟨none, some 7, .fieldAddr 133 (.tmp 6) 0⟩,
    ⟨none, some 8, .load 91 (.tmp 7)⟩,
    ⟨none, some 9, .call { callee := (.value (.func 107)), args := #[(.tmp 8)], argTypes := #[91] }⟩,
    ⟨none, some 10, .binOp .add 3 (.tmp 9) (.const (.int .i64 20)) 3⟩,
    ⟨none, some 2, .assign (.tmp 10)⟩])
   (.ret)))
theorem com64 : com Tryz.prog 11 ((Tryz.f64.body).getD .skip) = g64 := by kernel_rfl
theorem enter64 {args : List Value} {h : Heap} {R : Value → Heap → Prop} (hN : args.length ≤ 11) (q : AWC Tryz.prog 11 g64 (RetQ Tryz.prog [.tmp 2] R) (frOf args) h) : ACall Tryz.prog 64 args h R :=
  C_call Tryz.func64 (by kernel_rfl) com64 (by kernel_rfl) (by kernel_rfl) hN q

/-- ( *bindle/crc.Table).Sum -/
noncomputable def g68 : AC :=
 .seq (.reg [⟨none, some 4, .assign (.const (.int .u32 0))⟩])
 (.seq (.seq (.reg [⟨none, some 5, .move (.tmp 0)⟩,
    ⟨none, some 6, .binOp .eql 94 (.tmp 5) (.const (.pointer none)) 94⟩])
   (.cond (.tmp 6) (.seq (.reg [⟨none, some 4, .assign (.const (.int .u32 0))⟩])
     (.ret))
    (.skip)))
  (.seq (.reg [⟨none, some 7, .move (.tmp 0)⟩,
    ⟨none, some 8, .move (.tmp 1)⟩,
    ⟨none, some 9, .call { callee := (.value (.func 59)), args := #[(.tmp 7), (.const (.int .u32 4294967295)), (.tmp 8)], argTypes := #[94, 39, 22] }⟩,
    ⟨none, some 10, .binOp .xor 39 (.tmp 9) (.const (.int .u32 4294967295)) 39⟩,
    ⟨none, some 4, .assign (.tmp 10)⟩])
   (.ret)))
theorem com68 : com Tryz.prog 11 ((Tryz.f68.body).getD .skip) = g68 := by kernel_rfl
theorem enter68 {args : List Value} {h : Heap} {R : Value → Heap → Prop} (hN : args.length ≤ 11) (q : AWC Tryz.prog 11 g68 (RetQ Tryz.prog [.tmp 4] R) (frOf args) h) : ACall Tryz.prog 68 args h R :=
  C_call Tryz.func68 (by kernel_rfl) com68 (by kernel_rfl) (by kernel_rfl) hN q

/-- ( *bindle/index.Index).find -/
noncomputable def g70 : AC :=
 .seq (.reg [⟨none, some 4, .assign (.const (.int .i64 0))⟩,
  ⟨none, some 5, .assign (.const (.bool false))⟩])
 (.seq (.reg [⟨none, some 6, .move (.tmp 0)⟩,
   ⟨none, some 7, .nilCheck (.tmp 6)⟩,
   ⟨none, some 8, .fieldAddr 133 (.tmp 7) 0⟩,
   ⟨none, some 9, .load 91 (.tmp 8)⟩,
   ⟨none, some 10, .move (.tmp 1)⟩,
   ⟨none, some 11, .call { callee := (.value (.func 113)), args := #[(.tmp 9), (.tmp 10), (.func 114)], argTypes := #[91, 9, 188] }⟩,
   ⟨none, some 12, .extract (.tmp 11) 0⟩,
   ⟨none, some 13, .extract (.tmp 11) 1⟩,
   ⟨none, some 4, .assign (.tmp 12)⟩,
   ⟨none, some 5, .assign (.tmp 13)⟩])
  (.ret))
theorem com70 : com Tryz.prog 14 ((Tryz.f70.body).getD .skip) = g70 := by kernel_rfl
theorem enter70 {args : List Value} {h : Heap} {R : Value → Heap → Prop} (hN : args.length ≤ 14) (q : AWC Tryz.prog 14 g70 (RetQ Tryz.prog [.tmp 4, .tmp 5] R) (frOf args) h) : ACall Tryz.prog 70 args h R :=
  C_call Tryz.func70 (by kernel_rfl) com70 (by kernel_rfl) (by kernel_rfl) hN q

/-- ( *bindle/archive.Archive).List$1 -/
noncomputable def g71 : AC :=
 .skip
theorem com71 : com Tryz.prog 2 ((Tryz.f71.body).getD .skip) = g71 := by kernel_rfl
theorem enter71 {args : List Value} {h : Heap} {R : Value → Heap → Prop} (hN : args.length ≤ 2) (q : AWC Tryz.prog 2 g71 (RetQ Tryz.prog [] R) (frOf args) h) : ACall Tryz.prog 71 args h R :=
  C_call Tryz.func71 (by kernel_rfl) com71 (by kernel_rfl) (by kernel_rfl) hN q

/-- ( *bindle/index.Index).Each -/
noncomputable def g72 : AC :=
 .seq (.reg [⟨none, some 3, .box 9 (.tmp 1)⟩,
  ⟨none, some 4, .assign (.const .nilFunc)⟩])
 (.seq (.reg [⟨none, some 6, .move (.tmp 0)⟩,
   ⟨none, some 7, .call { callee := (.value (.func 47)), args := #[(.tmp 6)], argTypes := #[66] }⟩,
   ⟨none, some 5, .alloc 91⟩,
   ⟨none, none, .store 91 (.tmp 5) (.tmp 7)⟩])
  (.seq (.reg [⟨none, some 8, .makeFunc (.func 116) #[] #[(.tmp 5), (.tmp 3)]⟩,
    ⟨none, some 4, .assign (.tmp 8)⟩])
   (.ret)))
theorem com72 : com Tryz.prog 9 ((Tryz.f72.body).getD .skip) = g72 := by kernel_rfl
theorem enter72 {args : List Value} {h : Heap} {R : Value → Heap → Prop} (hN : args.length ≤ 9) (q : AWC Tryz.prog 9 g72 (RetQ Tryz.prog [.tmp 4] R) (frOf args) h) : ACall Tryz.prog 72 args h R :=
  C_call Tryz.func72 (by kernel_rfl) com72 (by kernel_rfl) (by kernel_rfl) hN q

/-- bindle/crc.turn -/
noncomputable def g73 : AC :=
 .seq (.reg [⟨none, some 2, .assign (.const (.int .u32 0))⟩])
 (.seq (.seq (.reg [⟨none, some 3, .move (.tmp 0)⟩,
    ⟨none, some 4, .binOp .and 39 (.tmp 3) (.const (.int .u32 1)) 39⟩,
    ⟨none, some 5, .binOp .eql 39 (.tmp 4) (.const (.int .u32 1)) 39⟩])
   (.cond (.tmp 5) (.seq (.reg [⟨none, some 6, .move (.tmp 0)⟩,
      ⟨none, some 7, .binOp .shr 39 (.tmp 6) (.const (.int .u64 1)) 179⟩,
      ⟨none, some 8, .binOp .xor 39 (.tmp 7) (.const (.int .u32 3988292384)) 39⟩,
      ⟨none, some 2, .assign (.tmp 8)⟩])
     (.ret))
    (.skip)))
  (.seq (.reg [⟨none, some 9, .move (.tmp 0)⟩,
    ⟨none, some 10, .binOp .shr 39 (.tmp 9) (.const (.int .u64 1)) 179⟩,
    ⟨none, some 2, .assign (.tmp 10)⟩])
   (.ret)))
theorem com73 : com Tryz.prog 11 ((Tryz.f73.body).getD .skip) = g73 := by kernel_rfl
theorem enter73 {args : List Value} {h : Heap} {R : Value → Heap → Prop} (hN : args.length ≤ 11) (q : AWC Tryz.prog 11 g73 (RetQ Tryz.prog [.tmp 2] R) (frOf args) h) : ACall Tryz.prog 73 args h R :=
  C_call Tryz.func73 (by kernel_rfl) com73 (by kernel_rfl) (by kernel_rfl) hN q

/-- ( *bindle/crashfs.FS).Open -/
noncomputable def g74 : AC :=
 .seq (.reg [⟨none, some 4, .assign (.const (.int .i64 0))⟩,
  ⟨none, some 5, .assign (.const (.int .i64 0))⟩])
 (.seq (.seq (.reg [⟨none, some 8, .move (.tmp 0)⟩,
    ⟨none, some 9, .binOp .eql 29 (.tmp 8) (.const (.pointer none)) 29⟩])
   (.cond (.tmp 9) (.seq (.reg [⟨none, some 4, .assign (.const (.int .i64 0))⟩,
      ⟨none, some 5, .assign (.const (.int .i64 1))⟩])
     (.ret))
    (.skip)))
  (.seq (.reg [⟨none, some 11, .move (.tmp 0)⟩,
    ⟨none, some 12, .nilCheck (.tmp 11)⟩,
    ⟨none, some 13, .fieldAddr 77 (.tmp 12) 1⟩,
    ⟨none, some 14, .move (.tmp 1)⟩,
    ⟨none, some 15, .call { callee := (.value (.func 118)), args := #[(.tmp 13), (.tmp 14)], argTypes := #[74, 9] }⟩,
    ⟨none, some 10, .move (.tmp 15)⟩,
    ⟨none, some 16, .extract (.tmp 10) 0⟩,
    ⟨none, some 17, .extract (.tmp 10) 1⟩,
    ⟨none, some 6, .assign (.tmp 16)⟩,
    ⟨none, some 7, .assign (.tmp 17)⟩])
   (.seq (.seq (.reg [⟨none, some 18, .move (.tmp 7)⟩,
      ⟨none, some 19, .unOp .not 4 (.tmp 18)⟩])
     (.cond (.tmp 19) (.seq (.reg [⟨none, some 4, .assign (.const (.int .i64 0))⟩,
        ⟨none, some 5, .assign (.const (.int .i64 7))⟩])
       (.ret))
      (.skip)))
    (.seq (.reg [⟨none, some 20, .move (.tmp 6)⟩,
      ⟨none, some 4, .assign (.tmp 20)⟩,
      ⟨none, some 5, .assign (.const (.int .i64 0))⟩])
     (.ret)))))
theorem com74 : com Tryz.prog 21 ((Tryz.f74.body).getD .skip) = g74 := by kernel_rfl
theorem enter74 {args : List Value} {h : Heap} {R : Value → Heap → Prop} (hN : args.length ≤ 21) (q : AWC Tryz.prog 21 g74 (RetQ Tryz.prog [.tmp 4, .tmp 5] R) (frOf args) h) : ACall Tryz.prog 74 args h R :=
  C_call Tryz.func74 (by kernel_rfl) com74 (by kernel_rfl) (by kernel_rfl) hN q

/-- ( *bindle/crashfs.FS).Sync -/
noncomputable def g75 : AC :=
 .seq (.reg [⟨none, some 4, .assign (.const (.int .i64 0))⟩])
 (.seq (.seq (.reg [⟨none, some 7, .move (.tmp 0)⟩,
    ⟨none, some 8, .call { callee := (.value (.func 119)), args := #[(.tmp 7)], argTypes := #[29] }⟩,
    ⟨none, some 5, .assign (.tmp 8)⟩])
   (.seq (.reg [⟨none, some 9, .move (.tmp 5)⟩,
     ⟨none, some 10, .binOp .neq 32 (.tmp 9) (.const (.int .i64 0)) 32⟩])
    (.cond (.tmp 10) (.seq (.reg [⟨none, some 11, .move (.tmp 5)⟩,
       ⟨none, some 4, .assign (.tmp 11)⟩])
      (.ret))
     (.skip))))
  (.seq (.reg [⟨none, some 12, .move (.tmp 0)⟩,
    ⟨none, some 13, .move (.tmp 1)⟩,
    ⟨none, some 14, .call { callee := (.value (.func 120)), args := #[(.tmp 12), (.tmp 13)], argTypes := #[29, 3] }⟩,
    ⟨none, some 6, .assign (.tmp 14)⟩])
   (.seq (.seq (.reg [⟨none, some 15, .move (.tmp 6)⟩,
      ⟨none, some 16, .binOp .eql 190 (.tmp 15) (.const (.pointer none)) 190⟩])
     (.cond (.tmp 16) (.seq (.reg [⟨none, some 4, .assign (.const (.int .i64 1))⟩])
       (.ret))
      (.skip)))
    (.seq (.reg [⟨none, some 17, .move (.tmp 6)⟩,
      ⟨none, some 18, .call { callee := (.value (.func 121)), args := #[(.tmp 17)], argTypes := #[190] }⟩])
     (.seq (.reg [⟨none, some 4, .assign (.const (.int .i64 0))⟩])
      (.ret))))))
theorem com75 : com Tryz.prog 19 ((Tryz.f75.body).getD .skip) = g75 := by kernel_rfl
theorem enter75 {args : List Value} {h : Heap} {R : Value → Heap → Prop} (hN : args.length ≤ 19) (q : AWC Tryz.prog 19 g75 (RetQ Tryz.prog [.tmp 4] R) (frOf args) h) : ACall Tryz.prog 75 args h R :=
  C_call Tryz.func75 (by kernel_rfl) com75 (by kernel_rfl) (by kernel_rfl) hN q

/-- ( *bindle/crashfs.FS).SyncDir -/
noncomputable def g76 : AC :=
 .seq (.reg [⟨none, some 2, .assign (.const (.int .i64 0))⟩])
 (.seq (.reg [⟨none, some 4, .move (.tmp 0)⟩,
   ⟨none, some 5, .call { callee := (.value (.func 119)), args := #[(.tmp 4)], argTypes := #[29] }⟩,
   ⟨none, some 3, .assign (.tmp 5)⟩])
  (.seq (.seq (.reg [⟨none, some 6, .move (.tmp 3)⟩,
     ⟨none, some 7, .binOp .eql 32 (.tmp 6) (.const (.int .i64 0)) 32⟩])
    (.cond (.tmp 7) (.reg [⟨none, some 8, .move (.tmp 0)⟩,
      ⟨none, some 9, .nilCheck (.tmp 8)⟩,
      ⟨none, some 10, .fieldAddr 77 (.tmp 9) 1⟩,
      ⟨none, some 11, .call { callee := (.value (.func 122)), args := #[(.tmp 10)], argTypes := #[74] }⟩])
     (.skip)))
   (.seq (.reg [⟨none, some 12, .move (.tmp 3)⟩,
     ⟨none, some 2, .assign (.tmp 12)⟩])
    (.ret))))
theorem com76 : com Tryz.prog 13 ((Tryz.f76.body).getD .skip) = g76 := by kernel_rfl
theorem enter76 {args : List Value} {h : Heap} {R : Value → Heap → Prop} (hN : args.length ≤ 13) (q : AWC Tryz.prog 13 g76 (RetQ Tryz.prog [.tmp 2] R) (frOf args) h) : ACall Tryz.prog 76 args h R :=
  C_call Tryz.func76 (by kernel_rfl) com76 (by kernel_rfl) (by kernel_rfl) hN q

/-- ( *bindle/crashfs.FS).Read -/
noncomputable def g77 : AC :=
 .seq (.reg [⟨none, some 8, .assign (.const (.slice none 0 0))⟩,
  ⟨none, some 9, .assign (.const (.int .i64 0))⟩])
 (.seq (.reg [⟨none, some 10, .move (.tmp 0)⟩,
   ⟨none, some 11, .move (.tmp 1)⟩,
   ⟨none, some 12, .call { callee := (.value (.func 120)), args := #[(.tmp 10), (.tmp 11)], argTypes := #[29, 3] }⟩,
   ⟨none, some 13, .move (.tmp 2)⟩,
   ⟨none, some 14, .move (.tmp 3)⟩,
   ⟨none, some 15, .call { callee := (.value (.func 123)), args := #[(.tmp 12), (.tmp 13), (.tmp 14)], argTypes := #[190, 3, 3] }⟩,
   ⟨none, some 16, .extract (.tmp 15) 0⟩,
   ⟨none, some 17, .extract (.tmp 15) 1⟩,
   ⟨none, some 8, .assign (.tmp 16)⟩,
   ⟨none, some 9, .assign (.tmp 17)⟩])
  (.ret))
theorem com77 : com Tryz.prog 18 ((Tryz.f77.body).getD .skip) = g77 := by kernel_rfl
theorem enter77 {args : List Value} {h : Heap} {R : Value → Heap → Prop} (hN : args.length ≤ 18) (q : AWC Tryz.prog 18 g77 (RetQ Tryz.prog [.tmp 8, .tmp 9] R) (frOf args) h) : ACall Tryz.prog 77 args h R :=
  C_call Tryz.func77 (by kernel_rfl) com77 (by kernel_rfl) (by kernel_rfl) hN q

/-- ( *bindle/crashfs.FS).Size -/
noncomputable def g78 : AC :=
 .seq (.reg [⟨none, some 4, .assign (.const (.int .i64 0))⟩])
 (.seq (.reg [⟨none, some 5, .move (.tmp 0)⟩,
   ⟨none, some 6, .move (.tmp 1)⟩,
   ⟨none, some 7, .call { callee := (.value (.func 120)), args := #[(.tmp 5), (.tmp 6)], argTypes := #[29, 3] }⟩,
   ⟨none, some 8, .call { callee := (.value (.func 124)), args := #[(.tmp 7)], argTypes := #[190] }⟩,
   ⟨none, some 4, .assign (.tmp 8)⟩])
  (.ret))
theorem com78 : com Tryz.prog 9 ((Tryz.f78.body).getD .skip) = g78 := by kernel_rfl
theorem enter78 {args : List Value} {h : Heap} {R : Value → Heap → Prop} (hN : args.length ≤ 9) (q : AWC Tryz.prog 9 g78 (RetQ Tryz.prog [.tmp 4] R) (frOf args) h) : ACall Tryz.prog 78 args h R :=
  C_call Tryz.func78 (by kernel_rfl) com78 (by kernel_rfl) (by kernel_rfl) hN q

/-- bindle/commit.Load -/
noncomputable def g79 : AC :=
 .seq (.reg [⟨none, some 4, .alloc 141⟩,
  ⟨none, some 5, .assign (.const (.slice none 0 0))⟩,
  ⟨none, some 6, .assign (.const (.int .i64 0))⟩])
 (.seq (.reg [⟨none, some 8, .move (.tmp 0)⟩,
   ⟨none, some 9, .move (.tmp 1)⟩,
   ⟨none, some 10, .call { callee := (.value (.func 125)), args := #[(.tmp 8), (.tmp 9)], argTypes := #[94, 22] }⟩,
   ⟨none, some 7, .move (.tmp 10)⟩,
   ⟨none, some 11, .extract (.tmp 7) 0⟩,
   ⟨none, some 12, .extract (.tmp 7) 1⟩,
   ⟨none, none, .store 141 (.tmp 4) (.tmp 11)⟩,
   ⟨none, some 6, .assign (.tmp 12)⟩])
  (.seq (.block 0 (.seq (.reg [⟨none, some 14, .move (.tmp 6)⟩,
      ⟨none, some 15, .binOp .neq 32 (.tmp 14) (.const (.int .i64 0)) 32⟩,
      ⟨none, some 13, .assign (.tmp 15)⟩])
     (.cond (.tmp 13) (.seq (.reg [⟨none, some 16, .build 141 #[]⟩,
        ⟨none, some 17, .move (.tmp 6)⟩,
        ⟨none, none, .store 141 (.tmp 4) (.tmp 16)⟩,
        ⟨none, some 5, .assign (.const (.slice none 0 0))⟩,
        ⟨none, some 6, .assign (.tmp 17)⟩])
       (.ret))
      (.seq (.reg [⟨none, some 19, .fieldAddr 141 (.tmp 4) 1⟩,
        ⟨none, some 20, .load 3 (.tmp 19)⟩,
        ⟨none, some 21, .move (.tmp 1)⟩,
        ⟨none, some 22, .call { callee := (.builtin .len), args := #[(.tmp 21)], argTypes := #[22] }⟩,
        ⟨none, some 23, .binOp .gtr 3 (.tmp 20) (.tmp 22) 3⟩,
        ⟨none, some 24, .move (.tmp 23)⟩,
        ⟨some (some 24, false), some 25, .fieldAddr 141 (.tmp 4) 2⟩,
        ⟨some (some 24, false), some 26, .load 3 (.tmp 25)⟩,
        ⟨some (some 24, false), some 27, .move (.tmp 1)⟩,
        ⟨some (some 24, false), some 28, .call { callee := (.builtin .len), args := #[(.tmp 27)], argTypes := #[22] }⟩,
        ⟨some (some 24, false), some 29, .fieldAddr 141 (.tmp 4) 1⟩,
        ⟨some (some 24, false), some 30, .load 3 (.tmp 29)⟩,
        ⟨some (some 24, false), some 31, .binOp .sub 3 (.tmp 28) (.tmp 30) 3⟩,
        ⟨some (some 24, false), some 32, .binOp .gtr 3 (.tmp 26) (.tmp 31) 3⟩,
        ⟨none, some 33, .pick (.tmp 24) (.const (.bool true)) (.tmp 32)⟩,
        ⟨none, some 18, .assign (.tmp 33)⟩])
       (.cond (.tmp 18) (.seq (.reg [⟨none, some 34, .build 141 #[]⟩,
          ⟨none, none, .store 141 (.tmp 4) (.tmp 34)⟩,
          ⟨none, some 5, .assign (.const (.slice none 0 0))⟩,
          ⟨none, some 6, .assign (.const (.int .i64 2))⟩])
         (.ret))
        (.skip))))))
   (.seq (.seq (.reg [⟨none, some 36, .move (.tmp 0)⟩,
      ⟨none, some 37, .move (.tmp 1)⟩,
      ⟨none, some 38, .load 141 (.tmp 4)⟩,
      ⟨none, some 39, .call { callee := (.value (.func 126)), args := #[(.tmp 36), (.tmp 37), (.tmp 38)], argTypes := #[94, 22, 141] }⟩,
      ⟨none, some 35, .move (.tmp 39)⟩,
      ⟨none, some 40, .extract (.tmp 35) 0⟩,
      ⟨none, some 41, .extract (.tmp 35) 1⟩,
      ⟨none, some 5, .assign (.tmp 40)⟩,
      ⟨none, some 6, .assign (.tmp 41)⟩])
     (.seq (.reg [⟨none, some 42, .move (.tmp 6)⟩,
       ⟨none, some 43, .binOp .neq 32 (.tmp 42) (.const (.int .i64 0)) 32⟩])
      (.cond (.tmp 43) (.seq (.reg [⟨none, some 44, .build 141 #[]⟩,
         ⟨none, some 45, .move (.tmp 6)⟩,
         ⟨none, none, .store 141 (.tmp 4) (.tmp 44)⟩,
         ⟨none, some 5, .assign (.const (.slice none 0 0))⟩,
         ⟨none, some 6, .assign (.tmp 45)⟩])
        (.ret))
       (.skip))))
    (.seq (.reg [⟨none, some 46, .load 141 (.tmp 4)⟩,
      ⟨none, some 47, .move (.tmp 5)⟩,
      ⟨none, none, .store 141 (.tmp 4) (.tmp 46)⟩,
      ⟨none, some 5, .assign (.tmp 47)⟩,
      ⟨none, some 6, .assign (.const (.int .i64 0))⟩])
     (.ret)))))
theorem com79 : com Tryz.prog 48 ((Tryz.f79.body).getD .skip) = g79 := by kernel_rfl
theorem enter79 {args : List Value} {h : Heap} {R : Value → Heap → Prop} (hN : args.length ≤ 48) (q : AWC Tryz.prog 48 g79 (RetQ Tryz.prog [.cell 4 141, .tmp 5, .tmp 6] R) (frOf args) h) : ACall Tryz.prog 79 args h R :=
  C_call Tryz.func79 (by kernel_rfl) com79 (by kernel_rfl) (by kernel_rfl) hN q

/-- bindle/entry.All -/
noncomputable def g80 : AC :=
 .seq (.reg [⟨none, some 2, .assign (.const (.bool false))⟩])
 (.seq (.seq (.reg [⟨none, some 5, .move (.tmp 0)⟩,
    ⟨none, some 6, .call { callee := (.builtin .len), args := #[(.tmp 5)], argTypes := #[91] }⟩,
    ⟨none, some 7, .binOp .gtr 3 (.tmp 6) (.const (.int .i64 200)) 3⟩])
   (.cond (.tmp 7) (.seq (.reg [⟨none, some 2, .assign (.const (.bool false))⟩])
     (.ret))
    (.skip)))
  (.seq (.seq (.reg [⟨none, some 8, .move (.tmp 0)⟩,
     ⟨none, some 9, .call { callee := (.builtin .len), args := #[(.tmp 8)], argTypes := #[91] }⟩,
     ⟨none, some 10, .move (.const (.int .i64 0))⟩])
    (.block 0 (.loop (.seq (.reg [⟨none, some 11, .binOp .lss 3 (.tmp 10) (.tmp 9) 3⟩])
       (.seq (.cond (.tmp 11) (.skip)
         (.exit 0))
        (.seq (.block 1 (.seq (.reg [⟨none, some 12, .move (.tmp 10)⟩,
            ⟨none, some 13, .indexAddr 91 (.tmp 8) (.tmp 10)⟩,
            ⟨none, some 14, .load 41 (.tmp 13)⟩,
            ⟨none, some 4, .alloc 41⟩,
            ⟨none, some 3, .assign (.tmp 12)⟩,
            ⟨none, none, .store 41 (.tmp 4) (.tmp 14)⟩])
           (.seq (.reg [⟨none, some 15, .load 41 (.tmp 4)⟩,
             ⟨none, some 16, .call { callee := (.value (.func 95)), args := #[(.tmp 15)], argTypes := #[41] }⟩,
             ⟨none, some 17, .unOp .not 4 (.tmp 16)⟩,
             ⟨none, some 18, .move (.tmp 17)⟩,
             ⟨some (some 18, false), some 19, .move (.tmp 3)⟩,
             ⟨some (some 18, false), some 20, .binOp .gtr 3 (.tmp 19) (.const (.int .i64 0)) 3⟩,
             ⟨some (some 18, false), some 21, .move (.tmp 20)⟩,
             ⟨some (some 21, true), some 22, .move (.tmp 0)⟩,
             ⟨some (some 21, true), some 23, .move (.tmp 3)⟩,
             ⟨some (some 21, true), some 24, .binOp .sub 3 (.tmp 23) (.const (.int .i64 1)) 3⟩,
             ⟨some (some 21, true), some 25, .indexAddr 91 (.tmp 22) (.tmp 24)⟩,
             ⟨some (some 21, true), some 26, .fieldAddr 41 (.tmp 25) 0⟩,
             ⟨some (some 21, true), some 27, .load 9 (.tmp 26)⟩,
             ⟨some (some 21, true), some 28, .fieldAddr 41 (.tmp 4) 0⟩,
             ⟨some (some 21, true), some 29, .load 9 (.tmp 28)⟩,
             ⟨some (some 21, true), some 30, .binOp .geq 9 (.tmp 27) (.tmp 29) 9⟩,
             ⟨some (some 18, false), some 31, .pick (.tmp 21) (.tmp 30) (.const (.bool false))⟩,
             ⟨none, some 32, .pick (.tmp 18) (.const (.bool true)) (.tmp 31)⟩])
            (.cond (.tmp 32) (.seq (.reg [⟨none, some 2, .assign (.const (.bool false))⟩])
              (.ret))
             (.skip)))))
         (.reg [⟨none, some 33, .binOp .add 3 (.tmp 10) (.const (.int .i64 1)) 3⟩,
          ⟨none, some 10, .move (.tmp 33)⟩])))))))
   (.seq (.reg [⟨none, some 2, .assign (.const (.bool true))⟩])
    (.ret))))
theorem com80 : com Tryz.prog 34 ((Tryz.f80.body).getD .skip) = g80 := by kernel_rfl
theorem enter80 {args : List Value} {h : Heap} {R : Value → Heap → Prop} (hN : args.length ≤ 34) (q : AWC Tryz.prog 34 g80 (RetQ Tryz.prog [.tmp 2] R) (frOf args) h) : ACall Tryz.prog 80 args h R :=
  C_call Tryz.func80 (by kernel_rfl) com80 (by kernel_rfl) (by kernel_rfl) hN q

/-- slices.Clone[[]bindle/api.Member,bindle/api.Member] -/
noncomputable def g81 : AC :=
 .seq (.reg [⟨none, some 2, .assign (.const (.slice none 0 0))⟩])
 (.seq (.seq (.reg [⟨none, some 3, .move (.tmp 0)⟩,
    ⟨none, some 4, .binOp .eql 91 (.tmp 3) (.const (.slice none 0 0)) 91⟩])
   (.cond (.tmp 4) (.seq (.reg [⟨none, some 2, .assign (.const (.slice none 0 0))⟩])
     (.ret))
    (.skip)))
  (.seq (.reg [⟨none, some 5, .buildSlice 91 0 #[]⟩,
    ⟨none, some 6, .move (.tmp 0)⟩,
    ⟨none, some 7, .call { callee := (.builtin .append), args := #[(.tmp 5), (.tmp 6)], argTypes := #[91, 91] }⟩,
    ⟨none, some 2, .assign (.tmp 7)⟩])
   (.ret)))
theorem com81 : com Tryz.prog 8 ((Tryz.f81.body).getD .skip) = g81 := by kernel_rfl
theorem enter81 {args : List Value} {h : Heap} {R : Value → Heap → Prop} (hN : args.length ≤ 8) (q : AWC Tryz.prog 8 g81 (RetQ Tryz.prog [.tmp 2] R) (frOf args) h) : ACall Tryz.prog 81 args h R :=
  C_call Tryz.func81 (by kernel_rfl) com81 (by kernel_rfl) (by kernel_rfl) hN q

/-- bindle/commit.Image -/
noncomputable def g82 : AC :=
 .seq (.reg [⟨none, some 6, .assign (.const (.slice none 0 0))⟩,
  ⟨none, some 7, .assign (.const (.int .i64 0))⟩])
 (.seq (.reg [⟨none, some 15, .move (.tmp 0)⟩,
   ⟨none, some 16, .move (.tmp 2)⟩,
   ⟨none, some 17, .call { callee := (.value (.func 88)), args := #[(.tmp 15), (.tmp 16)], argTypes := #[94, 91] }⟩,
   ⟨none, some 14, .move (.tmp 17)⟩,
   ⟨none, some 18, .extract (.tmp 14) 0⟩,
   ⟨none, some 19, .extract (.tmp 14) 1⟩,
   ⟨none, some 8, .assign (.tmp 18)⟩,
   ⟨none, some 9, .assign (.tmp 19)⟩])
  (.seq (.block 0 (.seq (.reg [⟨none, some 21, .move (.tmp 9)⟩,
      ⟨none, some 22, .binOp .neq 32 (.tmp 21) (.const (.int .i64 0)) 32⟩,
      ⟨none, some 20, .assign (.tmp 22)⟩])
     (.cond (.tmp 20) (.seq (.reg [⟨none, some 6, .assign (.const (.slice none 0 0))⟩,
        ⟨none, some 7, .assign (.const (.int .i64 1))⟩])
       (.ret))
      (.seq (.reg [⟨none, some 24, .move (.tmp 1)⟩,
        ⟨none, some 25, .call { callee := (.builtin .len), args := #[(.tmp 24)], argTypes := #[22] }⟩,
        ⟨none, some 26, .move (.tmp 8)⟩,
        ⟨none, some 27, .call { callee := (.builtin .len), args := #[(.tmp 26)], argTypes := #[22] }⟩,
        ⟨none, some 28, .call { callee := (.value (.func 90)), args := #[(.const (.int .i64 1024)), (.tmp 25), (.tmp 27)], argTypes := #[3, 3, 3] }⟩,
        ⟨none, some 29, .unOp .not 4 (.tmp 28)⟩,
        ⟨none, some 23, .assign (.tmp 29)⟩])
       (.cond (.tmp 23) (.seq (.reg [⟨none, some 6, .assign (.const (.slice none 0 0))⟩,
          ⟨none, some 7, .assign (.const (.int .i64 14))⟩])
         (.ret))
        (.skip))))))
   (.seq (.reg [⟨none, some 10, .assign (.const (.slice none 0 0))⟩])
    (.seq (.seq (.reg [⟨none, some 30, .move (.const (.int .i64 0))⟩])
      (.block 1 (.loop (.seq (.reg [⟨none, some 31, .binOp .lss 3 (.tmp 30) (.const (.int .i64 2)) 3⟩])
         (.seq (.cond (.tmp 31) (.skip)
           (.exit 1))
          (.seq (.block 2 (.seq (.reg [⟨none, some 32, .move (.tmp 30)⟩,
              ⟨none, some 11, .assign (.tmp 32)⟩])
             (.seq (.reg [⟨none, some 34, .move (.tmp 0)⟩,
               ⟨none, some 35, .move (.tmp 11)⟩,
               ⟨none, some 36, .move (.tmp 1)⟩,
               ⟨none, some 37, .call { callee := (.builtin .len), args := #[(.tmp 36)], argTypes := #[22] }⟩,
               ⟨none, some 38, .move (.tmp 8)⟩,
               ⟨none, some 39, .call { callee := (.builtin .len), args := #[(.tmp 38)], argTypes := #[22] }⟩,
               ⟨none, some 40, .call { callee := (.value (.func 109)), args := #[(.tmp 35), (.tmp 37), (.tmp 39)], argTypes := #[3, 3, 3] }⟩,
               ⟨none, some 41, .call { callee := (.value (.func 127)), args := #[(.tmp 34), (.tmp 40)], argTypes := #[94, 141] }⟩,
               ⟨none, some 33, .move (.tmp 41)⟩,
               ⟨none, some 42, .extract (.tmp 33) 0⟩,
               ⟨none, some 43, .extract (.tmp 33) 1⟩,
               ⟨none, some 12, .assign (.tmp 42)⟩,
               ⟨none, some 13, .assign (.tmp 43)⟩])
              (.reg [⟨none, some 44, .move (.tmp 10)⟩,
               ⟨none, some 45, .move (.tmp 12)⟩,
               ⟨none, some 46, .call { callee := (.builtin .append), args := #[(.tmp 44), (.tmp 45)], argTypes := #[22, 22] }⟩,
               ⟨none, some 10, .assign (.tmp 46)⟩]))))
           (.reg [⟨none, some 47, .binOp .add 3 (.tmp 30) (.const (.int .i64 1)) 3⟩,
            ⟨none, some 30, .move (.tmp 47)⟩])))))))
     (.seq (.reg [⟨none, some 48, .move (.tmp 10)⟩,
       ⟨none, some 49, .move (.tmp 1)⟩,
       ⟨none, some 50, .call { callee := (.builtin .append), args := #[(.tmp 48), (.tmp 49)], argTypes := #[22, 22] }⟩,
       ⟨none, some 51, .move (.tmp 8)⟩,
       ⟨none, some 52, .call { callee := (.builtin .append), args := #[(.tmp 50), (.tmp 51)], argTypes := #[22, 22] }⟩,
       ⟨none, some 6, .assign (.tmp 52)⟩,
       ⟨none, some 7, .assign (.const (.int .i64 0))⟩])
      (.ret))))))
theorem com82 : com Tryz.prog 53 ((Tryz.f82.body).getD .skip) = g82 := by kernel_rfl
theorem enter82 {args : List Value} {h : Heap} {R : Value → Heap → Prop} (hN : args.length ≤ 53) (q : AWC Tryz.prog 53 g82 (RetQ Tryz.prog [.tmp 6, .tmp 7] R) (frOf args) h) : ACall Tryz.prog 82 args h R :=
  C_call Tryz.func82 (by kernel_rfl) com82 (by kernel_rfl) (by kernel_rfl) hN q

end Go.Proofs.Fx
