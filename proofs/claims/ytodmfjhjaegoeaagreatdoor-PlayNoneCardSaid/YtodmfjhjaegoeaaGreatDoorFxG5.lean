/- The code of this seat's functions without what a walk does not ask for, and that it is that. Written by program. -/
import Derived.Test.YtodmfjhjaegoeaaGreatDoorAmComp
import Derived.Test.YtodmfjhjaegoeaaGreatDoorProg
import Derived.KernelRfl
set_option maxRecDepth 20000
set_option linter.unusedVariables false
namespace Go.Proofs.Fx
open Go Go.Am

/-- bindle/weigh.items -/
noncomputable def g271 : AC :=
 .seq (.reg [⟨none, some 1, .box 75 (.tmp 0)⟩,
  ⟨none, some 2, .assign (.const (.slice none 0 0))⟩])
 (.seq (.reg [⟨none, some 3, .assign (.const (.slice none 0 0))⟩])
  (.seq (.seq (.reg [⟨none, some 6, .load 75 (.tmp 1)⟩,
     ⟨none, some 7, .call { callee := (.builtin .len), args := #[(.tmp 6)], argTypes := #[75] }⟩,
     ⟨none, some 8, .move (.const (.int .i64 0))⟩])
    (.block 0 (.loop (.seq (.reg [⟨none, some 9, .binOp .lss 3 (.tmp 8) (.tmp 7) 3⟩])
       (.seq (.cond (.tmp 9) (.skip)
         (.exit 0))
        (.seq (.block 1 (.seq (.reg [⟨none, some 10, .move (.tmp 8)⟩,
            ⟨none, some 11, .indexAddr 75 (.tmp 6) (.tmp 8)⟩,
            ⟨none, some 12, .load 3 (.tmp 11)⟩,
            ⟨none, some 4, .assign (.tmp 10)⟩,
            ⟨none, some 5, .assign (.tmp 12)⟩])
           (.seq (.reg [⟨none, some 13, .move (.tmp 5)⟩,
             ⟨none, some 14, .binOp .gtr 3 (.tmp 13) (.const (.int .i64 0)) 3⟩])
            (.cond (.tmp 14) (.reg [⟨none, some 15, .move (.tmp 3)⟩,
              ⟨none, some 16, .move (.tmp 4)⟩,
              ⟨none, some 17, .buildSlice 75 1 #[(0, (.tmp 16))]⟩,
              ⟨none, some 18, .call { callee := (.builtin .append), args := #[(.tmp 15), (.tmp 17)], argTypes := #[75, 75] }⟩,
              ⟨none, some 3, .assign (.tmp 18)⟩])
             (.skip)))))
         (.reg [⟨none, some 19, .binOp .add 3 (.tmp 8) (.const (.int .i64 1)) 3⟩,
          ⟨none, some 8, .move (.tmp 19)⟩])))))))
   (.seq (.reg [⟨none, some 20, .move (.tmp 3)⟩,
     ⟨none, some 21, .makeFunc (.func 300) #[] #[(.tmp 1)]⟩,
     ⟨none, some 22, .call { callee := (.value (.func 299)), args := #[(.tmp 20), (.tmp 21)], argTypes := #[75, 402] }⟩])
    (.seq (.reg [⟨none, some 23, .move (.tmp 3)⟩,
      ⟨none, some 2, .assign (.tmp 23)⟩])
     (.ret)))))
theorem com271 : com Tryz.prog 24 ((Tryz.f271.body).getD .skip) = g271 := by kernel_rfl
theorem enter271 {args : List Value} {h : Heap} {R : Value → Heap → Prop} (hN : args.length ≤ 24) (q : AWC Tryz.prog 24 g271 (RetQ Tryz.prog [.tmp 2] R) (frOf args) h) : ACall Tryz.prog 271 args h R :=
  C_call Tryz.func271 (by kernel_rfl) com271 (by kernel_rfl) (by kernel_rfl) hN q

/-- slices.Collect[[]bindle/weigh.element] -/
noncomputable def g272 : AC :=
 .seq (.reg [⟨none, some 2, .assign (.const (.slice none 0 0))⟩])
 (.seq (.reg [⟨none, some 3, .move (.tmp 0)⟩,
   ⟨none, some 4, .call { callee := (.value (.func 302)), args := #[(.const (.slice none 0 0)), (.tmp 3)], argTypes := #[366, 370] }⟩,
   ⟨none, some 2, .assign (.tmp 4)⟩])
  (.ret))
theorem com272 : com Tryz.prog 5 ((Tryz.f272.body).getD .skip) = g272 := by kernel_rfl
theorem enter272 {args : List Value} {h : Heap} {R : Value → Heap → Prop} (hN : args.length ≤ 5) (q : AWC Tryz.prog 5 g272 (RetQ Tryz.prog [.tmp 2] R) (frOf args) h) : ACall Tryz.prog 272 args h R :=
  C_call Tryz.func272 (by kernel_rfl) com272 (by kernel_rfl) (by kernel_rfl) hN q

/-- bindle/weigh.rows -/
noncomputable def g273 : AC :=
 .seq (.reg [⟨none, some 2, .box 75 (.tmp 0)⟩,
  ⟨none, some 3, .box 75 (.tmp 1)⟩,
  ⟨none, some 4, .assign (.const .nilFunc)⟩])
 (.seq (.reg [⟨none, some 5, .makeFunc (.func 303) #[] #[(.tmp 2), (.tmp 3)]⟩,
   ⟨none, some 4, .assign (.tmp 5)⟩])
  (.ret))
theorem com273 : com Tryz.prog 6 ((Tryz.f273.body).getD .skip) = g273 := by kernel_rfl
theorem enter273 {args : List Value} {h : Heap} {R : Value → Heap → Prop} (hN : args.length ≤ 6) (q : AWC Tryz.prog 6 g273 (RetQ Tryz.prog [.tmp 4] R) (frOf args) h) : ACall Tryz.prog 273 args h R :=
  C_call Tryz.func273 (by kernel_rfl) com273 (by kernel_rfl) (by kernel_rfl) hN q

/-- slices.Backward[[][]bindle/weigh.element,[]bindle/weigh.element] -/
noncomputable def g274 : AC :=
 .seq (.reg [⟨none, some 1, .box 366 (.tmp 0)⟩,
  ⟨none, some 2, .assign (.const .nilFunc)⟩])
 (.seq (.reg [⟨none, some 3, .makeFunc (.func 305) #[] #[(.tmp 1)]⟩,
   ⟨none, some 2, .assign (.tmp 3)⟩])
  (.ret))
theorem com274 : com Tryz.prog 4 ((Tryz.f274.body).getD .skip) = g274 := by kernel_rfl
theorem enter274 {args : List Value} {h : Heap} {R : Value → Heap → Prop} (hN : args.length ≤ 4) (q : AWC Tryz.prog 4 g274 (RetQ Tryz.prog [.tmp 2] R) (frOf args) h) : ACall Tryz.prog 274 args h R :=
  C_call Tryz.func274 (by kernel_rfl) com274 (by kernel_rfl) (by kernel_rfl) hN q

/-- bindle/canon.Right -/
noncomputable def g275 : AC :=
 .seq (.reg [⟨none, some 2, .assign (.const (.bool false))⟩])
 (.seq (.seq (.reg [⟨none, some 3, .move (.tmp 0)⟩,
    ⟨none, some 4, .call { callee := (.builtin .len), args := #[(.tmp 3)], argTypes := #[75] }⟩,
    ⟨none, some 5, .binOp .lss 3 (.tmp 4) (.const (.int .i64 1)) 3⟩,
    ⟨none, some 6, .move (.tmp 5)⟩,
    ⟨some (some 6, false), some 7, .move (.tmp 0)⟩,
    ⟨some (some 6, false), some 8, .call { callee := (.builtin .len), args := #[(.tmp 7)], argTypes := #[75] }⟩,
    ⟨some (some 6, false), some 9, .binOp .gtr 3 (.tmp 8) (.const (.int .i64 320)) 3⟩,
    ⟨none, some 10, .pick (.tmp 6) (.const (.bool true)) (.tmp 9)⟩,
    ⟨none, some 11, .move (.tmp 10)⟩,
    ⟨some (some 11, false), some 12, .move (.tmp 0)⟩,
    ⟨some (some 11, false), some 13, .call { callee := (.value (.func 297)), args := #[(.tmp 12), (.func 306)], argTypes := #[75, 124] }⟩,
    ⟨none, some 14, .pick (.tmp 11) (.const (.bool true)) (.tmp 13)⟩])
   (.cond (.tmp 14) (.seq (.reg [⟨none, some 2, .assign (.const (.bool false))⟩])
     (.ret))
    (.skip)))
  (.seq (.reg [⟨none, some 15, .move (.tmp 0)⟩,
    ⟨none, some 16, .call { callee := (.value (.func 307)), args := #[(.tmp 15)], argTypes := #[75] }⟩,
    ⟨none, some 17, .move (.tmp 16)⟩,
    ⟨some (some 17, false), some 18, .move (.tmp 0)⟩,
    ⟨some (some 17, false), some 19, .call { callee := (.value (.func 308)), args := #[(.tmp 18)], argTypes := #[75] }⟩,
    ⟨none, some 20, .pick (.tmp 17) (.const (.bool true)) (.tmp 19)⟩,
    ⟨none, some 2, .assign (.tmp 20)⟩])
   (.ret)))
theorem com275 : com Tryz.prog 21 ((Tryz.f275.body).getD .skip) = g275 := by kernel_rfl
theorem enter275 {args : List Value} {h : Heap} {R : Value → Heap → Prop} (hN : args.length ≤ 21) (q : AWC Tryz.prog 21 g275 (RetQ Tryz.prog [.tmp 2] R) (frOf args) h) : ACall Tryz.prog 275 args h R :=
  C_call Tryz.func275 (by kernel_rfl) com275 (by kernel_rfl) (by kernel_rfl) hN q

/-- bindle/canon.build -/
noncomputable def g276 : AC :=
 .seq (.reg [⟨none, some 2, .assign (.const (.pointer none))⟩])
 (.seq (.draw [⟨⟨none, some 11, .move (.tmp 0)⟩, []⟩,
      ⟨⟨none, some 13, .move (.tmp 0)⟩, []⟩,
      ⟨⟨none, some 14, .call { callee := (.builtin .len), args := #[(.tmp 13)], argTypes := #[75] }⟩, []⟩,
      ⟨⟨none, some 12, .call { callee := (.value (.func 228)), args := #[(.tmp 11)], argTypes := #[75] }⟩, []⟩,
      ⟨⟨none, some 15, .makeSlice 75 (.tmp 14) (.tmp 14)⟩, []⟩,
      ⟨⟨none, some 16, .build 339 #[(0, (.tmp 12)), (1, (.tmp 15))]⟩, []⟩,
      ⟨⟨none, some 17, .box 339 (.tmp 16)⟩, []⟩,
      ⟨⟨none, some 3, .assign (.tmp 17)⟩, []⟩])
  (.seq (.seq (.reg [⟨none, some 18, .move (.tmp 0)⟩,
     ⟨none, some 19, .call { callee := (.builtin .len), args := #[(.tmp 18)], argTypes := #[75] }⟩,
     ⟨none, some 20, .move (.const (.int .i64 0))⟩])
    (.block 0 (.loop (.seq (.reg [⟨none, some 21, .binOp .lss 3 (.tmp 20) (.tmp 19) 3⟩])
       (.seq (.cond (.tmp 21) (.skip)
         (.exit 0))
        (.seq (.block 1 (.seq (.reg [⟨none, some 22, .indexAddr 75 (.tmp 18) (.tmp 20)⟩,
            ⟨none, some 23, .load 3 (.tmp 22)⟩,
            ⟨none, some 5, .assign (.tmp 23)⟩])
           (.reg [⟨none, some 24, .move (.tmp 3)⟩,
            ⟨none, some 25, .move (.tmp 5)⟩,
            ⟨none, some 26, .nilCheck (.tmp 24)⟩,
            ⟨none, some 27, .fieldAddr 339 (.tmp 26) 3⟩,
            ⟨none, some 28, .indexAddr 337 (.tmp 27) (.tmp 25)⟩,
            ⟨none, some 29, .load 3 (.tmp 28)⟩,
            ⟨none, some 30, .binOp .add 3 (.tmp 29) (.const (.int .i64 1)) 3⟩,
            ⟨none, some 31, .nilCheck (.tmp 24)⟩,
            ⟨none, some 32, .fieldAddr 339 (.tmp 31) 3⟩,
            ⟨none, some 33, .indexAddr 337 (.tmp 32) (.tmp 25)⟩,
            ⟨none, none, .store 3 (.tmp 33) (.tmp 30)⟩])))
         (.reg [⟨none, some 34, .binOp .add 3 (.tmp 20) (.const (.int .i64 1)) 3⟩,
          ⟨none, some 20, .move (.tmp 34)⟩])))))))
   (.seq (.reg [⟨none, some 35, .move (.tmp 3)⟩,
     ⟨none, some 36, .nilCheck (.tmp 35)⟩,
     ⟨none, some 37, .fieldAddr 339 (.tmp 36) 3⟩,
     ⟨none, some 38, .indexAddr 337 (.tmp 37) (.const (.int .i64 0))⟩,
     ⟨none, none, .store 3 (.tmp 38) (.const (.int .i64 0))⟩])
    (.seq (.reg [⟨none, some 6, .assign (.const (.int .i64 0))⟩])
     (.seq (.seq (.reg [⟨none, some 7, .assign (.const (.int .i64 1))⟩])
       (.block 2 (.loop (.seq (.seq (.reg [⟨none, some 39, .move (.tmp 7)⟩,
            ⟨none, some 40, .binOp .leq 3 (.tmp 39) (.const (.int .i64 15)) 3⟩])
           (.cond (.tmp 40) (.skip)
            (.exit 2)))
          (.seq (.block 3 (.seq (.reg [⟨none, some 43, .move (.tmp 6)⟩,
              ⟨none, some 44, .move (.tmp 3)⟩,
              ⟨none, some 45, .move (.tmp 7)⟩,
              ⟨none, some 46, .binOp .sub 3 (.tmp 45) (.const (.int .i64 1)) 3⟩,
              ⟨none, some 47, .nilCheck (.tmp 44)⟩,
              ⟨none, some 48, .fieldAddr 339 (.tmp 47) 3⟩,
              ⟨none, some 49, .indexAddr 337 (.tmp 48) (.tmp 46)⟩,
              ⟨none, some 50, .load 3 (.tmp 49)⟩,
              ⟨none, some 51, .binOp .add 3 (.tmp 43) (.tmp 50) 3⟩,
              ⟨none, some 52, .binOp .mul 3 (.tmp 51) (.const (.int .i64 2)) 3⟩,
              ⟨none, some 6, .assign (.tmp 52)⟩])
             (.seq (.reg [⟨none, some 53, .move (.tmp 3)⟩,
               ⟨none, some 54, .move (.tmp 7)⟩,
               ⟨none, some 55, .move (.tmp 6)⟩,
               ⟨none, some 56, .nilCheck (.tmp 53)⟩,
               ⟨none, some 57, .fieldAddr 339 (.tmp 56) 2⟩,
               ⟨none, some 58, .indexAddr 337 (.tmp 57) (.tmp 54)⟩,
               ⟨none, none, .store 3 (.tmp 58) (.tmp 55)⟩])
              (.seq (.reg [⟨none, some 59, .move (.tmp 6)⟩,
                ⟨none, some 8, .assign (.tmp 59)⟩])
               (.seq (.reg [⟨none, some 60, .move (.tmp 0)⟩,
                 ⟨none, some 61, .call { callee := (.builtin .len), args := #[(.tmp 60)], argTypes := #[75] }⟩,
                 ⟨none, some 62, .move (.const (.int .i64 0))⟩])
                (.block 4 (.loop (.seq (.reg [⟨none, some 63, .binOp .lss 3 (.tmp 62) (.tmp 61) 3⟩])
                   (.seq (.cond (.tmp 63) (.skip)
                     (.exit 4))
                    (.seq (.block 5 (.seq (.reg [⟨none, some 64, .move (.tmp 62)⟩,
                        ⟨none, some 65, .indexAddr 75 (.tmp 60) (.tmp 62)⟩,
                        ⟨none, some 66, .load 3 (.tmp 65)⟩,
                        ⟨none, some 9, .assign (.tmp 64)⟩,
                        ⟨none, some 10, .assign (.tmp 66)⟩])
                       (.seq (.reg [⟨none, some 67, .move (.tmp 10)⟩,
                         ⟨none, some 68, .move (.tmp 7)⟩,
                         ⟨none, some 69, .binOp .eql 3 (.tmp 67) (.tmp 68) 3⟩])
                        (.cond (.tmp 69) (.seq (.reg [⟨none, some 70, .move (.tmp 3)⟩,
                           ⟨none, some 71, .nilCheck (.tmp 70)⟩,
                           ⟨none, some 72, .fieldAddr 339 (.tmp 71) 1⟩,
                           ⟨none, some 73, .load 75 (.tmp 72)⟩,
                           ⟨none, some 74, .move (.tmp 9)⟩,
                           ⟨none, some 75, .move (.tmp 8)⟩,
                           ⟨none, some 76, .indexAddr 75 (.tmp 73) (.tmp 74)⟩,
                           ⟨none, none, .store 3 (.tmp 76) (.tmp 75)⟩])
                          (.seq (.reg [⟨none, some 77, .move (.tmp 3)⟩,
                            ⟨none, some 78, .move (.tmp 3)⟩,
                            ⟨none, some 79, .nilCheck (.tmp 78)⟩,
                            ⟨none, some 80, .fieldAddr 339 (.tmp 79) 4⟩,
                            ⟨none, some 81, .load 75 (.tmp 80)⟩,
                            ⟨none, some 82, .move (.tmp 9)⟩,
                            ⟨none, some 83, .buildSlice 75 1 #[(0, (.tmp 82))]⟩,
                            ⟨none, some 84, .call { callee := (.builtin .append), args := #[(.tmp 81), (.tmp 83)], argTypes := #[75, 75] }⟩,
                            ⟨none, some 85, .nilCheck (.tmp 77)⟩,
                            ⟨none, some 86, .fieldAddr 339 (.tmp 85) 4⟩,
                            ⟨none, none, .store 75 (.tmp 86) (.tmp 84)⟩])
                           (.reg [⟨none, some 87, .move (.tmp 8)⟩,
                            ⟨none, some 88, .binOp .add 3 (.tmp 87) (.const (.int .i64 1)) 3⟩,
                            ⟨none, some 8, .assign (.tmp 88)⟩])))
                         (.skip)))))
                     (.reg [⟨none, some 89, .binOp .add 3 (.tmp 62) (.const (.int .i64 1)) 3⟩,
                      ⟨none, some 62, .move (.tmp 89)⟩])))))))))))
           (.reg [⟨none, some 41, .move (.tmp 7)⟩,
            ⟨none, some 42, .binOp .add 3 (.tmp 41) (.const (.int .i64 1)) 3⟩,
            ⟨none, some 7, .assign (.tmp 42)⟩]))))))
      (.seq (.reg [⟨none, some 90, .move (.tmp 3)⟩,
        ⟨none, some 2, .assign (.tmp 90)⟩])
       (.ret)))))))
theorem com276 : com Tryz.prog 91 ((Tryz.f276.body).getD .skip) = g276 := by kernel_rfl
theorem enter276 {args : List Value} {h : Heap} {R : Value → Heap → Prop} (hN : args.length ≤ 91) (q : AWC Tryz.prog 91 g276 (RetQ Tryz.prog [.tmp 2] R) (frOf args) h) : ACall Tryz.prog 276 args h R :=
  C_call Tryz.func276 (by kernel_rfl) com276 (by kernel_rfl) (by kernel_rfl) hN q

/-- bindle/runs.right -/
noncomputable def g277 : AC :=
 .seq (.reg [⟨none, some 2, .assign (.const (.bool false))⟩])
 (.seq (.reg [⟨none, some 3, .move (.tmp 0)⟩,
   ⟨none, some 4, .call { callee := (.value (.func 297)), args := #[(.tmp 3), (.func 309)], argTypes := #[75, 124] }⟩,
   ⟨none, some 5, .unOp .not 4 (.tmp 4)⟩,
   ⟨none, some 2, .assign (.tmp 5)⟩])
  (.ret))
theorem com277 : com Tryz.prog 6 ((Tryz.f277.body).getD .skip) = g277 := by kernel_rfl
theorem enter277 {args : List Value} {h : Heap} {R : Value → Heap → Prop} (hN : args.length ≤ 6) (q : AWC Tryz.prog 6 g277 (RetQ Tryz.prog [.tmp 2] R) (frOf args) h) : ACall Tryz.prog 277 args h R :=
  C_call Tryz.func277 (by kernel_rfl) com277 (by kernel_rfl) (by kernel_rfl) hN q

/-- bindle/runs.parts -/
noncomputable def g278 : AC :=
 .seq (.reg [⟨none, some 1, .box 75 (.tmp 0)⟩,
  ⟨none, some 2, .assign (.const .nilFunc)⟩])
 (.seq (.reg [⟨none, some 3, .makeFunc (.func 310) #[] #[(.tmp 1)]⟩,
   ⟨none, some 2, .assign (.tmp 3)⟩])
  (.ret))
theorem com278 : com Tryz.prog 4 ((Tryz.f278.body).getD .skip) = g278 := by kernel_rfl
theorem enter278 {args : List Value} {h : Heap} {R : Value → Heap → Prop} (hN : args.length ≤ 4) (q : AWC Tryz.prog 4 g278 (RetQ Tryz.prog [.tmp 2] R) (frOf args) h) : ACall Tryz.prog 278 args h R :=
  C_call Tryz.func278 (by kernel_rfl) com278 (by kernel_rfl) (by kernel_rfl) hN q

/-- bindle/runs.bounds -/
noncomputable def g279 : AC :=
 .seq (.reg [⟨none, some 2, .assign (.const (.int .i64 0))⟩,
  ⟨none, some 3, .assign (.const (.int .i64 0))⟩,
  ⟨none, some 4, .assign (.const (.int .i64 0))⟩])
 (.seq (.seq (.reg [⟨none, some 5, .move (.tmp 0)⟩])
   (.block 0 (.seq (.reg [⟨none, some 7, .binOp .eql 3 (.tmp 5) (.const (.int .i64 16)) 3⟩,
      ⟨none, some 6, .assign (.tmp 7)⟩])
     (.cond (.tmp 6) (.seq (.reg [⟨none, some 2, .assign (.const (.int .i64 3))⟩,
        ⟨none, some 3, .assign (.const (.int .i64 6))⟩,
        ⟨none, some 4, .assign (.const (.int .i64 2))⟩])
       (.ret))
      (.seq (.reg [⟨none, some 9, .binOp .eql 3 (.tmp 5) (.const (.int .i64 17)) 3⟩,
        ⟨none, some 8, .assign (.tmp 9)⟩])
       (.cond (.tmp 8) (.seq (.reg [⟨none, some 2, .assign (.const (.int .i64 3))⟩,
          ⟨none, some 3, .assign (.const (.int .i64 10))⟩,
          ⟨none, some 4, .assign (.const (.int .i64 3))⟩])
         (.ret))
        (.seq (.reg [⟨none, some 11, .binOp .eql 3 (.tmp 5) (.const (.int .i64 18)) 3⟩,
          ⟨none, some 10, .assign (.tmp 11)⟩])
         (.cond (.tmp 10) (.seq (.reg [⟨none, some 2, .assign (.const (.int .i64 11))⟩,
            ⟨none, some 3, .assign (.const (.int .i64 138))⟩,
            ⟨none, some 4, .assign (.const (.int .i64 7))⟩])
           (.ret))
          (.skip)))))))))
  (.seq (.reg [⟨none, some 2, .assign (.const (.int .i64 1))⟩,
    ⟨none, some 3, .assign (.const (.int .i64 1))⟩,
    ⟨none, some 4, .assign (.const (.int .i64 0))⟩])
   (.ret)))
theorem com279 : com Tryz.prog 12 ((Tryz.f279.body).getD .skip) = g279 := by kernel_rfl
theorem enter279 {args : List Value} {h : Heap} {R : Value → Heap → Prop} (hN : args.length ≤ 12) (q : AWC Tryz.prog 12 g279 (RetQ Tryz.prog [.tmp 2, .tmp 3, .tmp 4] R) (frOf args) h) : ACall Tryz.prog 279 args h R :=
  C_call Tryz.func279 (by kernel_rfl) com279 (by kernel_rfl) (by kernel_rfl) hN q

/-- ( *bindle/match.Finder).Find -/
noncomputable def g280 : AC :=
 .seq (.reg [⟨none, some 3, .box 342 (.tmp 0)⟩,
  ⟨none, some 4, .box 3 (.tmp 1)⟩,
  ⟨none, some 5, .box 3 (.tmp 2)⟩,
  ⟨none, some 6, .alloc 3⟩,
  ⟨none, some 7, .alloc 3⟩])
 (.scope (.seq (.seq (.reg [⟨none, some 10, .load 342 (.tmp 3)⟩,
     ⟨none, some 11, .binOp .eql 342 (.tmp 10) (.const (.pointer none)) 342⟩,
     ⟨none, some 12, .move (.tmp 11)⟩,
     ⟨some (some 12, false), some 13, .load 3 (.tmp 5)⟩,
     ⟨some (some 12, false), some 14, .binOp .lss 3 (.tmp 13) (.const (.int .i64 1)) 3⟩,
     ⟨none, some 15, .pick (.tmp 12) (.const (.bool true)) (.tmp 14)⟩])
    (.cond (.tmp 15) (.seq (.reg [⟨none, none, .store 3 (.tmp 6) (.const (.int .i64 0))⟩,
       ⟨none, none, .store 3 (.tmp 7) (.const (.int .i64 0))⟩])
      (.ret))
     (.skip)))
   (.seq (.label 0)
    (.seq (.seq (.reg [⟨none, some 16, .load 342 (.tmp 3)⟩,
       ⟨none, some 17, .load 3 (.tmp 4)⟩,
       ⟨none, some 18, .call { callee := (.value (.func 312)), args := #[(.tmp 16), (.tmp 17)], argTypes := #[342, 3] }⟩])
      (.block 0 (.range (.tmp 18) #[19] (rcode (Tryz.f280.body.getD .skip) 0).1 (rcode (Tryz.f280.body.getD .skip) 0).2 (.reg [⟨none, some 8, .assign (.tmp 19)⟩])
        (.block 1 (.seq (.seq (.reg [⟨none, some 20, .load 342 (.tmp 3)⟩,
            ⟨none, some 21, .nilCheck (.tmp 20)⟩,
            ⟨none, some 22, .fieldAddr 388 (.tmp 21) 0⟩,
            ⟨none, some 23, .load 22 (.tmp 22)⟩,
            ⟨none, some 24, .load 3 (.tmp 4)⟩,
            ⟨none, some 25, .move (.tmp 8)⟩,
            ⟨none, some 26, .call { callee := (.value (.func 313)), args := #[(.tmp 23), (.tmp 24), (.tmp 25)], argTypes := #[22, 3, 3] }⟩,
            ⟨none, some 9, .assign (.tmp 26)⟩])
           (.seq (.reg [⟨none, some 27, .move (.tmp 9)⟩,
             ⟨none, some 28, .load 3 (.tmp 6)⟩,
             ⟨none, some 29, .binOp .gtr 3 (.tmp 27) (.tmp 28) 3⟩])
            (.cond (.tmp 29) (.reg [⟨none, some 30, .move (.tmp 9)⟩,
              ⟨none, some 31, .move (.tmp 8)⟩,
              ⟨none, none, .store 3 (.tmp 6) (.tmp 30)⟩,
              ⟨none, none, .store 3 (.tmp 7) (.tmp 31)⟩])
             (.skip))))
          (.seq (.reg [⟨none, some 32, .load 3 (.tmp 5)⟩,
            ⟨none, some 33, .binOp .sub 3 (.tmp 32) (.const (.int .i64 1)) 3⟩,
            ⟨none, none, .store 3 (.tmp 5) (.tmp 33)⟩])
           (.seq (.reg [⟨none, some 34, .load 3 (.tmp 5)⟩,
             ⟨none, some 35, .binOp .eql 3 (.tmp 34) (.const (.int .i64 0)) 3⟩,
             ⟨none, some 36, .move (.tmp 35)⟩,
             ⟨some (some 36, false), some 37, .load 3 (.tmp 6)⟩,
             ⟨some (some 36, false), some 38, .binOp .eql 3 (.tmp 37) (.const (.int .i64 258)) 3⟩,
             ⟨none, some 39, .pick (.tmp 36) (.const (.bool true)) (.tmp 38)⟩])
            (.cond (.tmp 39) (.exit 0)
             (.skip)))))))))
     (.seq (.draw [⟨⟨none, some 40, .load 3 (.tmp 6)⟩, []⟩,
      ⟨⟨none, some 41, .load 3 (.tmp 7)⟩, []⟩,
      ⟨⟨none, none, .store 3 (.tmp 6) (.tmp 40)⟩, [⟨none, some 41, .load 3 (.tmp 7)⟩]⟩,
      ⟨⟨none, none, .store 3 (.tmp 7) (.tmp 41)⟩, []⟩])
      (.ret))))))
theorem com280 : com Tryz.prog 42 ((Tryz.f280.body).getD .skip) = g280 := by kernel_rfl
theorem enter280 {args : List Value} {h : Heap} {R : Value → Heap → Prop} (hN : args.length ≤ 42) (q : AWC Tryz.prog 42 g280 (RetQ Tryz.prog [.cell 6 3, .cell 7 3] R) (frOf args) h) : ACall Tryz.prog 280 args h R :=
  C_call Tryz.func280 (by kernel_rfl) com280 (by kernel_rfl) (by kernel_rfl) hN q

/-- slices.ContainsFunc[[]int,int] -/
noncomputable def g297 : AC :=
 .seq (.reg [⟨none, some 4, .assign (.const (.bool false))⟩])
 (.seq (.reg [⟨none, some 5, .move (.tmp 0)⟩,
   ⟨none, some 6, .move (.tmp 1)⟩,
   ⟨none, some 7, .call { callee := (.value (.func 322)), args := #[(.tmp 5), (.tmp 6)], argTypes := #[75, 124] }⟩,
   ⟨none, some 8, .binOp .geq 3 (.tmp 7) (.const (.int .i64 0)) 3⟩,
   ⟨none, some 4, .assign (.tmp 8)⟩])
  (.ret))
theorem com297 : com Tryz.prog 9 ((Tryz.f297.body).getD .skip) = g297 := by kernel_rfl
theorem enter297 {args : List Value} {h : Heap} {R : Value → Heap → Prop} (hN : args.length ≤ 9) (q : AWC Tryz.prog 9 g297 (RetQ Tryz.prog [.tmp 4] R) (frOf args) h) : ACall Tryz.prog 297 args h R :=
  C_call Tryz.func297 (by kernel_rfl) com297 (by kernel_rfl) (by kernel_rfl) hN q

/-- bindle/weigh.right$1 -/
noncomputable def g298 : AC :=
 .seq (.reg [⟨none, some 3, .assign (.const (.bool false))⟩])
 (.seq (.reg [⟨none, some 4, .move (.tmp 0)⟩,
   ⟨none, some 5, .binOp .lss 3 (.tmp 4) (.const (.int .i64 0)) 3⟩,
   ⟨none, some 6, .move (.tmp 5)⟩,
   ⟨some (some 6, false), some 7, .move (.tmp 0)⟩,
   ⟨some (some 6, false), some 8, .load 3 (.tmp 1)⟩,
   ⟨some (some 6, false), some 9, .binOp .gtr 3 (.tmp 7) (.tmp 8) 3⟩,
   ⟨none, some 10, .pick (.tmp 6) (.const (.bool true)) (.tmp 9)⟩,
   ⟨none, some 3, .assign (.tmp 10)⟩])
  (.ret))
theorem com298 : com Tryz.prog 11 ((Tryz.f298.body).getD .skip) = g298 := by kernel_rfl
theorem enter298 {args : List Value} {h : Heap} {R : Value → Heap → Prop} (hN : args.length ≤ 11) (q : AWC Tryz.prog 11 g298 (RetQ Tryz.prog [.tmp 3] R) (frOf args) h) : ACall Tryz.prog 298 args h R :=
  C_call Tryz.func298 (by kernel_rfl) com298 (by kernel_rfl) (by kernel_rfl) hN q

/-- slices.SortStableFunc[[]int,int] -/
noncomputable def g299 : AC :=
 .reg [⟨none, some 4, .move (.tmp 0)⟩,
 ⟨none, some 5, .move (.tmp 0)⟩,
 ⟨none, some 6, .call { callee := (.builtin .len), args := #[(.tmp 5)], argTypes := #[75] }⟩,
 ⟨none, some 7, .move (.tmp 1)⟩,
 ⟨none, some 8, .call { callee := (.value (.func 323)), args := #[(.tmp 4), (.tmp 6), (.tmp 7)], argTypes := #[75, 3, 402] }⟩]
theorem com299 : com Tryz.prog 9 ((Tryz.f299.body).getD .skip) = g299 := by kernel_rfl
theorem enter299 {args : List Value} {h : Heap} {R : Value → Heap → Prop} (hN : args.length ≤ 9) (q : AWC Tryz.prog 9 g299 (RetQ Tryz.prog [] R) (frOf args) h) : ACall Tryz.prog 299 args h R :=
  C_call Tryz.func299 (by kernel_rfl) com299 (by kernel_rfl) (by kernel_rfl) hN q

/-- bindle/weigh.items$1 -/
noncomputable def g300 : AC :=
 .seq (.reg [⟨none, some 5, .assign (.const (.int .i64 0))⟩])
 (.seq (.reg [⟨none, some 6, .load 75 (.tmp 2)⟩,
   ⟨none, some 7, .move (.tmp 0)⟩,
   ⟨none, some 8, .indexAddr 75 (.tmp 6) (.tmp 7)⟩,
   ⟨none, some 9, .load 3 (.tmp 8)⟩,
   ⟨none, some 10, .load 75 (.tmp 2)⟩,
   ⟨none, some 11, .move (.tmp 1)⟩,
   ⟨none, some 12, .indexAddr 75 (.tmp 10) (.tmp 11)⟩,
   ⟨none, some 13, .load 3 (.tmp 12)⟩,
   ⟨none, some 14, .call { callee := (.value (.func 301)), args := #[(.tmp 9), (.tmp 13)], argTypes := #[3, 3] }⟩,
   ⟨none, some 5, .assign (.tmp 14)⟩])
  (.ret))
theorem com300 : com Tryz.prog 15 ((Tryz.f300.body).getD .skip) = g300 := by kernel_rfl
theorem enter300 {args : List Value} {h : Heap} {R : Value → Heap → Prop} (hN : args.length ≤ 15) (q : AWC Tryz.prog 15 g300 (RetQ Tryz.prog [.tmp 5] R) (frOf args) h) : ACall Tryz.prog 300 args h R :=
  C_call Tryz.func300 (by kernel_rfl) com300 (by kernel_rfl) (by kernel_rfl) hN q

/-- cmp.Compare[int] -/
noncomputable def g301 : AC :=
 .seq (.reg [⟨none, some 4, .assign (.const (.int .i64 0))⟩])
 (.seq (.reg [⟨none, some 7, .move (.tmp 0)⟩,
   ⟨none, some 8, .call { callee := (.value (.func 324)), args := #[(.tmp 7)], argTypes := #[3] }⟩,
   ⟨none, some 5, .assign (.tmp 8)⟩])
  (.seq (.reg [⟨none, some 9, .move (.tmp 1)⟩,
    ⟨none, some 10, .call { callee := (.value (.func 324)), args := #[(.tmp 9)], argTypes := #[3] }⟩,
    ⟨none, some 6, .assign (.tmp 10)⟩])
   (.seq (.seq (.reg [⟨none, some 11, .move (.tmp 5)⟩])
     (.cond (.tmp 11) (.seq (.seq (.reg [⟨none, some 12, .move (.tmp 6)⟩])
        (.cond (.tmp 12) (.seq (.reg [⟨none, some 4, .assign (.const (.int .i64 0))⟩])
          (.ret))
         (.skip)))
       (.seq (.reg [⟨none, some 4, .assign (.const (.int .i64 (-1)))⟩])
        (.ret)))
      (.skip)))
    (.seq (.seq (.reg [⟨none, some 13, .move (.tmp 6)⟩])
      (.cond (.tmp 13) (.seq (.reg [⟨none, some 4, .assign (.const (.int .i64 1))⟩])
        (.ret))
       (.skip)))
     (.seq (.seq (.reg [⟨none, some 14, .move (.tmp 0)⟩,
        ⟨none, some 15, .move (.tmp 1)⟩,
        ⟨none, some 16, .binOp .lss 3 (.tmp 14) (.tmp 15) 3⟩])
       (.cond (.tmp 16) (.seq (.reg [⟨none, some 4, .assign (.const (.int .i64 (-1)))⟩])
         (.ret))
        (.skip)))
      (.seq (.seq (.reg [⟨none, some 17, .move (.tmp 0)⟩,
         ⟨none, some 18, .move (.tmp 1)⟩,
         ⟨none, some 19, .binOp .gtr 3 (.tmp 17) (.tmp 18) 3⟩])
        (.cond (.tmp 19) (.seq (.reg [⟨none, some 4, .assign (.const (.int .i64 1))⟩])
          (.ret))
         (.skip)))
       (.seq (.reg [⟨none, some 4, .assign (.const (.int .i64 0))⟩])
        (.ret))))))))
theorem com301 : com Tryz.prog 20 ((Tryz.f301.body).getD .skip) = g301 := by kernel_rfl
theorem enter301 {args : List Value} {h : Heap} {R : Value → Heap → Prop} (hN : args.length ≤ 20) (q : AWC Tryz.prog 20 g301 (RetQ Tryz.prog [.tmp 4] R) (frOf args) h) : ACall Tryz.prog 301 args h R :=
  C_call Tryz.func301 (by kernel_rfl) com301 (by kernel_rfl) (by kernel_rfl) hN q

/-- slices.AppendSeq[[][]bindle/weigh.element,[]bindle/weigh.element] -/
noncomputable def g302 : AC :=
 .seq (.reg [⟨none, some 2, .box 366 (.tmp 0)⟩,
  ⟨none, some 4, .assign (.const (.slice none 0 0))⟩])
 (.seq (.seq (.reg [⟨none, some 6, .move (.tmp 1)⟩])
   (.block 0 (.range (.tmp 6) #[7] (rcode (Tryz.f302.body.getD .skip) 0).1 (rcode (Tryz.f302.body.getD .skip) 0).2 (.reg [⟨none, some 5, .assign (.tmp 7)⟩])
     (.block 1 (.reg [⟨none, some 8, .load 366 (.tmp 2)⟩,
       ⟨none, some 9, .move (.tmp 5)⟩,
       ⟨none, some 10, .buildSlice 366 1 #[(0, (.tmp 9))]⟩,
       ⟨none, some 11, .call { callee := (.builtin .append), args := #[(.tmp 8), (.tmp 10)], argTypes := #[366, 366] }⟩,
       ⟨none, none, .store 366 (.tmp 2) (.tmp 11)⟩])))))
  (.seq (.reg [⟨none, some 12, .load 366 (.tmp 2)⟩,
    ⟨none, some 4, .assign (.tmp 12)⟩])
   (.ret)))
theorem com302 : com Tryz.prog 13 ((Tryz.f302.body).getD .skip) = g302 := by kernel_rfl
theorem enter302 {args : List Value} {h : Heap} {R : Value → Heap → Prop} (hN : args.length ≤ 13) (q : AWC Tryz.prog 13 g302 (RetQ Tryz.prog [.tmp 4] R) (frOf args) h) : ACall Tryz.prog 302 args h R :=
  C_call Tryz.func302 (by kernel_rfl) com302 (by kernel_rfl) (by kernel_rfl) hN q

/-- bindle/weigh.rows$1 -/
noncomputable def g303 : AC :=
 .seq (.reg [⟨none, some 4, .assign (.const (.slice none 0 0))⟩])
 (.seq (.reg [⟨none, some 5, .move (.const (.int .i64 0))⟩])
  (.block 0 (.loop (.seq (.reg [⟨none, some 6, .binOp .lss 3 (.tmp 5) (.const (.int .i64 15)) 3⟩])
     (.seq (.cond (.tmp 6) (.skip)
       (.exit 0))
      (.seq (.block 1 (.seq (.reg [⟨none, some 7, .load 75 (.tmp 1)⟩,
          ⟨none, some 8, .load 75 (.tmp 2)⟩,
          ⟨none, some 9, .move (.tmp 4)⟩,
          ⟨none, some 10, .call { callee := (.value (.func 304)), args := #[(.tmp 7), (.tmp 8), (.tmp 9)], argTypes := #[75, 75, 368] }⟩,
          ⟨none, some 4, .assign (.tmp 10)⟩])
         (.seq (.reg [⟨none, some 11, .move (.tmp 0)⟩,
           ⟨none, some 12, .move (.tmp 4)⟩,
           ⟨none, some 13, .call { callee := (.value (.tmp 11)), args := #[(.tmp 12)], argTypes := #[368] }⟩,
           ⟨none, some 14, .unOp .not 4 (.tmp 13)⟩])
          (.cond (.tmp 14) (.ret)
           (.skip)))))
       (.reg [⟨none, some 15, .binOp .add 3 (.tmp 5) (.const (.int .i64 1)) 3⟩,
        ⟨none, some 5, .move (.tmp 15)⟩])))))))
theorem com303 : com Tryz.prog 16 ((Tryz.f303.body).getD .skip) = g303 := by kernel_rfl
theorem enter303 {args : List Value} {h : Heap} {R : Value → Heap → Prop} (hN : args.length ≤ 16) (q : AWC Tryz.prog 16 g303 (RetQ Tryz.prog [] R) (frOf args) h) : ACall Tryz.prog 303 args h R :=
  C_call Tryz.func303 (by kernel_rfl) com303 (by kernel_rfl) (by kernel_rfl) hN q

/-- bindle/weigh.next -/
noncomputable def g304 : AC :=
 .seq (.reg [⟨none, some 6, .assign (.const (.slice none 0 0))⟩])
 (.seq (.reg [⟨none, some 7, .assign (.const (.slice none 0 0))⟩])
  (.seq (.reg [⟨none, some 8, .assign (.const (.int .i64 0))⟩,
    ⟨none, some 9, .assign (.const (.int .i64 0))⟩])
   (.seq (.block 0 (.loop (.seq (.seq (.reg [⟨none, some 11, .move (.tmp 8)⟩,
         ⟨none, some 12, .move (.tmp 1)⟩,
         ⟨none, some 13, .call { callee := (.builtin .len), args := #[(.tmp 12)], argTypes := #[75] }⟩,
         ⟨none, some 14, .binOp .lss 3 (.tmp 11) (.tmp 13) 3⟩,
         ⟨none, some 15, .move (.tmp 14)⟩,
         ⟨some (some 15, false), some 16, .move (.tmp 9)⟩,
         ⟨some (some 15, false), some 17, .binOp .add 3 (.tmp 16) (.const (.int .i64 1)) 3⟩,
         ⟨some (some 15, false), some 18, .move (.tmp 2)⟩,
         ⟨some (some 15, false), some 19, .call { callee := (.builtin .len), args := #[(.tmp 18)], argTypes := #[368] }⟩,
         ⟨some (some 15, false), some 20, .binOp .lss 3 (.tmp 17) (.tmp 19) 3⟩,
         ⟨none, some 21, .pick (.tmp 15) (.const (.bool true)) (.tmp 20)⟩])
        (.cond (.tmp 21) (.skip)
         (.exit 0)))
       (.block 1 (.seq (.reg [⟨none, some 22, .move (.tmp 9)⟩,
          ⟨none, some 23, .binOp .add 3 (.tmp 22) (.const (.int .i64 1)) 3⟩,
          ⟨none, some 24, .move (.tmp 2)⟩,
          ⟨none, some 25, .call { callee := (.builtin .len), args := #[(.tmp 24)], argTypes := #[368] }⟩,
          ⟨none, some 26, .binOp .lss 3 (.tmp 23) (.tmp 25) 3⟩,
          ⟨none, some 10, .assign (.tmp 26)⟩])
         (.seq (.seq (.reg [⟨none, some 27, .move (.tmp 8)⟩,
            ⟨none, some 28, .move (.tmp 1)⟩,
            ⟨none, some 29, .call { callee := (.builtin .len), args := #[(.tmp 28)], argTypes := #[75] }⟩,
            ⟨none, some 30, .binOp .lss 3 (.tmp 27) (.tmp 29) 3⟩,
            ⟨none, some 31, .move (.tmp 30)⟩,
            ⟨some (some 31, true), some 32, .move (.tmp 10)⟩,
            ⟨some (some 31, true), some 33, .unOp .not 4 (.tmp 32)⟩,
            ⟨some (some 31, true), some 34, .move (.tmp 33)⟩,
            ⟨some (some 34, false), some 35, .move (.tmp 0)⟩,
            ⟨some (some 34, false), some 36, .move (.tmp 1)⟩,
            ⟨some (some 34, false), some 37, .move (.tmp 8)⟩,
            ⟨some (some 34, false), some 38, .indexAddr 75 (.tmp 36) (.tmp 37)⟩,
            ⟨some (some 34, false), some 39, .load 3 (.tmp 38)⟩,
            ⟨some (some 34, false), some 40, .indexAddr 75 (.tmp 35) (.tmp 39)⟩,
            ⟨some (some 34, false), some 41, .load 3 (.tmp 40)⟩,
            ⟨some (some 34, false), some 42, .move (.tmp 2)⟩,
            ⟨some (some 34, false), some 43, .move (.tmp 9)⟩,
            ⟨some (some 34, false), some 44, .indexAddr 368 (.tmp 42) (.tmp 43)⟩,
            ⟨some (some 34, false), some 45, .fieldAddr 376 (.tmp 44) 0⟩,
            ⟨some (some 34, false), some 46, .load 3 (.tmp 45)⟩,
            ⟨some (some 34, false), some 47, .move (.tmp 2)⟩,
            ⟨some (some 34, false), some 48, .move (.tmp 9)⟩,
            ⟨some (some 34, false), some 49, .binOp .add 3 (.tmp 48) (.const (.int .i64 1)) 3⟩,
            ⟨some (some 34, false), some 50, .indexAddr 368 (.tmp 47) (.tmp 49)⟩,
            ⟨some (some 34, false), some 51, .fieldAddr 376 (.tmp 50) 0⟩,
            ⟨some (some 34, false), some 52, .load 3 (.tmp 51)⟩,
            ⟨some (some 34, false), some 53, .binOp .add 3 (.tmp 46) (.tmp 52) 3⟩,
            ⟨some (some 34, false), some 54, .binOp .leq 3 (.tmp 41) (.tmp 53) 3⟩,
            ⟨some (some 31, true), some 55, .pick (.tmp 34) (.const (.bool true)) (.tmp 54)⟩,
            ⟨none, some 56, .pick (.tmp 31) (.tmp 55) (.const (.bool false))⟩])
           (.cond (.tmp 56) (.seq (.reg [⟨none, some 57, .move (.tmp 7)⟩,
              ⟨none, some 58, .move (.tmp 0)⟩,
              ⟨none, some 59, .move (.tmp 1)⟩,
              ⟨none, some 60, .move (.tmp 8)⟩,
              ⟨none, some 61, .indexAddr 75 (.tmp 59) (.tmp 60)⟩,
              ⟨none, some 62, .load 3 (.tmp 61)⟩,
              ⟨none, some 63, .indexAddr 75 (.tmp 58) (.tmp 62)⟩,
              ⟨none, some 64, .load 3 (.tmp 63)⟩,
              ⟨none, some 65, .build 376 #[(0, (.tmp 64)), (1, (.const (.bool true)))]⟩,
              ⟨none, some 66, .buildSlice 368 1 #[(0, (.tmp 65))]⟩,
              ⟨none, some 67, .call { callee := (.builtin .append), args := #[(.tmp 57), (.tmp 66)], argTypes := #[368, 368] }⟩,
              ⟨none, some 7, .assign (.tmp 67)⟩])
             (.seq (.reg [⟨none, some 68, .move (.tmp 8)⟩,
               ⟨none, some 69, .binOp .add 3 (.tmp 68) (.const (.int .i64 1)) 3⟩,
               ⟨none, some 8, .assign (.tmp 69)⟩])
              (.exit 1)))
            (.skip)))
          (.seq (.reg [⟨none, some 70, .move (.tmp 7)⟩,
            ⟨none, some 71, .move (.tmp 2)⟩,
            ⟨none, some 72, .move (.tmp 9)⟩,
            ⟨none, some 73, .indexAddr 368 (.tmp 71) (.tmp 72)⟩,
            ⟨none, some 74, .fieldAddr 376 (.tmp 73) 0⟩,
            ⟨none, some 75, .load 3 (.tmp 74)⟩,
            ⟨none, some 76, .move (.tmp 2)⟩,
            ⟨none, some 77, .move (.tmp 9)⟩,
            ⟨none, some 78, .binOp .add 3 (.tmp 77) (.const (.int .i64 1)) 3⟩,
            ⟨none, some 79, .indexAddr 368 (.tmp 76) (.tmp 78)⟩,
            ⟨none, some 80, .fieldAddr 376 (.tmp 79) 0⟩,
            ⟨none, some 81, .load 3 (.tmp 80)⟩,
            ⟨none, some 82, .binOp .add 3 (.tmp 75) (.tmp 81) 3⟩,
            ⟨none, some 83, .build 376 #[(0, (.tmp 82))]⟩,
            ⟨none, some 84, .buildSlice 368 1 #[(0, (.tmp 83))]⟩,
            ⟨none, some 85, .call { callee := (.builtin .append), args := #[(.tmp 70), (.tmp 84)], argTypes := #[368, 368] }⟩,
            ⟨none, some 7, .assign (.tmp 85)⟩])
           (.reg [⟨none, some 86, .move (.tmp 9)⟩,
            ⟨none, some 87, .binOp .add 3 (.tmp 86) (.const (.int .i64 2)) 3⟩,
            ⟨none, some 9, .assign (.tmp 87)⟩]))))))))
    (.seq (.reg [⟨none, some 88, .move (.tmp 7)⟩,
      ⟨none, some 6, .assign (.tmp 88)⟩])
     (.ret)))))
theorem com304 : com Tryz.prog 89 ((Tryz.f304.body).getD .skip) = g304 := by kernel_rfl
theorem enter304 {args : List Value} {h : Heap} {R : Value → Heap → Prop} (hN : args.length ≤ 89) (q : AWC Tryz.prog 89 g304 (RetQ Tryz.prog [.tmp 6] R) (frOf args) h) : ACall Tryz.prog 304 args h R :=
  C_call Tryz.func304 (by kernel_rfl) com304 (by kernel_rfl) (by kernel_rfl) hN q

/-- slices.Backward[[][]bindle/weigh.element,[]bindle/weigh.element]$1 -/
noncomputable def g305 : AC :=
 .seq (.reg [⟨none, some 4, .load 366 (.tmp 1)⟩,
  ⟨none, some 5, .call { callee := (.builtin .len), args := #[(.tmp 4)], argTypes := #[366] }⟩,
  ⟨none, some 6, .binOp .sub 3 (.tmp 5) (.const (.int .i64 1)) 3⟩,
  ⟨none, some 3, .assign (.tmp 6)⟩])
 (.block 0 (.loop (.seq (.seq (.reg [⟨none, some 7, .move (.tmp 3)⟩,
      ⟨none, some 8, .binOp .geq 3 (.tmp 7) (.const (.int .i64 0)) 3⟩])
     (.cond (.tmp 8) (.skip)
      (.exit 0)))
    (.seq (.block 1 (.seq (.reg [⟨none, some 11, .move (.tmp 0)⟩,
        ⟨none, some 12, .move (.tmp 3)⟩,
        ⟨none, some 13, .load 366 (.tmp 1)⟩,
        ⟨none, some 14, .move (.tmp 3)⟩,
        ⟨none, some 15, .indexAddr 366 (.tmp 13) (.tmp 14)⟩,
        ⟨none, some 16, .load 368 (.tmp 15)⟩,
        ⟨none, some 17, .call { callee := (.value (.tmp 11)), args := #[(.tmp 12), (.tmp 16)], argTypes := #[3, 368] }⟩,
        ⟨none, some 18, .unOp .not 4 (.tmp 17)⟩])
       (.cond (.tmp 18) (.ret)
        (.skip))))
     (.reg [⟨none, some 9, .move (.tmp 3)⟩,
      ⟨none, some 10, .binOp .sub 3 (.tmp 9) (.const (.int .i64 1)) 3⟩,
      ⟨none, some 3, .assign (.tmp 10)⟩])))))
theorem com305 : com Tryz.prog 19 ((Tryz.f305.body).getD .skip) = g305 := by kernel_rfl
theorem enter305 {args : List Value} {h : Heap} {R : Value → Heap → Prop} (hN : args.length ≤ 19) (q : AWC Tryz.prog 19 g305 (RetQ Tryz.prog [] R) (frOf args) h) : ACall Tryz.prog 305 args h R :=
  C_call Tryz.func305 (by kernel_rfl) com305 (by kernel_rfl) (by kernel_rfl) hN q

/-- bindle/canon.Right$1 -/
noncomputable def g306 : AC :=
 .seq (.reg [⟨none, some 2, .assign (.const (.bool false))⟩])
 (.seq (.reg [⟨none, some 3, .move (.tmp 0)⟩,
   ⟨none, some 4, .binOp .lss 3 (.tmp 3) (.const (.int .i64 0)) 3⟩,
   ⟨none, some 5, .move (.tmp 4)⟩,
   ⟨some (some 5, false), some 6, .move (.tmp 0)⟩,
   ⟨some (some 5, false), some 7, .binOp .gtr 3 (.tmp 6) (.const (.int .i64 15)) 3⟩,
   ⟨none, some 8, .pick (.tmp 5) (.const (.bool true)) (.tmp 7)⟩,
   ⟨none, some 2, .assign (.tmp 8)⟩])
  (.ret))
theorem com306 : com Tryz.prog 9 ((Tryz.f306.body).getD .skip) = g306 := by kernel_rfl
theorem enter306 {args : List Value} {h : Heap} {R : Value → Heap → Prop} (hN : args.length ≤ 9) (q : AWC Tryz.prog 9 g306 (RetQ Tryz.prog [.tmp 2] R) (frOf args) h) : ACall Tryz.prog 306 args h R :=
  C_call Tryz.func306 (by kernel_rfl) com306 (by kernel_rfl) (by kernel_rfl) hN q

/-- bindle/weigh.Full -/
noncomputable def g307 : AC :=
 .seq (.reg [⟨none, some 2, .assign (.const (.bool false))⟩])
 (.seq (.seq (.reg [⟨none, some 6, .move (.tmp 0)⟩,
    ⟨none, some 7, .call { callee := (.value (.func 270)), args := #[(.tmp 6), (.const (.int .i64 15))], argTypes := #[75, 3] }⟩,
    ⟨none, some 8, .unOp .not 4 (.tmp 7)⟩])
   (.cond (.tmp 8) (.seq (.reg [⟨none, some 2, .assign (.const (.bool false))⟩])
     (.ret))
    (.skip)))
  (.seq (.reg [⟨none, some 3, .assign (.const (.int .i64 0))⟩])
   (.seq (.seq (.reg [⟨none, some 9, .move (.tmp 0)⟩,
      ⟨none, some 10, .call { callee := (.builtin .len), args := #[(.tmp 9)], argTypes := #[75] }⟩,
      ⟨none, some 11, .move (.const (.int .i64 0))⟩])
     (.block 0 (.loop (.seq (.reg [⟨none, some 12, .binOp .lss 3 (.tmp 11) (.tmp 10) 3⟩])
        (.seq (.cond (.tmp 12) (.skip)
          (.exit 0))
         (.seq (.block 1 (.seq (.reg [⟨none, some 13, .indexAddr 75 (.tmp 9) (.tmp 11)⟩,
             ⟨none, some 14, .load 3 (.tmp 13)⟩,
             ⟨none, some 5, .assign (.tmp 14)⟩])
            (.seq (.reg [⟨none, some 15, .move (.tmp 5)⟩,
              ⟨none, some 16, .binOp .gtr 3 (.tmp 15) (.const (.int .i64 0)) 3⟩])
             (.cond (.tmp 16) (.reg [⟨none, some 17, .move (.tmp 3)⟩,
               ⟨none, some 18, .move (.tmp 5)⟩,
               ⟨none, some 19, .binOp .sub 3 (.const (.int .i64 15)) (.tmp 18) 3⟩,
               ⟨none, some 20, .binOp .shl 3 (.const (.int .i64 1)) (.tmp 19) 3⟩,
               ⟨none, some 21, .binOp .add 3 (.tmp 17) (.tmp 20) 3⟩,
               ⟨none, some 3, .assign (.tmp 21)⟩])
              (.skip)))))
          (.reg [⟨none, some 22, .binOp .add 3 (.tmp 11) (.const (.int .i64 1)) 3⟩,
           ⟨none, some 11, .move (.tmp 22)⟩])))))))
    (.seq (.reg [⟨none, some 23, .move (.tmp 3)⟩,
      ⟨none, some 24, .binOp .eql 3 (.tmp 23) (.const (.int .i64 32768)) 3⟩,
      ⟨none, some 2, .assign (.tmp 24)⟩])
     (.ret)))))
theorem com307 : com Tryz.prog 25 ((Tryz.f307.body).getD .skip) = g307 := by kernel_rfl
theorem enter307 {args : List Value} {h : Heap} {R : Value → Heap → Prop} (hN : args.length ≤ 25) (q : AWC Tryz.prog 25 g307 (RetQ Tryz.prog [.tmp 2] R) (frOf args) h) : ACall Tryz.prog 307 args h R :=
  C_call Tryz.func307 (by kernel_rfl) com307 (by kernel_rfl) (by kernel_rfl) hN q

/-- bindle/canon.single -/
noncomputable def g308 : AC :=
 .seq (.reg [⟨none, some 2, .assign (.const (.bool false))⟩])
 (.seq (.reg [⟨none, some 3, .assign (.const (.int .i64 0))⟩])
  (.seq (.seq (.reg [⟨none, some 6, .move (.tmp 0)⟩,
     ⟨none, some 7, .call { callee := (.builtin .len), args := #[(.tmp 6)], argTypes := #[75] }⟩,
     ⟨none, some 8, .move (.const (.int .i64 0))⟩])
    (.block 0 (.loop (.seq (.reg [⟨none, some 9, .binOp .lss 3 (.tmp 8) (.tmp 7) 3⟩])
       (.seq (.cond (.tmp 9) (.skip)
         (.exit 0))
        (.seq (.block 1 (.seq (.reg [⟨none, some 10, .indexAddr 75 (.tmp 6) (.tmp 8)⟩,
            ⟨none, some 11, .load 3 (.tmp 10)⟩,
            ⟨none, some 5, .assign (.tmp 11)⟩])
           (.reg [⟨none, some 12, .move (.tmp 3)⟩,
            ⟨none, some 13, .move (.tmp 5)⟩,
            ⟨none, some 14, .binOp .add 3 (.tmp 12) (.tmp 13) 3⟩,
            ⟨none, some 3, .assign (.tmp 14)⟩])))
         (.reg [⟨none, some 15, .binOp .add 3 (.tmp 8) (.const (.int .i64 1)) 3⟩,
          ⟨none, some 8, .move (.tmp 15)⟩])))))))
   (.seq (.reg [⟨none, some 16, .move (.tmp 3)⟩,
     ⟨none, some 17, .binOp .eql 3 (.tmp 16) (.const (.int .i64 1)) 3⟩,
     ⟨none, some 2, .assign (.tmp 17)⟩])
    (.ret))))
theorem com308 : com Tryz.prog 18 ((Tryz.f308.body).getD .skip) = g308 := by kernel_rfl
theorem enter308 {args : List Value} {h : Heap} {R : Value → Heap → Prop} (hN : args.length ≤ 18) (q : AWC Tryz.prog 18 g308 (RetQ Tryz.prog [.tmp 2] R) (frOf args) h) : ACall Tryz.prog 308 args h R :=
  C_call Tryz.func308 (by kernel_rfl) com308 (by kernel_rfl) (by kernel_rfl) hN q

/-- bindle/runs.right$1 -/
noncomputable def g309 : AC :=
 .seq (.reg [⟨none, some 2, .assign (.const (.bool false))⟩])
 (.seq (.reg [⟨none, some 3, .move (.tmp 0)⟩,
   ⟨none, some 4, .binOp .lss 3 (.tmp 3) (.const (.int .i64 0)) 3⟩,
   ⟨none, some 5, .move (.tmp 4)⟩,
   ⟨some (some 5, false), some 6, .move (.tmp 0)⟩,
   ⟨some (some 5, false), some 7, .binOp .gtr 3 (.tmp 6) (.const (.int .i64 15)) 3⟩,
   ⟨none, some 8, .pick (.tmp 5) (.const (.bool true)) (.tmp 7)⟩,
   ⟨none, some 2, .assign (.tmp 8)⟩])
  (.ret))
theorem com309 : com Tryz.prog 9 ((Tryz.f309.body).getD .skip) = g309 := by kernel_rfl
theorem enter309 {args : List Value} {h : Heap} {R : Value → Heap → Prop} (hN : args.length ≤ 9) (q : AWC Tryz.prog 9 g309 (RetQ Tryz.prog [.tmp 2] R) (frOf args) h) : ACall Tryz.prog 309 args h R :=
  C_call Tryz.func309 (by kernel_rfl) com309 (by kernel_rfl) (by kernel_rfl) hN q

/-- bindle/runs.parts$1 -/
noncomputable def g310 : AC :=
 .seq (.reg [⟨none, some 3, .assign (.const (.int .i64 0))⟩])
 (.block 0 (.loop (.seq (.seq (.reg [⟨none, some 5, .move (.tmp 3)⟩,
      ⟨none, some 6, .load 75 (.tmp 1)⟩,
      ⟨none, some 7, .call { callee := (.builtin .len), args := #[(.tmp 6)], argTypes := #[75] }⟩,
      ⟨none, some 8, .binOp .lss 3 (.tmp 5) (.tmp 7) 3⟩])
     (.cond (.tmp 8) (.skip)
      (.exit 0)))
    (.block 1 (.seq (.reg [⟨none, some 9, .load 75 (.tmp 1)⟩,
       ⟨none, some 10, .move (.tmp 3)⟩,
       ⟨none, some 11, .call { callee := (.value (.func 311)), args := #[(.tmp 9), (.tmp 10)], argTypes := #[75, 3] }⟩,
       ⟨none, some 4, .alloc 383⟩,
       ⟨none, none, .store 383 (.tmp 4) (.tmp 11)⟩])
      (.seq (.seq (.reg [⟨none, some 12, .move (.tmp 0)⟩,
         ⟨none, some 13, .load 383 (.tmp 4)⟩,
         ⟨none, some 14, .call { callee := (.value (.tmp 12)), args := #[(.tmp 13)], argTypes := #[383] }⟩,
         ⟨none, some 15, .unOp .not 4 (.tmp 14)⟩])
        (.cond (.tmp 15) (.ret)
         (.skip)))
       (.reg [⟨none, some 16, .move (.tmp 3)⟩,
        ⟨none, some 17, .fieldAddr 383 (.tmp 4) 1⟩,
        ⟨none, some 18, .load 3 (.tmp 17)⟩,
        ⟨none, some 19, .binOp .add 3 (.tmp 16) (.tmp 18) 3⟩,
        ⟨none, some 3, .assign (.tmp 19)⟩])))))))
theorem com310 : com Tryz.prog 20 ((Tryz.f310.body).getD .skip) = g310 := by kernel_rfl
theorem enter310 {args : List Value} {h : Heap} {R : Value → Heap → Prop} (hN : args.length ≤ 20) (q : AWC Tryz.prog 20 g310 (RetQ Tryz.prog [] R) (frOf args) h) : ACall Tryz.prog 310 args h R :=
  C_call Tryz.func310 (by kernel_rfl) com310 (by kernel_rfl) (by kernel_rfl) hN q

/-- bindle/runs.part -/
noncomputable def g311 : AC :=
 .seq (.reg [⟨none, some 4, .alloc 383⟩])
 (.seq (.reg [⟨none, some 6, .move (.tmp 0)⟩,
   ⟨none, some 7, .move (.tmp 1)⟩,
   ⟨none, some 8, .call { callee := (.value (.func 325)), args := #[(.tmp 6), (.tmp 7)], argTypes := #[75, 3] }⟩,
   ⟨none, some 5, .assign (.tmp 8)⟩])
  (.seq (.block 0 (.seq (.reg [⟨none, some 10, .move (.tmp 0)⟩,
      ⟨none, some 11, .move (.tmp 1)⟩,
      ⟨none, some 12, .indexAddr 75 (.tmp 10) (.tmp 11)⟩,
      ⟨none, some 13, .load 3 (.tmp 12)⟩,
      ⟨none, some 14, .binOp .eql 3 (.tmp 13) (.const (.int .i64 0)) 3⟩,
      ⟨none, some 15, .move (.tmp 14)⟩,
      ⟨some (some 15, true), some 16, .move (.tmp 5)⟩,
      ⟨some (some 15, true), some 17, .binOp .geq 3 (.tmp 16) (.const (.int .i64 11)) 3⟩,
      ⟨none, some 18, .pick (.tmp 15) (.tmp 17) (.const (.bool false))⟩,
      ⟨none, some 9, .assign (.tmp 18)⟩])
     (.cond (.tmp 9) (.seq (.reg [⟨none, some 19, .move (.tmp 5)⟩,
        ⟨none, some 20, .call { callee := (.builtin .min), args := #[(.tmp 19), (.const (.int .i64 138))], argTypes := #[3, 3] }⟩,
        ⟨none, some 21, .build 383 #[(0, (.const (.int .i64 18))), (1, (.tmp 20))]⟩,
        ⟨none, none, .store 383 (.tmp 4) (.tmp 21)⟩])
       (.ret))
      (.seq (.reg [⟨none, some 23, .move (.tmp 0)⟩,
        ⟨none, some 24, .move (.tmp 1)⟩,
        ⟨none, some 25, .indexAddr 75 (.tmp 23) (.tmp 24)⟩,
        ⟨none, some 26, .load 3 (.tmp 25)⟩,
        ⟨none, some 27, .binOp .eql 3 (.tmp 26) (.const (.int .i64 0)) 3⟩,
        ⟨none, some 28, .move (.tmp 27)⟩,
        ⟨some (some 28, true), some 29, .move (.tmp 5)⟩,
        ⟨some (some 28, true), some 30, .binOp .geq 3 (.tmp 29) (.const (.int .i64 3)) 3⟩,
        ⟨none, some 31, .pick (.tmp 28) (.tmp 30) (.const (.bool false))⟩,
        ⟨none, some 22, .assign (.tmp 31)⟩])
       (.cond (.tmp 22) (.seq (.reg [⟨none, some 32, .move (.tmp 5)⟩,
          ⟨none, some 33, .build 383 #[(0, (.const (.int .i64 17))), (1, (.tmp 32))]⟩,
          ⟨none, none, .store 383 (.tmp 4) (.tmp 33)⟩])
         (.ret))
        (.seq (.reg [⟨none, some 35, .move (.tmp 1)⟩,
          ⟨none, some 36, .binOp .gtr 3 (.tmp 35) (.const (.int .i64 0)) 3⟩,
          ⟨none, some 37, .move (.tmp 36)⟩,
          ⟨some (some 37, true), some 38, .move (.tmp 0)⟩,
          ⟨some (some 37, true), some 39, .move (.tmp 1)⟩,
          ⟨some (some 37, true), some 40, .indexAddr 75 (.tmp 38) (.tmp 39)⟩,
          ⟨some (some 37, true), some 41, .load 3 (.tmp 40)⟩,
          ⟨some (some 37, true), some 42, .move (.tmp 0)⟩,
          ⟨some (some 37, true), some 43, .move (.tmp 1)⟩,
          ⟨some (some 37, true), some 44, .binOp .sub 3 (.tmp 43) (.const (.int .i64 1)) 3⟩,
          ⟨some (some 37, true), some 45, .indexAddr 75 (.tmp 42) (.tmp 44)⟩,
          ⟨some (some 37, true), some 46, .load 3 (.tmp 45)⟩,
          ⟨some (some 37, true), some 47, .binOp .eql 3 (.tmp 41) (.tmp 46) 3⟩,
          ⟨none, some 48, .pick (.tmp 37) (.tmp 47) (.const (.bool false))⟩,
          ⟨none, some 49, .move (.tmp 48)⟩,
          ⟨some (some 49, true), some 50, .move (.tmp 5)⟩,
          ⟨some (some 49, true), some 51, .binOp .geq 3 (.tmp 50) (.const (.int .i64 3)) 3⟩,
          ⟨none, some 52, .pick (.tmp 49) (.tmp 51) (.const (.bool false))⟩,
          ⟨none, some 34, .assign (.tmp 52)⟩])
         (.cond (.tmp 34) (.seq (.reg [⟨none, some 53, .move (.tmp 5)⟩,
            ⟨none, some 54, .call { callee := (.builtin .min), args := #[(.tmp 53), (.const (.int .i64 6))], argTypes := #[3, 3] }⟩,
            ⟨none, some 55, .build 383 #[(0, (.const (.int .i64 16))), (1, (.tmp 54))]⟩,
            ⟨none, none, .store 383 (.tmp 4) (.tmp 55)⟩])
           (.ret))
          (.skip))))))))
   (.seq (.reg [⟨none, some 56, .move (.tmp 0)⟩,
     ⟨none, some 57, .move (.tmp 1)⟩,
     ⟨none, some 58, .indexAddr 75 (.tmp 56) (.tmp 57)⟩,
     ⟨none, some 59, .load 3 (.tmp 58)⟩,
     ⟨none, some 60, .build 383 #[(0, (.tmp 59)), (1, (.const (.int .i64 1)))]⟩,
     ⟨none, none, .store 383 (.tmp 4) (.tmp 60)⟩])
    (.ret))))
theorem com311 : com Tryz.prog 61 ((Tryz.f311.body).getD .skip) = g311 := by kernel_rfl
theorem enter311 {args : List Value} {h : Heap} {R : Value → Heap → Prop} (hN : args.length ≤ 61) (q : AWC Tryz.prog 61 g311 (RetQ Tryz.prog [.cell 4 383] R) (frOf args) h) : ACall Tryz.prog 311 args h R :=
  C_call Tryz.func311 (by kernel_rfl) com311 (by kernel_rfl) (by kernel_rfl) hN q

/-- ( *bindle/match.Finder).chain -/
noncomputable def g312 : AC :=
 .seq (.reg [⟨none, some 2, .box 342 (.tmp 0)⟩,
  ⟨none, some 3, .box 3 (.tmp 1)⟩,
  ⟨none, some 4, .assign (.const .nilFunc)⟩])
 (.seq (.reg [⟨none, some 5, .makeFunc (.func 326) #[] #[(.tmp 2), (.tmp 3)]⟩,
   ⟨none, some 4, .assign (.tmp 5)⟩])
  (.ret))
theorem com312 : com Tryz.prog 6 ((Tryz.f312.body).getD .skip) = g312 := by kernel_rfl
theorem enter312 {args : List Value} {h : Heap} {R : Value → Heap → Prop} (hN : args.length ≤ 6) (q : AWC Tryz.prog 6 g312 (RetQ Tryz.prog [.tmp 4] R) (frOf args) h) : ACall Tryz.prog 312 args h R :=
  C_call Tryz.func312 (by kernel_rfl) com312 (by kernel_rfl) (by kernel_rfl) hN q

/-- slices.IndexFunc[[]int,int] -/
noncomputable def g322 : AC :=
 .seq (.reg [⟨none, some 4, .assign (.const (.int .i64 0))⟩])
 (.seq (.seq (.reg [⟨none, some 6, .move (.tmp 0)⟩,
    ⟨none, some 7, .call { callee := (.builtin .len), args := #[(.tmp 6)], argTypes := #[75] }⟩,
    ⟨none, some 8, .move (.const (.int .i64 0))⟩])
   (.block 0 (.loop (.seq (.reg [⟨none, some 9, .binOp .lss 3 (.tmp 8) (.tmp 7) 3⟩])
      (.seq (.cond (.tmp 9) (.skip)
        (.exit 0))
       (.seq (.block 1 (.seq (.reg [⟨none, some 10, .move (.tmp 8)⟩,
           ⟨none, some 5, .assign (.tmp 10)⟩])
          (.seq (.reg [⟨none, some 11, .move (.tmp 1)⟩,
            ⟨none, some 12, .move (.tmp 0)⟩,
            ⟨none, some 13, .move (.tmp 5)⟩,
            ⟨none, some 14, .indexAddr 75 (.tmp 12) (.tmp 13)⟩,
            ⟨none, some 15, .load 3 (.tmp 14)⟩,
            ⟨none, some 16, .call { callee := (.value (.tmp 11)), args := #[(.tmp 15)], argTypes := #[3] }⟩])
           (.cond (.tmp 16) (.seq (.reg [⟨none, some 17, .move (.tmp 5)⟩,
              ⟨none, some 4, .assign (.tmp 17)⟩])
             (.ret))
            (.skip)))))
        (.reg [⟨none, some 18, .binOp .add 3 (.tmp 8) (.const (.int .i64 1)) 3⟩,
         ⟨none, some 8, .move (.tmp 18)⟩])))))))
  (.seq (.reg [⟨none, some 4, .assign (.const (.int .i64 (-1)))⟩])
   (.ret)))
theorem com322 : com Tryz.prog 19 ((Tryz.f322.body).getD .skip) = g322 := by kernel_rfl
theorem enter322 {args : List Value} {h : Heap} {R : Value → Heap → Prop} (hN : args.length ≤ 19) (q : AWC Tryz.prog 19 g322 (RetQ Tryz.prog [.tmp 4] R) (frOf args) h) : ACall Tryz.prog 322 args h R :=
  C_call Tryz.func322 (by kernel_rfl) com322 (by kernel_rfl) (by kernel_rfl) hN q

/-- slices.stableCmpFunc[int] -/
noncomputable def g323 : AC :=
 .seq (.reg [⟨none, some 6, .assign (.const (.int .i64 20))⟩])
 (.seq (.reg [⟨none, some 10, .move (.tmp 6)⟩,
   ⟨none, some 7, .assign (.const (.int .i64 0))⟩,
   ⟨none, some 8, .assign (.tmp 10)⟩])
  (.seq (.block 0 (.loop (.seq (.seq (.reg [⟨none, some 11, .move (.tmp 8)⟩,
        ⟨none, some 12, .move (.tmp 1)⟩,
        ⟨none, some 13, .binOp .leq 3 (.tmp 11) (.tmp 12) 3⟩])
       (.cond (.tmp 13) (.skip)
        (.exit 0)))
      (.block 1 (.seq (.reg [⟨none, some 14, .move (.tmp 0)⟩,
         ⟨none, some 15, .move (.tmp 7)⟩,
         ⟨none, some 16, .move (.tmp 8)⟩,
         ⟨none, some 17, .move (.tmp 2)⟩,
         ⟨none, some 18, .call { callee := (.value (.func 330)), args := #[(.tmp 14), (.tmp 15), (.tmp 16), (.tmp 17)], argTypes := #[75, 3, 3, 402] }⟩])
        (.seq (.reg [⟨none, some 19, .move (.tmp 8)⟩,
          ⟨none, some 7, .assign (.tmp 19)⟩])
         (.reg [⟨none, some 20, .move (.tmp 8)⟩,
          ⟨none, some 21, .move (.tmp 6)⟩,
          ⟨none, some 22, .binOp .add 3 (.tmp 20) (.tmp 21) 3⟩,
          ⟨none, some 8, .assign (.tmp 22)⟩])))))))
   (.seq (.reg [⟨none, some 23, .move (.tmp 0)⟩,
     ⟨none, some 24, .move (.tmp 7)⟩,
     ⟨none, some 25, .move (.tmp 1)⟩,
     ⟨none, some 26, .move (.tmp 2)⟩,
     ⟨none, some 27, .call { callee := (.value (.func 330)), args := #[(.tmp 23), (.tmp 24), (.tmp 25), (.tmp 26)], argTypes := #[75, 3, 3, 402] }⟩])
    (.block 2 (.loop (.seq (.seq (.reg [⟨none, some 28, .move (.tmp 6)⟩,
         ⟨none, some 29, .move (.tmp 1)⟩,
         ⟨none, some 30, .binOp .lss 3 (.tmp 28) (.tmp 29) 3⟩])
        (.cond (.tmp 30) (.skip)
         (.exit 2)))
       (.block 3 (.seq (.reg [⟨none, some 31, .move (.tmp 6)⟩,
          ⟨none, some 32, .binOp .mul 3 (.const (.int .i64 2)) (.tmp 31) 3⟩,
          ⟨none, some 7, .assign (.const (.int .i64 0))⟩,
          ⟨none, some 8, .assign (.tmp 32)⟩])
         (.seq (.block 4 (.loop (.seq (.seq (.reg [⟨none, some 33, .move (.tmp 8)⟩,
               ⟨none, some 34, .move (.tmp 1)⟩,
               ⟨none, some 35, .binOp .leq 3 (.tmp 33) (.tmp 34) 3⟩])
              (.cond (.tmp 35) (.skip)
               (.exit 4)))
             (.block 5 (.seq (.reg [⟨none, some 36, .move (.tmp 0)⟩,
                ⟨none, some 37, .move (.tmp 7)⟩,
                ⟨none, some 38, .move (.tmp 7)⟩,
                ⟨none, some 39, .move (.tmp 6)⟩,
                ⟨none, some 40, .binOp .add 3 (.tmp 38) (.tmp 39) 3⟩,
                ⟨none, some 41, .move (.tmp 8)⟩,
                ⟨none, some 42, .move (.tmp 2)⟩,
                ⟨none, some 43, .call { callee := (.value (.func 331)), args := #[(.tmp 36), (.tmp 37), (.tmp 40), (.tmp 41), (.tmp 42)], argTypes := #[75, 3, 3, 3, 402] }⟩])
               (.seq (.reg [⟨none, some 44, .move (.tmp 8)⟩,
                 ⟨none, some 7, .assign (.tmp 44)⟩])
                (.reg [⟨none, some 45, .move (.tmp 8)⟩,
                 ⟨none, some 46, .move (.tmp 6)⟩,
                 ⟨none, some 47, .binOp .mul 3 (.const (.int .i64 2)) (.tmp 46) 3⟩,
                 ⟨none, some 48, .binOp .add 3 (.tmp 45) (.tmp 47) 3⟩,
                 ⟨none, some 8, .assign (.tmp 48)⟩])))))))
          (.seq (.seq (.reg [⟨none, some 49, .move (.tmp 7)⟩,
             ⟨none, some 50, .move (.tmp 6)⟩,
             ⟨none, some 51, .binOp .add 3 (.tmp 49) (.tmp 50) 3⟩,
             ⟨none, some 9, .assign (.tmp 51)⟩])
            (.seq (.reg [⟨none, some 52, .move (.tmp 9)⟩,
              ⟨none, some 53, .move (.tmp 1)⟩,
              ⟨none, some 54, .binOp .lss 3 (.tmp 52) (.tmp 53) 3⟩])
             (.cond (.tmp 54) (.reg [⟨none, some 55, .move (.tmp 0)⟩,
               ⟨none, some 56, .move (.tmp 7)⟩,
               ⟨none, some 57, .move (.tmp 9)⟩,
               ⟨none, some 58, .move (.tmp 1)⟩,
               ⟨none, some 59, .move (.tmp 2)⟩,
               ⟨none, some 60, .call { callee := (.value (.func 331)), args := #[(.tmp 55), (.tmp 56), (.tmp 57), (.tmp 58), (.tmp 59)], argTypes := #[75, 3, 3, 3, 402] }⟩])
              (.skip))))
           (.reg [⟨none, some 61, .move (.tmp 6)⟩,
            ⟨none, some 62, .binOp .mul 3 (.tmp 61) (.const (.int .i64 2)) 3⟩,
            ⟨none, some 6, .assign (.tmp 62)⟩])))))))))))
theorem com323 : com Tryz.prog 63 ((Tryz.f323.body).getD .skip) = g323 := by kernel_rfl
theorem enter323 {args : List Value} {h : Heap} {R : Value → Heap → Prop} (hN : args.length ≤ 63) (q : AWC Tryz.prog 63 g323 (RetQ Tryz.prog [] R) (frOf args) h) : ACall Tryz.prog 323 args h R :=
  C_call Tryz.func323 (by kernel_rfl) com323 (by kernel_rfl) (by kernel_rfl) hN q

/-- cmp.isNaN[int] -/
noncomputable def g324 : AC :=
 .seq (.reg [⟨none, some 2, .assign (.const (.bool false))⟩])
 (.seq (.reg [⟨none, some 3, .move (.tmp 0)⟩,
   ⟨none, some 4, .move (.tmp 0)⟩,
   ⟨none, some 5, .binOp .neq 3 (.tmp 3) (.tmp 4) 3⟩,
   ⟨none, some 2, .assign (.tmp 5)⟩])
  (.ret))
theorem com324 : com Tryz.prog 6 ((Tryz.f324.body).getD .skip) = g324 := by kernel_rfl
theorem enter324 {args : List Value} {h : Heap} {R : Value → Heap → Prop} (hN : args.length ≤ 6) (q : AWC Tryz.prog 6 g324 (RetQ Tryz.prog [.tmp 2] R) (frOf args) h) : ACall Tryz.prog 324 args h R :=
  C_call Tryz.func324 (by kernel_rfl) com324 (by kernel_rfl) (by kernel_rfl) hN q

/-- bindle/runs.row -/
noncomputable def g325 : AC :=
 .seq (.reg [⟨none, some 4, .assign (.const (.int .i64 0))⟩])
 (.seq (.reg [⟨none, some 5, .assign (.const (.int .i64 0))⟩])
  (.seq (.block 0 (.loop (.seq (.seq (.reg [⟨none, some 6, .move (.tmp 1)⟩,
        ⟨none, some 7, .move (.tmp 5)⟩,
        ⟨none, some 8, .binOp .add 3 (.tmp 6) (.tmp 7) 3⟩,
        ⟨none, some 9, .move (.tmp 0)⟩,
        ⟨none, some 10, .call { callee := (.builtin .len), args := #[(.tmp 9)], argTypes := #[75] }⟩,
        ⟨none, some 11, .binOp .lss 3 (.tmp 8) (.tmp 10) 3⟩,
        ⟨none, some 12, .move (.tmp 11)⟩,
        ⟨some (some 12, true), some 13, .move (.tmp 0)⟩,
        ⟨some (some 12, true), some 14, .move (.tmp 1)⟩,
        ⟨some (some 12, true), some 15, .move (.tmp 5)⟩,
        ⟨some (some 12, true), some 16, .binOp .add 3 (.tmp 14) (.tmp 15) 3⟩,
        ⟨some (some 12, true), some 17, .indexAddr 75 (.tmp 13) (.tmp 16)⟩,
        ⟨some (some 12, true), some 18, .load 3 (.tmp 17)⟩,
        ⟨some (some 12, true), some 19, .move (.tmp 0)⟩,
        ⟨some (some 12, true), some 20, .move (.tmp 1)⟩,
        ⟨some (some 12, true), some 21, .indexAddr 75 (.tmp 19) (.tmp 20)⟩,
        ⟨some (some 12, true), some 22, .load 3 (.tmp 21)⟩,
        ⟨some (some 12, true), some 23, .binOp .eql 3 (.tmp 18) (.tmp 22) 3⟩,
        ⟨none, some 24, .pick (.tmp 12) (.tmp 23) (.const (.bool false))⟩])
       (.cond (.tmp 24) (.skip)
        (.exit 0)))
      (.block 1 (.reg [⟨none, some 25, .move (.tmp 5)⟩,
        ⟨none, some 26, .binOp .add 3 (.tmp 25) (.const (.int .i64 1)) 3⟩,
        ⟨none, some 5, .assign (.tmp 26)⟩])))))
   (.seq (.reg [⟨none, some 27, .move (.tmp 5)⟩,
     ⟨none, some 4, .assign (.tmp 27)⟩])
    (.ret))))
theorem com325 : com Tryz.prog 28 ((Tryz.f325.body).getD .skip) = g325 := by kernel_rfl
theorem enter325 {args : List Value} {h : Heap} {R : Value → Heap → Prop} (hN : args.length ≤ 28) (q : AWC Tryz.prog 28 g325 (RetQ Tryz.prog [.tmp 4] R) (frOf args) h) : ACall Tryz.prog 325 args h R :=
  C_call Tryz.func325 (by kernel_rfl) com325 (by kernel_rfl) (by kernel_rfl) hN q

/-- ( *bindle/match.Finder).chain$1 -/
noncomputable def g326 : AC :=
 .seq (.seq (.reg [⟨none, some 5, .load 342 (.tmp 1)⟩,
   ⟨none, some 6, .load 3 (.tmp 2)⟩,
   ⟨none, some 7, .call { callee := (.value (.func 327)), args := #[(.tmp 5), (.tmp 6)], argTypes := #[342, 3] }⟩,
   ⟨none, some 8, .unOp .not 4 (.tmp 7)⟩])
  (.cond (.tmp 8) (.ret)
   (.skip)))
 (.seq (.reg [⟨none, some 9, .load 342 (.tmp 1)⟩,
   ⟨none, some 10, .load 3 (.tmp 2)⟩,
   ⟨none, some 11, .call { callee := (.value (.func 328)), args := #[(.tmp 9), (.tmp 10)], argTypes := #[342, 3] }⟩])
  (.seq (.reg [⟨none, some 12, .load 342 (.tmp 1)⟩,
    ⟨none, some 13, .nilCheck (.tmp 12)⟩,
    ⟨none, some 14, .fieldAddr 388 (.tmp 13) 2⟩,
    ⟨none, some 15, .load 75 (.tmp 14)⟩,
    ⟨none, some 16, .load 3 (.tmp 2)⟩,
    ⟨none, some 17, .indexAddr 75 (.tmp 15) (.tmp 16)⟩,
    ⟨none, some 18, .load 3 (.tmp 17)⟩,
    ⟨none, some 4, .assign (.tmp 18)⟩])
   (.block 0 (.loop (.seq (.seq (.reg [⟨none, some 19, .move (.tmp 4)⟩,
        ⟨none, some 20, .binOp .geq 3 (.tmp 19) (.const (.int .i64 0)) 3⟩,
        ⟨none, some 21, .move (.tmp 20)⟩,
        ⟨some (some 21, true), some 22, .load 3 (.tmp 2)⟩,
        ⟨some (some 21, true), some 23, .move (.tmp 4)⟩,
        ⟨some (some 21, true), some 24, .binOp .sub 3 (.tmp 22) (.tmp 23) 3⟩,
        ⟨some (some 21, true), some 25, .binOp .leq 3 (.tmp 24) (.const (.int .i64 32768)) 3⟩,
        ⟨none, some 26, .pick (.tmp 21) (.tmp 25) (.const (.bool false))⟩])
       (.cond (.tmp 26) (.skip)
        (.exit 0)))
      (.seq (.block 1 (.seq (.reg [⟨none, some 34, .move (.tmp 0)⟩,
          ⟨none, some 35, .load 3 (.tmp 2)⟩,
          ⟨none, some 36, .move (.tmp 4)⟩,
          ⟨none, some 37, .binOp .sub 3 (.tmp 35) (.tmp 36) 3⟩,
          ⟨none, some 38, .call { callee := (.value (.tmp 34)), args := #[(.tmp 37)], argTypes := #[3] }⟩,
          ⟨none, some 39, .unOp .not 4 (.tmp 38)⟩])
         (.cond (.tmp 39) (.ret)
          (.skip))))
       (.reg [⟨none, some 27, .load 342 (.tmp 1)⟩,
        ⟨none, some 28, .nilCheck (.tmp 27)⟩,
        ⟨none, some 29, .fieldAddr 388 (.tmp 28) 2⟩,
        ⟨none, some 30, .load 75 (.tmp 29)⟩,
        ⟨none, some 31, .move (.tmp 4)⟩,
        ⟨none, some 32, .indexAddr 75 (.tmp 30) (.tmp 31)⟩,
        ⟨none, some 33, .load 3 (.tmp 32)⟩,
        ⟨none, some 4, .assign (.tmp 33)⟩])))))))
theorem com326 : com Tryz.prog 40 ((Tryz.f326.body).getD .skip) = g326 := by kernel_rfl
theorem enter326 {args : List Value} {h : Heap} {R : Value → Heap → Prop} (hN : args.length ≤ 40) (q : AWC Tryz.prog 40 g326 (RetQ Tryz.prog [] R) (frOf args) h) : ACall Tryz.prog 326 args h R :=
  C_call Tryz.func326 (by kernel_rfl) com326 (by kernel_rfl) (by kernel_rfl) hN q

/-- ( *bindle/match.Finder).whole -/
noncomputable def g327 : AC :=
 .seq (.reg [⟨none, some 4, .assign (.const (.bool false))⟩])
 (.seq (.reg [⟨none, some 5, .move (.tmp 1)⟩,
   ⟨none, some 6, .binOp .geq 3 (.tmp 5) (.const (.int .i64 0)) 3⟩,
   ⟨none, some 7, .move (.tmp 6)⟩,
   ⟨some (some 7, true), some 8, .move (.tmp 1)⟩,
   ⟨some (some 7, true), some 9, .move (.tmp 0)⟩,
   ⟨some (some 7, true), some 10, .nilCheck (.tmp 9)⟩,
   ⟨some (some 7, true), some 11, .fieldAddr 388 (.tmp 10) 0⟩,
   ⟨some (some 7, true), some 12, .load 22 (.tmp 11)⟩,
   ⟨some (some 7, true), some 13, .call { callee := (.builtin .len), args := #[(.tmp 12)], argTypes := #[22] }⟩,
   ⟨some (some 7, true), some 14, .binOp .sub 3 (.tmp 13) (.const (.int .i64 3)) 3⟩,
   ⟨some (some 7, true), some 15, .binOp .leq 3 (.tmp 8) (.tmp 14) 3⟩,
   ⟨none, some 16, .pick (.tmp 7) (.tmp 15) (.const (.bool false))⟩,
   ⟨none, some 4, .assign (.tmp 16)⟩])
  (.ret))
theorem com327 : com Tryz.prog 17 ((Tryz.f327.body).getD .skip) = g327 := by kernel_rfl
theorem enter327 {args : List Value} {h : Heap} {R : Value → Heap → Prop} (hN : args.length ≤ 17) (q : AWC Tryz.prog 17 g327 (RetQ Tryz.prog [.tmp 4] R) (frOf args) h) : ACall Tryz.prog 327 args h R :=
  C_call Tryz.func327 (by kernel_rfl) com327 (by kernel_rfl) (by kernel_rfl) hN q

/-- ( *bindle/match.Finder).learn -/
noncomputable def g328 : AC :=
 .block 0 (.loop (.seq (.seq (.reg [⟨none, some 7, .move (.tmp 0)⟩,
     ⟨none, some 8, .nilCheck (.tmp 7)⟩,
     ⟨none, some 9, .fieldAddr 388 (.tmp 8) 3⟩,
     ⟨none, some 10, .load 3 (.tmp 9)⟩,
     ⟨none, some 11, .move (.tmp 1)⟩,
     ⟨none, some 12, .binOp .leq 3 (.tmp 10) (.tmp 11) 3⟩])
    (.cond (.tmp 12) (.skip)
     (.exit 0)))
   (.seq (.block 1 (.seq (.reg [⟨none, some 20, .move (.tmp 0)⟩,
       ⟨none, some 21, .nilCheck (.tmp 20)⟩,
       ⟨none, some 22, .fieldAddr 388 (.tmp 21) 0⟩,
       ⟨none, some 23, .load 22 (.tmp 22)⟩,
       ⟨none, some 24, .move (.tmp 0)⟩,
       ⟨none, some 25, .nilCheck (.tmp 24)⟩,
       ⟨none, some 26, .fieldAddr 388 (.tmp 25) 3⟩,
       ⟨none, some 27, .load 3 (.tmp 26)⟩,
       ⟨none, some 28, .call { callee := (.value (.func 332)), args := #[(.tmp 23), (.tmp 27)], argTypes := #[22, 3] }⟩,
       ⟨none, some 4, .assign (.tmp 28)⟩])
      (.seq (.reg [⟨none, some 30, .move (.tmp 0)⟩,
        ⟨none, some 31, .nilCheck (.tmp 30)⟩,
        ⟨none, some 32, .fieldAddr 388 (.tmp 31) 1⟩,
        ⟨none, some 33, .load 386 (.tmp 32)⟩,
        ⟨none, some 34, .move (.tmp 4)⟩,
        ⟨none, some 35, .lookup 386 (.tmp 33) (.tmp 34) true⟩,
        ⟨none, some 29, .move (.tmp 35)⟩,
        ⟨none, some 36, .extract (.tmp 29) 0⟩,
        ⟨none, some 37, .extract (.tmp 29) 1⟩,
        ⟨none, some 5, .assign (.tmp 36)⟩,
        ⟨none, some 6, .assign (.tmp 37)⟩])
       (.seq (.seq (.reg [⟨none, some 38, .move (.tmp 6)⟩,
          ⟨none, some 39, .unOp .not 4 (.tmp 38)⟩])
         (.cond (.tmp 39) (.reg [⟨none, some 5, .assign (.const (.int .i64 (-1)))⟩])
          (.skip)))
        (.seq (.reg [⟨none, some 40, .move (.tmp 0)⟩,
          ⟨none, some 41, .move (.tmp 0)⟩,
          ⟨none, some 42, .nilCheck (.tmp 41)⟩,
          ⟨none, some 43, .fieldAddr 388 (.tmp 42) 2⟩,
          ⟨none, some 44, .load 75 (.tmp 43)⟩,
          ⟨none, some 45, .move (.tmp 5)⟩,
          ⟨none, some 46, .buildSlice 75 1 #[(0, (.tmp 45))]⟩,
          ⟨none, some 47, .call { callee := (.builtin .append), args := #[(.tmp 44), (.tmp 46)], argTypes := #[75, 75] }⟩,
          ⟨none, some 48, .nilCheck (.tmp 40)⟩,
          ⟨none, some 49, .fieldAddr 388 (.tmp 48) 2⟩,
          ⟨none, none, .store 75 (.tmp 49) (.tmp 47)⟩])
         (.reg [⟨none, some 50, .move (.tmp 0)⟩,
          ⟨none, some 51, .nilCheck (.tmp 50)⟩,
          ⟨none, some 52, .fieldAddr 388 (.tmp 51) 1⟩,
          ⟨none, some 53, .load 386 (.tmp 52)⟩,
          ⟨none, some 54, .move (.tmp 4)⟩,
          ⟨none, some 55, .move (.tmp 0)⟩,
          ⟨none, some 56, .nilCheck (.tmp 55)⟩,
          ⟨none, some 57, .fieldAddr 388 (.tmp 56) 3⟩,
          ⟨none, some 58, .load 3 (.tmp 57)⟩,
          ⟨none, none, .mapUpdate 386 (.tmp 53) (.tmp 54) (.tmp 58)⟩]))))))
    (.reg [⟨none, some 13, .move (.tmp 0)⟩,
     ⟨none, some 14, .nilCheck (.tmp 13)⟩,
     ⟨none, some 15, .fieldAddr 388 (.tmp 14) 3⟩,
     ⟨none, some 16, .load 3 (.tmp 15)⟩,
     ⟨none, some 17, .binOp .add 3 (.tmp 16) (.const (.int .i64 1)) 3⟩,
     ⟨none, some 18, .nilCheck (.tmp 13)⟩,
     ⟨none, some 19, .fieldAddr 388 (.tmp 18) 3⟩,
     ⟨none, none, .store 3 (.tmp 19) (.tmp 17)⟩]))))
theorem com328 : com Tryz.prog 59 ((Tryz.f328.body).getD .skip) = g328 := by kernel_rfl
theorem enter328 {args : List Value} {h : Heap} {R : Value → Heap → Prop} (hN : args.length ≤ 59) (q : AWC Tryz.prog 59 g328 (RetQ Tryz.prog [] R) (frOf args) h) : ACall Tryz.prog 328 args h R :=
  C_call Tryz.func328 (by kernel_rfl) com328 (by kernel_rfl) (by kernel_rfl) hN q

/-- slices.insertionSortCmpFunc[int] -/
noncomputable def g330 : AC :=
 .seq (.reg [⟨none, some 10, .move (.tmp 1)⟩,
  ⟨none, some 11, .binOp .add 3 (.tmp 10) (.const (.int .i64 1)) 3⟩,
  ⟨none, some 8, .assign (.tmp 11)⟩])
 (.block 0 (.loop (.seq (.seq (.reg [⟨none, some 12, .move (.tmp 8)⟩,
      ⟨none, some 13, .move (.tmp 2)⟩,
      ⟨none, some 14, .binOp .lss 3 (.tmp 12) (.tmp 13) 3⟩])
     (.cond (.tmp 14) (.skip)
      (.exit 0)))
    (.seq (.block 1 (.seq (.reg [⟨none, some 17, .move (.tmp 8)⟩,
        ⟨none, some 9, .assign (.tmp 17)⟩])
       (.block 2 (.loop (.seq (.seq (.reg [⟨none, some 18, .move (.tmp 9)⟩,
            ⟨none, some 19, .move (.tmp 1)⟩,
            ⟨none, some 20, .binOp .gtr 3 (.tmp 18) (.tmp 19) 3⟩,
            ⟨none, some 21, .move (.tmp 20)⟩,
            ⟨some (some 21, true), some 22, .move (.tmp 3)⟩,
            ⟨some (some 21, true), some 23, .move (.tmp 0)⟩,
            ⟨some (some 21, true), some 24, .move (.tmp 9)⟩,
            ⟨some (some 21, true), some 25, .indexAddr 75 (.tmp 23) (.tmp 24)⟩,
            ⟨some (some 21, true), some 26, .load 3 (.tmp 25)⟩,
            ⟨some (some 21, true), some 27, .move (.tmp 0)⟩,
            ⟨some (some 21, true), some 28, .move (.tmp 9)⟩,
            ⟨some (some 21, true), some 29, .binOp .sub 3 (.tmp 28) (.const (.int .i64 1)) 3⟩,
            ⟨some (some 21, true), some 30, .indexAddr 75 (.tmp 27) (.tmp 29)⟩,
            ⟨some (some 21, true), some 31, .load 3 (.tmp 30)⟩,
            ⟨some (some 21, true), some 32, .call { callee := (.value (.tmp 22)), args := #[(.tmp 26), (.tmp 31)], argTypes := #[3, 3] }⟩,
            ⟨some (some 21, true), some 33, .binOp .lss 3 (.tmp 32) (.const (.int .i64 0)) 3⟩,
            ⟨none, some 34, .pick (.tmp 21) (.tmp 33) (.const (.bool false))⟩])
           (.cond (.tmp 34) (.skip)
            (.exit 2)))
          (.seq (.block 3 (.reg [⟨none, some 37, .move (.tmp 0)⟩,
             ⟨none, some 38, .move (.tmp 9)⟩,
             ⟨none, some 39, .move (.tmp 0)⟩,
             ⟨none, some 40, .move (.tmp 9)⟩,
             ⟨none, some 41, .binOp .sub 3 (.tmp 40) (.const (.int .i64 1)) 3⟩,
             ⟨none, some 42, .move (.tmp 0)⟩,
             ⟨none, some 43, .move (.tmp 9)⟩,
             ⟨none, some 44, .binOp .sub 3 (.tmp 43) (.const (.int .i64 1)) 3⟩,
             ⟨none, some 45, .indexAddr 75 (.tmp 42) (.tmp 44)⟩,
             ⟨none, some 46, .load 3 (.tmp 45)⟩,
             ⟨none, some 47, .move (.tmp 0)⟩,
             ⟨none, some 48, .move (.tmp 9)⟩,
             ⟨none, some 49, .indexAddr 75 (.tmp 47) (.tmp 48)⟩,
             ⟨none, some 50, .load 3 (.tmp 49)⟩,
             ⟨none, some 51, .indexAddr 75 (.tmp 37) (.tmp 38)⟩,
             ⟨none, none, .store 3 (.tmp 51) (.tmp 46)⟩,
             ⟨none, some 52, .indexAddr 75 (.tmp 39) (.tmp 41)⟩,
             ⟨none, none, .store 3 (.tmp 52) (.tmp 50)⟩]))
           (.reg [⟨none, some 35, .move (.tmp 9)⟩,
            ⟨none, some 36, .binOp .sub 3 (.tmp 35) (.const (.int .i64 1)) 3⟩,
            ⟨none, some 9, .assign (.tmp 36)⟩])))))))
     (.reg [⟨none, some 15, .move (.tmp 8)⟩,
      ⟨none, some 16, .binOp .add 3 (.tmp 15) (.const (.int .i64 1)) 3⟩,
      ⟨none, some 8, .assign (.tmp 16)⟩])))))
theorem com330 : com Tryz.prog 53 ((Tryz.f330.body).getD .skip) = g330 := by kernel_rfl
theorem enter330 {args : List Value} {h : Heap} {R : Value → Heap → Prop} (hN : args.length ≤ 53) (q : AWC Tryz.prog 53 g330 (RetQ Tryz.prog [] R) (frOf args) h) : ACall Tryz.prog 330 args h R :=
  C_call Tryz.func330 (by kernel_rfl) com330 (by kernel_rfl) (by kernel_rfl) hN q

/-- bindle/match.key -/
noncomputable def g332 : AC :=
 .seq (.reg [⟨none, some 4, .assign (.const (.int .i64 0))⟩])
 (.seq (.reg [⟨none, some 5, .move (.tmp 0)⟩,
   ⟨none, some 6, .move (.tmp 1)⟩,
   ⟨none, some 7, .indexAddr 22 (.tmp 5) (.tmp 6)⟩,
   ⟨none, some 8, .load 5 (.tmp 7)⟩,
   ⟨none, some 9, .convert 5 3 (.tmp 8)⟩,
   ⟨none, some 10, .move (.tmp 0)⟩,
   ⟨none, some 11, .move (.tmp 1)⟩,
   ⟨none, some 12, .binOp .add 3 (.tmp 11) (.const (.int .i64 1)) 3⟩,
   ⟨none, some 13, .indexAddr 22 (.tmp 10) (.tmp 12)⟩,
   ⟨none, some 14, .load 5 (.tmp 13)⟩,
   ⟨none, some 15, .convert 5 3 (.tmp 14)⟩,
   ⟨none, some 16, .binOp .shl 3 (.tmp 15) (.const (.int .u64 8)) 179⟩,
   ⟨none, some 17, .binOp .or 3 (.tmp 9) (.tmp 16) 3⟩,
   ⟨none, some 18, .move (.tmp 0)⟩,
   ⟨none, some 19, .move (.tmp 1)⟩,
   ⟨none, some 20, .binOp .add 3 (.tmp 19) (.const (.int .i64 2)) 3⟩,
   ⟨none, some 21, .indexAddr 22 (.tmp 18) (.tmp 20)⟩,
   ⟨none, some 22, .load 5 (.tmp 21)⟩,
   ⟨none, some 23, .convert 5 3 (.tmp 22)⟩,
   ⟨none, some 24, .binOp .shl 3 (.tmp 23) (.const (.int .u64 16)) 179⟩,
   ⟨none, some 25, .binOp .or 3 (.tmp 17) (.tmp 24) 3⟩,
   ⟨none, some 4, .assign (.tmp 25)⟩])
  (.ret))
theorem com332 : com Tryz.prog 26 ((Tryz.f332.body).getD .skip) = g332 := by kernel_rfl
theorem enter332 {args : List Value} {h : Heap} {R : Value → Heap → Prop} (hN : args.length ≤ 26) (q : AWC Tryz.prog 26 g332 (RetQ Tryz.prog [.tmp 4] R) (frOf args) h) : ACall Tryz.prog 332 args h R :=
  C_call Tryz.func332 (by kernel_rfl) com332 (by kernel_rfl) (by kernel_rfl) hN q

end Go.Proofs.Fx
