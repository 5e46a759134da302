/- The code of this seat's functions without what a walk does not ask for, and that it is that. Written by program. -/
import Derived.Test.YtodmfjhjaegoeaaGreatDoorAmComp
import Derived.Test.YtodmfjhjaegoeaaGreatDoorProg
import Derived.KernelRfl
set_option maxRecDepth 20000
set_option linter.unusedVariables false
namespace Go.Proofs.Fx
open Go Go.Am

/-- ( *bindle/crashfs.FS).Rename -/
noncomputable def g180 : AC :=
 .seq (.reg [⟨none, some 6, .assign (.const (.int .i64 0))⟩])
 (.seq (.seq (.reg [⟨none, some 8, .move (.tmp 0)⟩,
    ⟨none, some 9, .call { callee := (.value (.func 119)), args := #[(.tmp 8)], argTypes := #[29] }⟩,
    ⟨none, some 7, .assign (.tmp 9)⟩])
   (.seq (.reg [⟨none, some 10, .move (.tmp 7)⟩,
     ⟨none, some 11, .binOp .neq 32 (.tmp 10) (.const (.int .i64 0)) 32⟩])
    (.cond (.tmp 11) (.seq (.reg [⟨none, some 12, .move (.tmp 7)⟩,
       ⟨none, some 6, .assign (.tmp 12)⟩])
      (.ret))
     (.skip))))
  (.seq (.reg [⟨none, some 13, .move (.tmp 0)⟩,
    ⟨none, some 14, .nilCheck (.tmp 13)⟩,
    ⟨none, some 15, .fieldAddr 77 (.tmp 14) 1⟩,
    ⟨none, some 16, .move (.tmp 1)⟩,
    ⟨none, some 17, .move (.tmp 2)⟩,
    ⟨none, some 18, .call { callee := (.value (.func 222)), args := #[(.tmp 15), (.tmp 16), (.tmp 17)], argTypes := #[74, 9, 9] }⟩,
    ⟨none, some 6, .assign (.tmp 18)⟩])
   (.ret)))
theorem com180 : com Tryz.prog 19 ((Tryz.f180.body).getD .skip) = g180 := by kernel_rfl
theorem enter180 {args : List Value} {h : Heap} {R : Value → Heap → Prop} (hN : args.length ≤ 19) (q : AWC Tryz.prog 19 g180 (RetQ Tryz.prog [.tmp 6] R) (frOf args) h) : ACall Tryz.prog 180 args h R :=
  C_call Tryz.func180 (by kernel_rfl) com180 (by kernel_rfl) (by kernel_rfl) hN q

/-- bindle/foot.Right -/
noncomputable def g186 : AC :=
 .seq (.reg [⟨none, some 1, .box 210 (.tmp 0)⟩,
  ⟨none, some 2, .assign (.const (.bool false))⟩])
 (.seq (.reg [⟨none, some 3, .fieldAddr 210 (.tmp 1) 0⟩,
   ⟨none, some 4, .load 3 (.tmp 3)⟩,
   ⟨none, some 5, .binOp .geq 3 (.tmp 4) (.const (.int .i64 0)) 3⟩,
   ⟨none, some 6, .move (.tmp 5)⟩,
   ⟨some (some 6, true), some 7, .fieldAddr 210 (.tmp 1) 0⟩,
   ⟨some (some 6, true), some 8, .load 3 (.tmp 7)⟩,
   ⟨some (some 6, true), some 9, .binOp .leq 3 (.tmp 8) (.const (.int .i64 200)) 3⟩,
   ⟨none, some 10, .pick (.tmp 6) (.tmp 9) (.const (.bool false))⟩,
   ⟨none, some 11, .move (.tmp 10)⟩,
   ⟨some (some 11, true), some 12, .fieldAddr 210 (.tmp 1) 1⟩,
   ⟨some (some 11, true), some 13, .load 3 (.tmp 12)⟩,
   ⟨some (some 11, true), some 14, .binOp .geq 3 (.tmp 13) (.const (.int .i64 0)) 3⟩,
   ⟨none, some 15, .pick (.tmp 11) (.tmp 14) (.const (.bool false))⟩,
   ⟨none, some 16, .move (.tmp 15)⟩,
   ⟨some (some 16, true), some 17, .fieldAddr 210 (.tmp 1) 1⟩,
   ⟨some (some 16, true), some 18, .load 3 (.tmp 17)⟩,
   ⟨some (some 16, true), some 19, .binOp .leq 3 (.tmp 18) (.const (.int .i64 16400)) 3⟩,
   ⟨none, some 20, .pick (.tmp 16) (.tmp 19) (.const (.bool false))⟩,
   ⟨none, some 2, .assign (.tmp 20)⟩])
  (.ret))
theorem com186 : com Tryz.prog 21 ((Tryz.f186.body).getD .skip) = g186 := by kernel_rfl
theorem enter186 {args : List Value} {h : Heap} {R : Value → Heap → Prop} (hN : args.length ≤ 21) (q : AWC Tryz.prog 21 g186 (RetQ Tryz.prog [.tmp 2] R) (frOf args) h) : ACall Tryz.prog 186 args h R :=
  C_call Tryz.func186 (by kernel_rfl) com186 (by kernel_rfl) (by kernel_rfl) hN q

/-- bindle/disk.sectors -/
noncomputable def g187 : AC :=
 .seq (.reg [⟨none, some 2, .assign (.const (.int .i64 0))⟩])
 (.seq (.reg [⟨none, some 3, .move (.tmp 0)⟩,
   ⟨none, some 4, .binOp .add 3 (.tmp 3) (.const (.int .i64 512)) 3⟩,
   ⟨none, some 5, .binOp .sub 3 (.tmp 4) (.const (.int .i64 1)) 3⟩,
   ⟨none, some 6, .binOp .quo 3 (.tmp 5) (.const (.int .i64 512)) 3⟩,
   ⟨none, some 2, .assign (.tmp 6)⟩])
  (.ret))
theorem com187 : com Tryz.prog 7 ((Tryz.f187.body).getD .skip) = g187 := by kernel_rfl
theorem enter187 {args : List Value} {h : Heap} {R : Value → Heap → Prop} (hN : args.length ≤ 7) (q : AWC Tryz.prog 7 g187 (RetQ Tryz.prog [.tmp 2] R) (frOf args) h) : ACall Tryz.prog 187 args h R :=
  C_call Tryz.func187 (by kernel_rfl) com187 (by kernel_rfl) (by kernel_rfl) hN q

/-- ( *bindle/names.Dir).Linked -/
noncomputable def g188 : AC :=
 .seq (.reg [⟨none, some 3, .box 3 (.tmp 1)⟩,
  ⟨none, some 4, .assign (.const (.bool false))⟩])
 (.seq (.seq (.reg [⟨none, some 6, .move (.tmp 0)⟩,
    ⟨none, some 7, .binOp .eql 243 (.tmp 6) (.const (.pointer none)) 243⟩])
   (.cond (.tmp 7) (.seq (.reg [⟨none, some 4, .assign (.const (.bool false))⟩])
     (.ret))
    (.skip)))
  (.seq (.reg [⟨none, some 8, .move (.tmp 0)⟩,
    ⟨none, some 9, .nilCheck (.tmp 8)⟩,
    ⟨none, some 10, .fieldAddr 74 (.tmp 9) 2⟩,
    ⟨none, some 11, .load 72 (.tmp 10)⟩,
    ⟨none, some 12, .makeFunc (.func 233) #[] #[(.tmp 3)]⟩,
    ⟨none, some 13, .call { callee := (.value (.func 232)), args := #[(.tmp 11), (.tmp 12)], argTypes := #[72, 323] }⟩,
    ⟨none, some 5, .assign (.tmp 13)⟩])
   (.seq (.draw [⟨⟨none, some 14, .move (.tmp 5)⟩, []⟩,
      ⟨⟨none, some 15, .move (.tmp 14)⟩, []⟩,
      ⟨⟨some (some 15, false), some 16, .move (.tmp 0)⟩, []⟩,
      ⟨⟨some (some 15, false), some 17, .nilCheck (.tmp 16)⟩, []⟩,
      ⟨⟨some (some 15, false), some 18, .fieldAddr 74 (.tmp 17) 0⟩, []⟩,
      ⟨⟨some (some 15, false), some 19, .load 71 (.tmp 18)⟩, []⟩,
      ⟨⟨some (some 15, false), some 22, .load 3 (.tmp 3)⟩, []⟩,
      ⟨⟨some (some 15, false), some 20, .call { callee := (.value (.func 236)), args := #[(.tmp 19)], argTypes := #[71] }⟩, [⟨some (some 15, false), some 22, .load 3 (.tmp 3)⟩]⟩,
      ⟨⟨some (some 15, false), some 21, .call { callee := (.value (.func 235)), args := #[(.tmp 20)], argTypes := #[327] }⟩, [⟨some (some 15, false), some 22, .load 3 (.tmp 3)⟩]⟩,
      ⟨⟨some (some 15, false), some 23, .call { callee := (.value (.func 234)), args := #[(.tmp 21), (.tmp 22)], argTypes := #[75, 3] }⟩, []⟩,
      ⟨⟨none, some 24, .pick (.tmp 15) (.const (.bool true)) (.tmp 23)⟩, []⟩,
      ⟨⟨none, some 25, .move (.tmp 24)⟩, []⟩,
      ⟨⟨some (some 25, false), some 26, .move (.tmp 0)⟩, []⟩,
      ⟨⟨some (some 25, false), some 27, .nilCheck (.tmp 26)⟩, []⟩,
      ⟨⟨some (some 25, false), some 28, .fieldAddr 74 (.tmp 27) 1⟩, []⟩,
      ⟨⟨some (some 25, false), some 29, .load 71 (.tmp 28)⟩, []⟩,
      ⟨⟨some (some 25, false), some 32, .load 3 (.tmp 3)⟩, []⟩,
      ⟨⟨some (some 25, false), some 30, .call { callee := (.value (.func 236)), args := #[(.tmp 29)], argTypes := #[71] }⟩, [⟨some (some 25, false), some 32, .load 3 (.tmp 3)⟩]⟩,
      ⟨⟨some (some 25, false), some 31, .call { callee := (.value (.func 235)), args := #[(.tmp 30)], argTypes := #[327] }⟩, [⟨some (some 25, false), some 32, .load 3 (.tmp 3)⟩]⟩,
      ⟨⟨some (some 25, false), some 33, .call { callee := (.value (.func 234)), args := #[(.tmp 31), (.tmp 32)], argTypes := #[75, 3] }⟩, []⟩,
      ⟨⟨none, some 34, .pick (.tmp 25) (.const (.bool true)) (.tmp 33)⟩, []⟩,
      ⟨⟨none, some 4, .assign (.tmp 34)⟩, []⟩])
    (.ret))))
theorem com188 : com Tryz.prog 35 ((Tryz.f188.body).getD .skip) = g188 := by kernel_rfl
theorem enter188 {args : List Value} {h : Heap} {R : Value → Heap → Prop} (hN : args.length ≤ 35) (q : AWC Tryz.prog 35 g188 (RetQ Tryz.prog [.tmp 4] R) (frOf args) h) : ACall Tryz.prog 188 args h R :=
  C_call Tryz.func188 (by kernel_rfl) com188 (by kernel_rfl) (by kernel_rfl) hN q

/-- ( *bindle/disk.Disk).grow -/
noncomputable def g189 : AC :=
 .seq (.reg [⟨none, some 5, .move (.tmp 1)⟩,
  ⟨none, some 6, .move (.tmp 0)⟩,
  ⟨none, some 7, .call { callee := (.value (.func 124)), args := #[(.tmp 6)], argTypes := #[190] }⟩,
  ⟨none, some 8, .binOp .sub 3 (.tmp 5) (.tmp 7) 3⟩,
  ⟨none, some 4, .assign (.tmp 8)⟩])
 (.seq (.reg [⟨none, some 9, .move (.tmp 4)⟩,
   ⟨none, some 10, .binOp .gtr 3 (.tmp 9) (.const (.int .i64 0)) 3⟩])
  (.cond (.tmp 10) (.seq (.reg [⟨none, some 11, .move (.tmp 0)⟩,
     ⟨none, some 12, .move (.tmp 0)⟩,
     ⟨none, some 13, .nilCheck (.tmp 12)⟩,
     ⟨none, some 14, .fieldAddr 247 (.tmp 13) 0⟩,
     ⟨none, some 15, .load 22 (.tmp 14)⟩,
     ⟨none, some 16, .move (.tmp 4)⟩,
     ⟨none, some 17, .binOp .mul 3 (.tmp 16) (.const (.int .i64 512)) 3⟩,
     ⟨none, some 18, .call { callee := (.builtin .append), args := #[(.tmp 15), (.tmp 17)], argTypes := #[22, 3] }⟩,
     ⟨none, some 19, .nilCheck (.tmp 11)⟩,
     ⟨none, some 20, .fieldAddr 247 (.tmp 19) 0⟩,
     ⟨none, none, .store 22 (.tmp 20) (.tmp 18)⟩])
    (.reg [⟨none, some 21, .move (.tmp 0)⟩,
     ⟨none, some 22, .move (.tmp 0)⟩,
     ⟨none, some 23, .nilCheck (.tmp 22)⟩,
     ⟨none, some 24, .fieldAddr 247 (.tmp 23) 1⟩,
     ⟨none, some 25, .load 244 (.tmp 24)⟩,
     ⟨none, some 26, .move (.tmp 4)⟩,
     ⟨none, some 27, .call { callee := (.builtin .append), args := #[(.tmp 25), (.tmp 26)], argTypes := #[244, 3] }⟩,
     ⟨none, some 28, .nilCheck (.tmp 21)⟩,
     ⟨none, some 29, .fieldAddr 247 (.tmp 28) 1⟩,
     ⟨none, none, .store 244 (.tmp 29) (.tmp 27)⟩]))
   (.skip)))
theorem com189 : com Tryz.prog 30 ((Tryz.f189.body).getD .skip) = g189 := by kernel_rfl
theorem enter189 {args : List Value} {h : Heap} {R : Value → Heap → Prop} (hN : args.length ≤ 30) (q : AWC Tryz.prog 30 g189 (RetQ Tryz.prog [] R) (frOf args) h) : ACall Tryz.prog 189 args h R :=
  C_call Tryz.func189 (by kernel_rfl) com189 (by kernel_rfl) (by kernel_rfl) hN q

/-- bindle/block.rows -/
noncomputable def g190 : AC :=
 .seq (.reg [⟨none, some 2, .assign (.const (.slice none 0 0))⟩,
  ⟨none, some 3, .assign (.const (.bool false))⟩])
 (.scope (.seq (.seq (.reg [⟨none, some 9, .move (.tmp 0)⟩,
     ⟨none, some 10, .call { callee := (.builtin .len), args := #[(.tmp 9)], argTypes := #[220] }⟩,
     ⟨none, some 11, .binOp .gtr 3 (.tmp 10) (.const (.int .i64 65536)) 3⟩])
    (.cond (.tmp 11) (.seq (.reg [⟨none, some 2, .assign (.const (.slice none 0 0))⟩,
       ⟨none, some 3, .assign (.const (.bool false))⟩])
      (.ret))
     (.skip)))
   (.seq (.reg [⟨none, some 4, .assign (.const (.slice none 0 0))⟩])
    (.seq (.reg [⟨none, some 5, .assign (.const (.bool true))⟩])
     (.seq (.label 0)
      (.seq (.seq (.reg [⟨none, some 12, .move (.tmp 0)⟩,
         ⟨none, some 13, .call { callee := (.builtin .len), args := #[(.tmp 12)], argTypes := #[220] }⟩,
         ⟨none, some 14, .move (.const (.int .i64 0))⟩])
        (.block 0 (.loop (.seq (.reg [⟨none, some 15, .binOp .lss 3 (.tmp 14) (.tmp 13) 3⟩])
           (.seq (.cond (.tmp 15) (.skip)
             (.exit 0))
            (.seq (.block 1 (.seq (.reg [⟨none, some 16, .indexAddr 220 (.tmp 12) (.tmp 14)⟩,
                ⟨none, some 17, .load 279 (.tmp 16)⟩,
                ⟨none, some 7, .alloc 279⟩,
                ⟨none, none, .store 279 (.tmp 7) (.tmp 17)⟩])
               (.seq (.reg [⟨none, some 8, .alloc 274⟩])
                (.seq (.seq (.reg [⟨none, some 19, .load 279 (.tmp 7)⟩,
                   ⟨none, some 20, .call { callee := (.value (.func 237)), args := #[(.tmp 19)], argTypes := #[279] }⟩,
                   ⟨none, some 18, .move (.tmp 20)⟩,
                   ⟨none, some 21, .extract (.tmp 18) 0⟩,
                   ⟨none, some 22, .extract (.tmp 18) 1⟩,
                   ⟨none, none, .store 274 (.tmp 8) (.tmp 21)⟩,
                   ⟨none, some 5, .assign (.tmp 22)⟩])
                  (.seq (.reg [⟨none, some 23, .move (.tmp 5)⟩,
                    ⟨none, some 24, .unOp .not 4 (.tmp 23)⟩])
                   (.cond (.tmp 24) (.exit 0)
                    (.skip))))
                 (.reg [⟨none, some 25, .move (.tmp 4)⟩,
                  ⟨none, some 26, .load 274 (.tmp 8)⟩,
                  ⟨none, some 27, .buildSlice 264 1 #[(0, (.tmp 26))]⟩,
                  ⟨none, some 28, .call { callee := (.builtin .append), args := #[(.tmp 25), (.tmp 27)], argTypes := #[264, 264] }⟩,
                  ⟨none, some 4, .assign (.tmp 28)⟩])))))
             (.reg [⟨none, some 29, .binOp .add 3 (.tmp 14) (.const (.int .i64 1)) 3⟩,
              ⟨none, some 14, .move (.tmp 29)⟩])))))))
       (.seq (.reg [⟨none, some 30, .move (.tmp 4)⟩,
         ⟨none, some 31, .move (.tmp 5)⟩,
         ⟨none, some 2, .assign (.tmp 30)⟩,
         ⟨none, some 3, .assign (.tmp 31)⟩])
        (.ret))))))))
theorem com190 : com Tryz.prog 32 ((Tryz.f190.body).getD .skip) = g190 := by kernel_rfl
theorem enter190 {args : List Value} {h : Heap} {R : Value → Heap → Prop} (hN : args.length ≤ 32) (q : AWC Tryz.prog 32 g190 (RetQ Tryz.prog [.tmp 2, .tmp 3] R) (frOf args) h) : ACall Tryz.prog 190 args h R :=
  C_call Tryz.func190 (by kernel_rfl) com190 (by kernel_rfl) (by kernel_rfl) hN q

/-- bindle/block.weigh1 -/
noncomputable def g191 : AC :=
 .seq (.reg [⟨none, some 2, .assign (.const (.slice none 0 0))⟩,
  ⟨none, some 3, .assign (.const (.slice none 0 0))⟩])
 (.seq (.draw [⟨⟨none, some 7, .makeSlice 75 (.const (.int .i64 273)) (.const (.int .i64 273))⟩, []⟩,
      ⟨⟨none, some 2, .assign (.tmp 7)⟩, []⟩,
      ⟨⟨none, some 8, .makeSlice 75 (.const (.int .i64 30)) (.const (.int .i64 30))⟩, []⟩,
      ⟨⟨none, some 3, .assign (.tmp 8)⟩, []⟩])
  (.seq (.reg [⟨none, some 9, .move (.tmp 2)⟩,
    ⟨none, some 10, .indexAddr 75 (.tmp 9) (.const (.int .i64 256))⟩,
    ⟨none, none, .store 3 (.tmp 10) (.const (.int .i64 1))⟩])
   (.seq (.reg [⟨none, some 4, .assign (.const (.int .i64 0))⟩])
    (.seq (.seq (.reg [⟨none, some 11, .move (.tmp 0)⟩,
       ⟨none, some 12, .call { callee := (.builtin .len), args := #[(.tmp 11)], argTypes := #[264] }⟩,
       ⟨none, some 13, .move (.const (.int .i64 0))⟩])
      (.block 0 (.loop (.seq (.reg [⟨none, some 14, .binOp .lss 3 (.tmp 13) (.tmp 12) 3⟩])
         (.seq (.cond (.tmp 14) (.skip)
           (.exit 0))
          (.seq (.block 1 (.seq (.reg [⟨none, some 15, .indexAddr 264 (.tmp 11) (.tmp 13)⟩,
              ⟨none, some 16, .load 274 (.tmp 15)⟩,
              ⟨none, some 6, .alloc 274⟩,
              ⟨none, none, .store 274 (.tmp 6) (.tmp 16)⟩])
             (.seq (.reg [⟨none, some 17, .move (.tmp 2)⟩,
               ⟨none, some 18, .fieldAddr 274 (.tmp 6) 0⟩,
               ⟨none, some 19, .fieldAddr 272 (.tmp 18) 0⟩,
               ⟨none, some 20, .load 3 (.tmp 19)⟩,
               ⟨none, some 21, .indexAddr 75 (.tmp 17) (.tmp 20)⟩,
               ⟨none, some 22, .load 3 (.tmp 21)⟩,
               ⟨none, some 23, .binOp .add 3 (.tmp 22) (.const (.int .i64 1)) 3⟩,
               ⟨none, some 24, .indexAddr 75 (.tmp 17) (.tmp 20)⟩,
               ⟨none, none, .store 3 (.tmp 24) (.tmp 23)⟩])
              (.seq (.reg [⟨none, some 25, .fieldAddr 274 (.tmp 6) 2⟩,
                ⟨none, some 26, .load 4 (.tmp 25)⟩])
               (.cond (.tmp 26) (.seq (.reg [⟨none, some 27, .move (.tmp 4)⟩,
                  ⟨none, some 28, .binOp .add 3 (.tmp 27) (.const (.int .i64 1)) 3⟩,
                  ⟨none, some 4, .assign (.tmp 28)⟩])
                 (.reg [⟨none, some 29, .move (.tmp 3)⟩,
                  ⟨none, some 30, .fieldAddr 274 (.tmp 6) 1⟩,
                  ⟨none, some 31, .fieldAddr 272 (.tmp 30) 0⟩,
                  ⟨none, some 32, .load 3 (.tmp 31)⟩,
                  ⟨none, some 33, .indexAddr 75 (.tmp 29) (.tmp 32)⟩,
                  ⟨none, some 34, .load 3 (.tmp 33)⟩,
                  ⟨none, some 35, .binOp .add 3 (.tmp 34) (.const (.int .i64 1)) 3⟩,
                  ⟨none, some 36, .indexAddr 75 (.tmp 29) (.tmp 32)⟩,
                  ⟨none, none, .store 3 (.tmp 36) (.tmp 35)⟩]))
                (.skip))))))
           (.reg [⟨none, some 37, .binOp .add 3 (.tmp 13) (.const (.int .i64 1)) 3⟩,
            ⟨none, some 13, .move (.tmp 37)⟩])))))))
     (.seq (.seq (.reg [⟨none, some 38, .move (.tmp 4)⟩,
        ⟨none, some 39, .binOp .eql 3 (.tmp 38) (.const (.int .i64 0)) 3⟩])
       (.cond (.tmp 39) (.reg [⟨none, some 40, .move (.tmp 3)⟩,
         ⟨none, some 41, .indexAddr 75 (.tmp 40) (.const (.int .i64 0))⟩,
         ⟨none, none, .store 3 (.tmp 41) (.const (.int .i64 1))⟩])
        (.skip)))
      (.seq (.reg [⟨none, some 42, .move (.tmp 2)⟩,
        ⟨none, some 43, .move (.tmp 3)⟩,
        ⟨none, some 2, .assign (.tmp 42)⟩,
        ⟨none, some 3, .assign (.tmp 43)⟩])
       (.ret)))))))
theorem com191 : com Tryz.prog 44 ((Tryz.f191.body).getD .skip) = g191 := by kernel_rfl
theorem enter191 {args : List Value} {h : Heap} {R : Value → Heap → Prop} (hN : args.length ≤ 44) (q : AWC Tryz.prog 44 g191 (RetQ Tryz.prog [.tmp 2, .tmp 3] R) (frOf args) h) : ACall Tryz.prog 191 args h R :=
  C_call Tryz.func191 (by kernel_rfl) com191 (by kernel_rfl) (by kernel_rfl) hN q

/-- bindle/block.table -/
noncomputable def g192 : AC :=
 .seq (.reg [⟨none, some 4, .assign (.const (.pointer none))⟩])
 (.seq (.reg [⟨none, some 10, .move (.tmp 1)⟩,
   ⟨none, some 11, .call { callee := (.value (.func 238)), args := #[(.tmp 10)], argTypes := #[75] }⟩,
   ⟨none, some 9, .move (.tmp 11)⟩,
   ⟨none, some 12, .extract (.tmp 9) 0⟩,
   ⟨none, some 13, .extract (.tmp 9) 1⟩,
   ⟨none, some 5, .assign (.tmp 12)⟩,
   ⟨none, some 6, .assign (.tmp 13)⟩])
  (.seq (.reg [⟨none, some 15, .move (.tmp 5)⟩,
    ⟨none, some 16, .call { callee := (.value (.func 239)), args := #[(.tmp 15)], argTypes := #[75] }⟩,
    ⟨none, some 14, .move (.tmp 16)⟩,
    ⟨none, some 17, .extract (.tmp 14) 0⟩,
    ⟨none, some 18, .extract (.tmp 14) 1⟩,
    ⟨none, some 7, .assign (.tmp 17)⟩,
    ⟨none, some 8, .assign (.tmp 18)⟩])
   (.seq (.reg [⟨none, some 19, .move (.tmp 0)⟩,
     ⟨none, some 20, .move (.tmp 5)⟩,
     ⟨none, some 21, .call { callee := (.value (.func 240)), args := #[(.tmp 19), (.tmp 20)], argTypes := #[219, 75] }⟩])
    (.seq (.reg [⟨none, some 22, .move (.tmp 7)⟩,
      ⟨none, some 4, .assign (.tmp 22)⟩])
     (.ret)))))
theorem com192 : com Tryz.prog 23 ((Tryz.f192.body).getD .skip) = g192 := by kernel_rfl
theorem enter192 {args : List Value} {h : Heap} {R : Value → Heap → Prop} (hN : args.length ≤ 23) (q : AWC Tryz.prog 23 g192 (RetQ Tryz.prog [.tmp 4] R) (frOf args) h) : ACall Tryz.prog 192 args h R :=
  C_call Tryz.func192 (by kernel_rfl) com192 (by kernel_rfl) (by kernel_rfl) hN q

/-- bindle/block.one -/
noncomputable def g193 : AC :=
 .seq (.reg [⟨none, some 5, .box 272 (.tmp 2)⟩])
 (.seq (.reg [⟨none, some 6, .move (.tmp 1)⟩,
   ⟨none, some 7, .move (.tmp 0)⟩,
   ⟨none, some 8, .fieldAddr 272 (.tmp 5) 0⟩,
   ⟨none, some 9, .load 3 (.tmp 8)⟩,
   ⟨none, some 10, .call { callee := (.value (.func 194)), args := #[(.tmp 6), (.tmp 7), (.tmp 9)], argTypes := #[269, 219, 3] }⟩])
  (.reg [⟨none, some 11, .move (.tmp 0)⟩,
   ⟨none, some 12, .fieldAddr 272 (.tmp 5) 2⟩,
   ⟨none, some 13, .load 39 (.tmp 12)⟩,
   ⟨none, some 14, .fieldAddr 272 (.tmp 5) 1⟩,
   ⟨none, some 15, .load 3 (.tmp 14)⟩,
   ⟨none, some 16, .call { callee := (.value (.func 241)), args := #[(.tmp 11), (.tmp 13), (.tmp 15)], argTypes := #[219, 39, 3] }⟩]))
theorem com193 : com Tryz.prog 17 ((Tryz.f193.body).getD .skip) = g193 := by kernel_rfl
theorem enter193 {args : List Value} {h : Heap} {R : Value → Heap → Prop} (hN : args.length ≤ 17) (q : AWC Tryz.prog 17 g193 (RetQ Tryz.prog [] R) (frOf args) h) : ACall Tryz.prog 193 args h R :=
  C_call Tryz.func193 (by kernel_rfl) com193 (by kernel_rfl) (by kernel_rfl) hN q

/-- ( *bindle/canon.Code).Put -/
noncomputable def g194 : AC :=
 .seq (.reg [⟨none, some 6, .assign (.const (.bool false))⟩])
 (.seq (.reg [⟨none, some 9, .move (.tmp 0)⟩,
   ⟨none, some 10, .move (.tmp 2)⟩,
   ⟨none, some 11, .call { callee := (.value (.func 242)), args := #[(.tmp 9), (.tmp 10)], argTypes := #[269, 3] }⟩,
   ⟨none, some 7, .assign (.tmp 11)⟩])
  (.seq (.seq (.reg [⟨none, some 12, .move (.tmp 7)⟩,
     ⟨none, some 13, .binOp .eql 3 (.tmp 12) (.const (.int .i64 0)) 3⟩])
    (.cond (.tmp 13) (.seq (.reg [⟨none, some 6, .assign (.const (.bool false))⟩])
      (.ret))
     (.skip)))
   (.seq (.seq (.reg [⟨none, some 14, .move (.tmp 7)⟩,
      ⟨none, some 15, .binOp .sub 3 (.tmp 14) (.const (.int .i64 1)) 3⟩,
      ⟨none, some 8, .assign (.tmp 15)⟩])
     (.block 0 (.loop (.seq (.seq (.reg [⟨none, some 16, .move (.tmp 8)⟩,
          ⟨none, some 17, .binOp .geq 3 (.tmp 16) (.const (.int .i64 0)) 3⟩])
         (.cond (.tmp 17) (.skip)
          (.exit 0)))
        (.seq (.block 1 (.reg [⟨none, some 20, .move (.tmp 1)⟩,
           ⟨none, some 21, .move (.tmp 0)⟩,
           ⟨none, some 22, .nilCheck (.tmp 21)⟩,
           ⟨none, some 23, .fieldAddr 339 (.tmp 22) 1⟩,
           ⟨none, some 24, .load 75 (.tmp 23)⟩,
           ⟨none, some 25, .move (.tmp 2)⟩,
           ⟨none, some 26, .indexAddr 75 (.tmp 24) (.tmp 25)⟩,
           ⟨none, some 27, .load 3 (.tmp 26)⟩,
           ⟨none, some 28, .move (.tmp 8)⟩,
           ⟨none, some 29, .binOp .shr 3 (.tmp 27) (.tmp 28) 3⟩,
           ⟨none, some 30, .binOp .and 3 (.tmp 29) (.const (.int .i64 1)) 3⟩,
           ⟨none, some 31, .convert 3 39 (.tmp 30)⟩,
           ⟨none, some 32, .call { callee := (.value (.func 241)), args := #[(.tmp 20), (.tmp 31), (.const (.int .i64 1))], argTypes := #[219, 39, 3] }⟩]))
         (.reg [⟨none, some 18, .move (.tmp 8)⟩,
          ⟨none, some 19, .binOp .sub 3 (.tmp 18) (.const (.int .i64 1)) 3⟩,
          ⟨none, some 8, .assign (.tmp 19)⟩]))))))
    (.seq (.reg [⟨none, some 6, .assign (.const (.bool true))⟩])
     (.ret)))))
theorem com194 : com Tryz.prog 33 ((Tryz.f194.body).getD .skip) = g194 := by kernel_rfl
theorem enter194 {args : List Value} {h : Heap} {R : Value → Heap → Prop} (hN : args.length ≤ 33) (q : AWC Tryz.prog 33 g194 (RetQ Tryz.prog [.tmp 6] R) (frOf args) h) : ACall Tryz.prog 194 args h R :=
  C_call Tryz.func194 (by kernel_rfl) com194 (by kernel_rfl) (by kernel_rfl) hN q

/-- slices.Collect[bindle/api.Token] -/
noncomputable def g195 : AC :=
 .seq (.reg [⟨none, some 2, .assign (.const (.slice none 0 0))⟩])
 (.seq (.reg [⟨none, some 3, .move (.tmp 0)⟩,
   ⟨none, some 4, .call { callee := (.value (.func 243)), args := #[(.const (.slice none 0 0)), (.tmp 3)], argTypes := #[220, 281] }⟩,
   ⟨none, some 2, .assign (.tmp 4)⟩])
  (.ret))
theorem com195 : com Tryz.prog 5 ((Tryz.f195.body).getD .skip) = g195 := by kernel_rfl
theorem enter195 {args : List Value} {h : Heap} {R : Value → Heap → Prop} (hN : args.length ≤ 5) (q : AWC Tryz.prog 5 g195 (RetQ Tryz.prog [.tmp 2] R) (frOf args) h) : ACall Tryz.prog 195 args h R :=
  C_call Tryz.func195 (by kernel_rfl) com195 (by kernel_rfl) (by kernel_rfl) hN q

/-- bindle/tokens.Each -/
noncomputable def g196 : AC :=
 .seq (.reg [⟨none, some 2, .box 22 (.tmp 0)⟩,
  ⟨none, some 3, .box 3 (.tmp 1)⟩,
  ⟨none, some 4, .assign (.const .nilFunc)⟩])
 (.seq (.reg [⟨none, some 5, .makeFunc (.func 244) #[] #[(.tmp 2), (.tmp 3)]⟩,
   ⟨none, some 4, .assign (.tmp 5)⟩])
  (.ret))
theorem com196 : com Tryz.prog 6 ((Tryz.f196.body).getD .skip) = g196 := by kernel_rfl
theorem enter196 {args : List Value} {h : Heap} {R : Value → Heap → Prop} (hN : args.length ≤ 6) (q : AWC Tryz.prog 6 g196 (RetQ Tryz.prog [.tmp 4] R) (frOf args) h) : ACall Tryz.prog 196 args h R :=
  C_call Tryz.func196 (by kernel_rfl) com196 (by kernel_rfl) (by kernel_rfl) hN q

/-- bindle/local.Is -/
noncomputable def g199 : AC :=
 .seq (.reg [⟨none, some 4, .assign (.const (.bool false))⟩])
 (.seq (.reg [⟨none, some 5, .move (.tmp 1)⟩,
   ⟨none, some 6, .binOp .geq 3 (.tmp 5) (.const (.int .i64 0)) 3⟩,
   ⟨none, some 7, .move (.tmp 6)⟩,
   ⟨some (some 7, true), some 8, .move (.tmp 1)⟩,
   ⟨some (some 7, true), some 9, .move (.tmp 0)⟩,
   ⟨some (some 7, true), some 10, .call { callee := (.builtin .len), args := #[(.tmp 9)], argTypes := #[22] }⟩,
   ⟨some (some 7, true), some 11, .binOp .sub 3 (.tmp 10) (.const (.int .i64 4)) 3⟩,
   ⟨some (some 7, true), some 12, .binOp .leq 3 (.tmp 8) (.tmp 11) 3⟩,
   ⟨none, some 13, .pick (.tmp 7) (.tmp 12) (.const (.bool false))⟩,
   ⟨none, some 14, .move (.tmp 13)⟩,
   ⟨some (some 14, true), some 15, .move (.tmp 0)⟩,
   ⟨some (some 14, true), some 16, .move (.tmp 1)⟩,
   ⟨some (some 14, true), some 17, .move (.tmp 1)⟩,
   ⟨some (some 14, true), some 18, .binOp .add 3 (.tmp 17) (.const (.int .i64 4)) 3⟩,
   ⟨some (some 14, true), some 19, .slice 22 (.tmp 15) (some (.tmp 16)) (some (.tmp 18)) none⟩,
   ⟨some (some 14, true), some 20, .convert 22 9 (.tmp 19)⟩,
   ⟨some (some 14, true), some 21, .binOp .eql 9 (.tmp 20) (.const (.string { data := #[76, 77, 66, 82] })) 9⟩,
   ⟨none, some 22, .pick (.tmp 14) (.tmp 21) (.const (.bool false))⟩,
   ⟨none, some 4, .assign (.tmp 22)⟩])
  (.ret))
theorem com199 : com Tryz.prog 23 ((Tryz.f199.body).getD .skip) = g199 := by kernel_rfl
theorem enter199 {args : List Value} {h : Heap} {R : Value → Heap → Prop} (hN : args.length ≤ 23) (q : AWC Tryz.prog 23 g199 (RetQ Tryz.prog [.tmp 4] R) (frOf args) h) : ACall Tryz.prog 199 args h R :=
  C_call Tryz.func199 (by kernel_rfl) com199 (by kernel_rfl) (by kernel_rfl) hN q

/-- bindle/local.read -/
noncomputable def g200 : AC :=
 .seq (.reg [⟨none, some 2, .alloc 115⟩])
 (.seq (.reg [⟨none, some 5, .move (.tmp 0)⟩,
   ⟨none, some 6, .call { callee := (.value (.func 166)), args := #[(.tmp 5), (.const (.int .i64 4))], argTypes := #[238, 3] }⟩])
  (.seq (.reg [⟨none, some 7, .move (.tmp 0)⟩,
    ⟨none, some 8, .call { callee := (.value (.func 165)), args := #[(.tmp 7), (.const (.int .i64 1))], argTypes := #[238, 3] }⟩,
    ⟨none, some 9, .convert 39 3 (.tmp 8)⟩,
    ⟨none, some 10, .build 115 #[(0, (.tmp 9))]⟩,
    ⟨none, some 3, .alloc 115⟩,
    ⟨none, none, .store 115 (.tmp 3) (.tmp 10)⟩])
   (.seq (.reg [⟨none, some 11, .move (.tmp 0)⟩,
     ⟨none, some 12, .call { callee := (.value (.func 165)), args := #[(.tmp 11), (.const (.int .i64 1))], argTypes := #[238, 3] }⟩,
     ⟨none, some 13, .convert 39 3 (.tmp 12)⟩,
     ⟨none, some 4, .assign (.tmp 13)⟩])
    (.seq (.reg [⟨none, some 14, .move (.tmp 0)⟩,
      ⟨none, some 15, .call { callee := (.value (.func 165)), args := #[(.tmp 14), (.const (.int .i64 4))], argTypes := #[238, 3] }⟩,
      ⟨none, some 16, .convert 39 3 (.tmp 15)⟩,
      ⟨none, some 17, .move (.tmp 0)⟩,
      ⟨none, some 18, .call { callee := (.value (.func 165)), args := #[(.tmp 17), (.const (.int .i64 4))], argTypes := #[238, 3] }⟩,
      ⟨none, some 19, .convert 39 3 (.tmp 18)⟩,
      ⟨none, some 20, .move (.tmp 0)⟩,
      ⟨none, some 21, .call { callee := (.value (.func 165)), args := #[(.tmp 20), (.const (.int .i64 4))], argTypes := #[238, 3] }⟩,
      ⟨none, some 22, .fieldAddr 115 (.tmp 3) 2⟩,
      ⟨none, none, .store 3 (.tmp 22) (.tmp 16)⟩,
      ⟨none, some 23, .fieldAddr 115 (.tmp 3) 3⟩,
      ⟨none, none, .store 3 (.tmp 23) (.tmp 19)⟩,
      ⟨none, some 24, .fieldAddr 115 (.tmp 3) 4⟩,
      ⟨none, none, .store 39 (.tmp 24) (.tmp 21)⟩])
     (.seq (.reg [⟨none, some 25, .move (.tmp 0)⟩,
       ⟨none, some 26, .move (.tmp 4)⟩,
       ⟨none, some 27, .call { callee := (.value (.func 166)), args := #[(.tmp 25), (.tmp 26)], argTypes := #[238, 3] }⟩,
       ⟨none, some 28, .convert 22 9 (.tmp 27)⟩,
       ⟨none, some 29, .fieldAddr 115 (.tmp 3) 1⟩,
       ⟨none, none, .store 9 (.tmp 29) (.tmp 28)⟩])
      (.seq (.reg [⟨none, some 30, .load 115 (.tmp 3)⟩,
        ⟨none, none, .store 115 (.tmp 2) (.tmp 30)⟩])
       (.ret)))))))
theorem com200 : com Tryz.prog 31 ((Tryz.f200.body).getD .skip) = g200 := by kernel_rfl
theorem enter200 {args : List Value} {h : Heap} {R : Value → Heap → Prop} (hN : args.length ≤ 31) (q : AWC Tryz.prog 31 g200 (RetQ Tryz.prog [.cell 2 115] R) (frOf args) h) : ACall Tryz.prog 200 args h R :=
  C_call Tryz.func200 (by kernel_rfl) com200 (by kernel_rfl) (by kernel_rfl) hN q

/-- ( *bindle/field.Reader).At -/
noncomputable def g201 : AC :=
 .seq (.reg [⟨none, some 2, .assign (.const (.int .i64 0))⟩])
 (.seq (.seq (.reg [⟨none, some 3, .move (.tmp 0)⟩,
    ⟨none, some 4, .binOp .eql 238 (.tmp 3) (.const (.pointer none)) 238⟩])
   (.cond (.tmp 4) (.seq (.reg [⟨none, some 2, .assign (.const (.int .i64 0))⟩])
     (.ret))
    (.skip)))
  (.seq (.reg [⟨none, some 5, .move (.tmp 0)⟩,
    ⟨none, some 6, .nilCheck (.tmp 5)⟩,
    ⟨none, some 7, .fieldAddr 298 (.tmp 6) 1⟩,
    ⟨none, some 8, .load 3 (.tmp 7)⟩,
    ⟨none, some 2, .assign (.tmp 8)⟩])
   (.ret)))
theorem com201 : com Tryz.prog 9 ((Tryz.f201.body).getD .skip) = g201 := by kernel_rfl
theorem enter201 {args : List Value} {h : Heap} {R : Value → Heap → Prop} (hN : args.length ≤ 9) (q : AWC Tryz.prog 9 g201 (RetQ Tryz.prog [.tmp 2] R) (frOf args) h) : ACall Tryz.prog 201 args h R :=
  C_call Tryz.func201 (by kernel_rfl) com201 (by kernel_rfl) (by kernel_rfl) hN q

/-- strings.Count -/
noncomputable def g205 : AC :=
 .seq (.reg [⟨none, some 4, .assign (.const (.int .i64 0))⟩])
 (.seq (.seq (.reg [⟨none, some 7, .move (.tmp 1)⟩,
    ⟨none, some 8, .call { callee := (.builtin .len), args := #[(.tmp 7)], argTypes := #[9] }⟩,
    ⟨none, some 9, .binOp .eql 3 (.tmp 8) (.const (.int .i64 0)) 3⟩])
   (.cond (.tmp 9) (.seq (.reg [⟨none, some 10, .move (.tmp 0)⟩,
      ⟨none, some 11, .call { callee := (.value (.func 249)), args := #[(.tmp 10)], argTypes := #[9] }⟩,
      ⟨none, some 12, .binOp .add 3 (.tmp 11) (.const (.int .i64 1)) 3⟩,
      ⟨none, some 4, .assign (.tmp 12)⟩])
     (.ret))
    (.skip)))
  (.seq (.seq (.reg [⟨none, some 13, .move (.tmp 1)⟩,
     ⟨none, some 14, .call { callee := (.builtin .len), args := #[(.tmp 13)], argTypes := #[9] }⟩,
     ⟨none, some 15, .binOp .eql 3 (.tmp 14) (.const (.int .i64 1)) 3⟩])
    (.cond (.tmp 15) (.seq (.reg [⟨none, some 16, .move (.tmp 0)⟩,
       ⟨none, some 17, .move (.tmp 1)⟩,
       ⟨none, some 18, .index 9 (.tmp 17) (.const (.int .i64 0))⟩,
       ⟨none, some 19, .call { callee := (.value (.func 251)), args := #[(.tmp 16), (.tmp 18)], argTypes := #[9, 5] }⟩,
       ⟨none, some 4, .assign (.tmp 19)⟩])
      (.ret))
     (.skip)))
   (.seq (.reg [⟨none, some 5, .assign (.const (.int .i64 0))⟩])
    (.block 0 (.loop (.block 1 (.seq (.reg [⟨none, some 20, .move (.tmp 0)⟩,
         ⟨none, some 21, .move (.tmp 1)⟩,
         ⟨none, some 22, .call { callee := (.value (.func 206)), args := #[(.tmp 20), (.tmp 21)], argTypes := #[9, 9] }⟩,
         ⟨none, some 6, .assign (.tmp 22)⟩])
        (.seq (.seq (.reg [⟨none, some 23, .move (.tmp 6)⟩,
           ⟨none, some 24, .binOp .eql 3 (.tmp 23) (.const (.int .i64 (-1))) 3⟩])
          (.cond (.tmp 24) (.seq (.reg [⟨none, some 25, .move (.tmp 5)⟩,
             ⟨none, some 4, .assign (.tmp 25)⟩])
            (.ret))
           (.skip)))
         (.seq (.reg [⟨none, some 26, .move (.tmp 5)⟩,
           ⟨none, some 27, .binOp .add 3 (.tmp 26) (.const (.int .i64 1)) 3⟩,
           ⟨none, some 5, .assign (.tmp 27)⟩])
          (.reg [⟨none, some 28, .move (.tmp 0)⟩,
           ⟨none, some 29, .move (.tmp 6)⟩,
           ⟨none, some 30, .move (.tmp 1)⟩,
           ⟨none, some 31, .call { callee := (.builtin .len), args := #[(.tmp 30)], argTypes := #[9] }⟩,
           ⟨none, some 32, .binOp .add 3 (.tmp 29) (.tmp 31) 3⟩,
           ⟨none, some 33, .slice 9 (.tmp 28) (some (.tmp 32)) none none⟩,
           ⟨none, some 0, .assign (.tmp 33)⟩]))))))))))
theorem com205 : com Tryz.prog 34 ((Tryz.f205.body).getD .skip) = g205 := by kernel_rfl
theorem enter205 {args : List Value} {h : Heap} {R : Value → Heap → Prop} (hN : args.length ≤ 34) (q : AWC Tryz.prog 34 g205 (RetQ Tryz.prog [.tmp 4] R) (frOf args) h) : ACall Tryz.prog 205 args h R :=
  C_call Tryz.func205 (by kernel_rfl) com205 (by kernel_rfl) (by kernel_rfl) hN q

/-- bindle/tokens.Right -/
noncomputable def g209 : AC :=
 .seq (.reg [⟨none, some 1, .box 279 (.tmp 0)⟩,
  ⟨none, some 2, .assign (.const (.bool false))⟩])
 (.seq (.seq (.reg [⟨none, some 3, .fieldAddr 279 (.tmp 1) 1⟩,
    ⟨none, some 4, .load 3 (.tmp 3)⟩,
    ⟨none, some 5, .binOp .eql 3 (.tmp 4) (.const (.int .i64 0)) 3⟩])
   (.cond (.tmp 5) (.seq (.reg [⟨none, some 6, .fieldAddr 279 (.tmp 1) 2⟩,
      ⟨none, some 7, .load 3 (.tmp 6)⟩,
      ⟨none, some 8, .binOp .eql 3 (.tmp 7) (.const (.int .i64 0)) 3⟩,
      ⟨none, some 2, .assign (.tmp 8)⟩])
     (.ret))
    (.skip)))
  (.seq (.reg [⟨none, some 9, .fieldAddr 279 (.tmp 1) 0⟩,
    ⟨none, some 10, .load 5 (.tmp 9)⟩,
    ⟨none, some 11, .binOp .eql 5 (.tmp 10) (.const (.int .u8 0)) 5⟩,
    ⟨none, some 12, .move (.tmp 11)⟩,
    ⟨some (some 12, true), some 13, .fieldAddr 279 (.tmp 1) 1⟩,
    ⟨some (some 12, true), some 14, .load 3 (.tmp 13)⟩,
    ⟨some (some 12, true), some 15, .call { callee := (.value (.func 256)), args := #[(.tmp 14), (.const (.int .i64 3)), (.const (.int .i64 258))], argTypes := #[3, 3, 3] }⟩,
    ⟨none, some 16, .pick (.tmp 12) (.tmp 15) (.const (.bool false))⟩,
    ⟨none, some 17, .move (.tmp 16)⟩,
    ⟨some (some 17, true), some 18, .fieldAddr 279 (.tmp 1) 2⟩,
    ⟨some (some 17, true), some 19, .load 3 (.tmp 18)⟩,
    ⟨some (some 17, true), some 20, .call { callee := (.value (.func 256)), args := #[(.tmp 19), (.const (.int .i64 1)), (.const (.int .i64 32768))], argTypes := #[3, 3, 3] }⟩,
    ⟨none, some 21, .pick (.tmp 17) (.tmp 20) (.const (.bool false))⟩,
    ⟨none, some 2, .assign (.tmp 21)⟩])
   (.ret)))
theorem com209 : com Tryz.prog 22 ((Tryz.f209.body).getD .skip) = g209 := by kernel_rfl
theorem enter209 {args : List Value} {h : Heap} {R : Value → Heap → Prop} (hN : args.length ≤ 22) (q : AWC Tryz.prog 22 g209 (RetQ Tryz.prog [.tmp 2] R) (frOf args) h) : ACall Tryz.prog 209 args h R :=
  C_call Tryz.func209 (by kernel_rfl) com209 (by kernel_rfl) (by kernel_rfl) hN q

/-- bindle/bits.width -/
noncomputable def g210 : AC :=
 .seq (.reg [⟨none, some 2, .assign (.const (.int .i64 0))⟩])
 (.seq (.reg [⟨none, some 3, .move (.tmp 0)⟩,
   ⟨none, some 4, .call { callee := (.builtin .min), args := #[(.const (.int .i64 32)), (.tmp 3)], argTypes := #[3, 3] }⟩,
   ⟨none, some 5, .call { callee := (.builtin .max), args := #[(.const (.int .i64 0)), (.tmp 4)], argTypes := #[3, 3] }⟩,
   ⟨none, some 2, .assign (.tmp 5)⟩])
  (.ret))
theorem com210 : com Tryz.prog 6 ((Tryz.f210.body).getD .skip) = g210 := by kernel_rfl
theorem enter210 {args : List Value} {h : Heap} {R : Value → Heap → Prop} (hN : args.length ≤ 6) (q : AWC Tryz.prog 6 g210 (RetQ Tryz.prog [.tmp 2] R) (frOf args) h) : ACall Tryz.prog 210 args h R :=
  C_call Tryz.func210 (by kernel_rfl) com210 (by kernel_rfl) (by kernel_rfl) hN q

/-- bindle/field.Get -/
noncomputable def g211 : AC :=
 .seq (.reg [⟨none, some 6, .assign (.const (.int .u32 0))⟩,
  ⟨none, some 7, .assign (.const (.bool false))⟩])
 (.seq (.reg [⟨none, some 11, .move (.tmp 2)⟩,
   ⟨none, some 12, .call { callee := (.value (.func 157)), args := #[(.tmp 11)], argTypes := #[3] }⟩,
   ⟨none, some 8, .assign (.tmp 12)⟩])
  (.seq (.seq (.reg [⟨none, some 13, .move (.tmp 1)⟩,
     ⟨none, some 14, .binOp .lss 3 (.tmp 13) (.const (.int .i64 0)) 3⟩,
     ⟨none, some 15, .move (.tmp 14)⟩,
     ⟨some (some 15, false), some 16, .move (.tmp 1)⟩,
     ⟨some (some 15, false), some 17, .move (.tmp 0)⟩,
     ⟨some (some 15, false), some 18, .call { callee := (.builtin .len), args := #[(.tmp 17)], argTypes := #[22] }⟩,
     ⟨some (some 15, false), some 19, .move (.tmp 8)⟩,
     ⟨some (some 15, false), some 20, .binOp .sub 3 (.tmp 18) (.tmp 19) 3⟩,
     ⟨some (some 15, false), some 21, .binOp .gtr 3 (.tmp 16) (.tmp 20) 3⟩,
     ⟨none, some 22, .pick (.tmp 15) (.const (.bool true)) (.tmp 21)⟩])
    (.cond (.tmp 22) (.seq (.reg [⟨none, some 6, .assign (.const (.int .u32 0))⟩,
       ⟨none, some 7, .assign (.const (.bool false))⟩])
      (.ret))
     (.skip)))
   (.seq (.reg [⟨none, some 9, .assign (.const (.int .u32 0))⟩])
    (.seq (.seq (.reg [⟨none, some 23, .move (.tmp 8)⟩,
       ⟨none, some 24, .binOp .sub 3 (.tmp 23) (.const (.int .i64 1)) 3⟩,
       ⟨none, some 10, .assign (.tmp 24)⟩])
      (.block 0 (.loop (.seq (.seq (.reg [⟨none, some 25, .move (.tmp 10)⟩,
           ⟨none, some 26, .binOp .geq 3 (.tmp 25) (.const (.int .i64 0)) 3⟩])
          (.cond (.tmp 26) (.skip)
           (.exit 0)))
         (.seq (.block 1 (.reg [⟨none, some 29, .move (.tmp 9)⟩,
            ⟨none, some 30, .binOp .shl 39 (.tmp 29) (.const (.int .u64 8)) 179⟩,
            ⟨none, some 31, .move (.tmp 0)⟩,
            ⟨none, some 32, .move (.tmp 1)⟩,
            ⟨none, some 33, .move (.tmp 10)⟩,
            ⟨none, some 34, .binOp .add 3 (.tmp 32) (.tmp 33) 3⟩,
            ⟨none, some 35, .indexAddr 22 (.tmp 31) (.tmp 34)⟩,
            ⟨none, some 36, .load 5 (.tmp 35)⟩,
            ⟨none, some 37, .convert 5 39 (.tmp 36)⟩,
            ⟨none, some 38, .binOp .or 39 (.tmp 30) (.tmp 37) 39⟩,
            ⟨none, some 9, .assign (.tmp 38)⟩]))
          (.reg [⟨none, some 27, .move (.tmp 10)⟩,
           ⟨none, some 28, .binOp .sub 3 (.tmp 27) (.const (.int .i64 1)) 3⟩,
           ⟨none, some 10, .assign (.tmp 28)⟩]))))))
     (.seq (.reg [⟨none, some 39, .move (.tmp 9)⟩,
       ⟨none, some 6, .assign (.tmp 39)⟩,
       ⟨none, some 7, .assign (.const (.bool true))⟩])
      (.ret))))))
theorem com211 : com Tryz.prog 40 ((Tryz.f211.body).getD .skip) = g211 := by kernel_rfl
theorem enter211 {args : List Value} {h : Heap} {R : Value → Heap → Prop} (hN : args.length ≤ 40) (q : AWC Tryz.prog 40 g211 (RetQ Tryz.prog [.tmp 6, .tmp 7] R) (frOf args) h) : ACall Tryz.prog 211 args h R :=
  C_call Tryz.func211 (by kernel_rfl) com211 (by kernel_rfl) (by kernel_rfl) hN q

/-- bindle/foot.Take -/
noncomputable def g218 : AC :=
 .seq (.reg [⟨none, some 4, .alloc 210⟩,
  ⟨none, some 5, .assign (.const (.int .i64 0))⟩])
 (.seq (.seq (.reg [⟨none, some 9, .move (.tmp 1)⟩,
    ⟨none, some 10, .call { callee := (.builtin .len), args := #[(.tmp 9)], argTypes := #[22] }⟩,
    ⟨none, some 11, .binOp .lss 3 (.tmp 10) (.const (.int .i64 20)) 3⟩])
   (.cond (.tmp 11) (.seq (.reg [⟨none, some 12, .build 210 #[]⟩,
      ⟨none, none, .store 210 (.tmp 4) (.tmp 12)⟩,
      ⟨none, some 5, .assign (.const (.int .i64 2))⟩])
     (.ret))
    (.skip)))
  (.seq (.reg [⟨none, some 13, .move (.tmp 1)⟩,
    ⟨none, some 14, .move (.tmp 1)⟩,
    ⟨none, some 15, .call { callee := (.builtin .len), args := #[(.tmp 14)], argTypes := #[22] }⟩,
    ⟨none, some 16, .binOp .sub 3 (.tmp 15) (.const (.int .i64 20)) 3⟩,
    ⟨none, some 17, .slice 22 (.tmp 13) (some (.tmp 16)) none none⟩,
    ⟨none, some 1, .assign (.tmp 17)⟩])
   (.seq (.reg [⟨none, some 18, .move (.tmp 1)⟩,
     ⟨none, some 19, .call { callee := (.value (.func 164)), args := #[(.tmp 18)], argTypes := #[22] }⟩,
     ⟨none, some 6, .assign (.tmp 19)⟩])
    (.seq (.reg [⟨none, some 20, .move (.tmp 6)⟩,
      ⟨none, some 21, .call { callee := (.value (.func 166)), args := #[(.tmp 20), (.const (.int .i64 4))], argTypes := #[238, 3] }⟩,
      ⟨none, some 22, .convert 22 9 (.tmp 21)⟩,
      ⟨none, some 7, .assign (.tmp 22)⟩])
     (.seq (.reg [⟨none, some 23, .move (.tmp 6)⟩,
       ⟨none, some 24, .call { callee := (.value (.func 165)), args := #[(.tmp 23), (.const (.int .i64 4))], argTypes := #[238, 3] }⟩,
       ⟨none, some 25, .convert 39 3 (.tmp 24)⟩,
       ⟨none, some 26, .move (.tmp 6)⟩,
       ⟨none, some 27, .call { callee := (.value (.func 165)), args := #[(.tmp 26), (.const (.int .i64 4))], argTypes := #[238, 3] }⟩,
       ⟨none, some 28, .convert 39 3 (.tmp 27)⟩,
       ⟨none, some 29, .move (.tmp 6)⟩,
       ⟨none, some 30, .call { callee := (.value (.func 165)), args := #[(.tmp 29), (.const (.int .i64 4))], argTypes := #[238, 3] }⟩,
       ⟨none, some 31, .build 210 #[(0, (.tmp 25)), (1, (.tmp 28)), (2, (.tmp 30))]⟩,
       ⟨none, some 8, .alloc 210⟩,
       ⟨none, none, .store 210 (.tmp 8) (.tmp 31)⟩])
      (.seq (.block 0 (.seq (.reg [⟨none, some 33, .move (.tmp 7)⟩,
          ⟨none, some 34, .binOp .neq 9 (.tmp 33) (.const (.string { data := #[70, 79, 79, 84] })) 9⟩,
          ⟨none, some 32, .assign (.tmp 34)⟩])
         (.cond (.tmp 32) (.seq (.reg [⟨none, some 35, .build 210 #[]⟩,
            ⟨none, none, .store 210 (.tmp 4) (.tmp 35)⟩,
            ⟨none, some 5, .assign (.const (.int .i64 3))⟩])
           (.ret))
          (.seq (.reg [⟨none, some 37, .move (.tmp 6)⟩,
            ⟨none, some 38, .call { callee := (.value (.func 165)), args := #[(.tmp 37), (.const (.int .i64 4))], argTypes := #[238, 3] }⟩,
            ⟨none, some 39, .move (.tmp 0)⟩,
            ⟨none, some 40, .move (.tmp 1)⟩,
            ⟨none, some 41, .slice 22 (.tmp 40) none (some (.const (.int .i64 16))) none⟩,
            ⟨none, some 42, .call { callee := (.value (.func 68)), args := #[(.tmp 39), (.tmp 41)], argTypes := #[94, 22] }⟩,
            ⟨none, some 43, .binOp .neq 39 (.tmp 38) (.tmp 42) 39⟩,
            ⟨none, some 36, .assign (.tmp 43)⟩])
           (.cond (.tmp 36) (.seq (.reg [⟨none, some 44, .build 210 #[]⟩,
              ⟨none, none, .store 210 (.tmp 4) (.tmp 44)⟩,
              ⟨none, some 5, .assign (.const (.int .i64 4))⟩])
             (.ret))
            (.seq (.reg [⟨none, some 46, .load 210 (.tmp 8)⟩,
              ⟨none, some 47, .call { callee := (.value (.func 186)), args := #[(.tmp 46)], argTypes := #[210] }⟩,
              ⟨none, some 48, .unOp .not 4 (.tmp 47)⟩,
              ⟨none, some 45, .assign (.tmp 48)⟩])
             (.cond (.tmp 45) (.seq (.reg [⟨none, some 49, .build 210 #[]⟩,
                ⟨none, none, .store 210 (.tmp 4) (.tmp 49)⟩,
                ⟨none, some 5, .assign (.const (.int .i64 3))⟩])
               (.ret))
              (.skip))))))))
       (.seq (.reg [⟨none, some 50, .load 210 (.tmp 8)⟩,
         ⟨none, none, .store 210 (.tmp 4) (.tmp 50)⟩,
         ⟨none, some 5, .assign (.const (.int .i64 0))⟩])
        (.ret))))))))
theorem com218 : com Tryz.prog 51 ((Tryz.f218.body).getD .skip) = g218 := by kernel_rfl
theorem enter218 {args : List Value} {h : Heap} {R : Value → Heap → Prop} (hN : args.length ≤ 51) (q : AWC Tryz.prog 51 g218 (RetQ Tryz.prog [.cell 4 210, .tmp 5] R) (frOf args) h) : ACall Tryz.prog 218 args h R :=
  C_call Tryz.func218 (by kernel_rfl) com218 (by kernel_rfl) (by kernel_rfl) hN q

/-- bindle/entry.Take -/
noncomputable def g219 : AC :=
 .seq (.reg [⟨none, some 4, .assign (.const (.slice none 0 0))⟩,
  ⟨none, some 5, .assign (.const (.int .i64 0))⟩])
 (.seq (.seq (.reg [⟨none, some 8, .move (.tmp 1)⟩,
    ⟨none, some 9, .call { callee := (.value (.func 148)), args := #[(.tmp 8), (.const (.int .i64 0)), (.const (.int .i64 200))], argTypes := #[3, 3, 3] }⟩,
    ⟨none, some 10, .unOp .not 4 (.tmp 9)⟩])
   (.cond (.tmp 10) (.seq (.reg [⟨none, some 4, .assign (.const (.slice none 0 0))⟩,
      ⟨none, some 5, .assign (.const (.int .i64 14))⟩])
     (.ret))
    (.skip)))
  (.seq (.reg [⟨none, some 11, .move (.tmp 0)⟩,
    ⟨none, some 12, .call { callee := (.value (.func 164)), args := #[(.tmp 11)], argTypes := #[22] }⟩,
    ⟨none, some 6, .assign (.tmp 12)⟩])
   (.seq (.reg [⟨none, some 7, .assign (.const (.slice none 0 0))⟩])
    (.seq (.seq (.reg [⟨none, some 13, .move (.tmp 1)⟩,
       ⟨none, some 14, .move (.const (.int .i64 0))⟩])
      (.block 0 (.loop (.seq (.reg [⟨none, some 15, .binOp .lss 3 (.tmp 14) (.tmp 13) 3⟩])
         (.seq (.cond (.tmp 15) (.skip)
           (.exit 0))
          (.seq (.block 1 (.reg [⟨none, some 16, .move (.tmp 7)⟩,
             ⟨none, some 17, .move (.tmp 6)⟩,
             ⟨none, some 18, .call { callee := (.value (.func 262)), args := #[(.tmp 17)], argTypes := #[238] }⟩,
             ⟨none, some 19, .buildSlice 91 1 #[(0, (.tmp 18))]⟩,
             ⟨none, some 20, .call { callee := (.builtin .append), args := #[(.tmp 16), (.tmp 19)], argTypes := #[91, 91] }⟩,
             ⟨none, some 7, .assign (.tmp 20)⟩]))
           (.reg [⟨none, some 21, .binOp .add 3 (.tmp 14) (.const (.int .i64 1)) 3⟩,
            ⟨none, some 14, .move (.tmp 21)⟩])))))))
     (.seq (.block 2 (.seq (.reg [⟨none, some 23, .move (.tmp 6)⟩,
         ⟨none, some 24, .call { callee := (.value (.func 167)), args := #[(.tmp 23)], argTypes := #[238] }⟩,
         ⟨none, some 25, .unOp .not 4 (.tmp 24)⟩,
         ⟨none, some 22, .assign (.tmp 25)⟩])
        (.cond (.tmp 22) (.seq (.reg [⟨none, some 4, .assign (.const (.slice none 0 0))⟩,
           ⟨none, some 5, .assign (.const (.int .i64 2))⟩])
          (.ret))
         (.seq (.reg [⟨none, some 27, .move (.tmp 6)⟩,
           ⟨none, some 28, .call { callee := (.value (.func 168)), args := #[(.tmp 27)], argTypes := #[238] }⟩,
           ⟨none, some 29, .binOp .gtr 3 (.tmp 28) (.const (.int .i64 0)) 3⟩,
           ⟨none, some 30, .move (.tmp 29)⟩,
           ⟨some (some 30, false), some 31, .move (.tmp 7)⟩,
           ⟨some (some 30, false), some 32, .call { callee := (.value (.func 80)), args := #[(.tmp 31)], argTypes := #[91] }⟩,
           ⟨some (some 30, false), some 33, .unOp .not 4 (.tmp 32)⟩,
           ⟨none, some 34, .pick (.tmp 30) (.const (.bool true)) (.tmp 33)⟩,
           ⟨none, some 26, .assign (.tmp 34)⟩])
          (.cond (.tmp 26) (.seq (.reg [⟨none, some 4, .assign (.const (.slice none 0 0))⟩,
             ⟨none, some 5, .assign (.const (.int .i64 3))⟩])
            (.ret))
           (.skip))))))
      (.seq (.reg [⟨none, some 35, .move (.tmp 7)⟩,
        ⟨none, some 4, .assign (.tmp 35)⟩,
        ⟨none, some 5, .assign (.const (.int .i64 0))⟩])
       (.ret)))))))
theorem com219 : com Tryz.prog 36 ((Tryz.f219.body).getD .skip) = g219 := by kernel_rfl
theorem enter219 {args : List Value} {h : Heap} {R : Value → Heap → Prop} (hN : args.length ≤ 36) (q : AWC Tryz.prog 36 g219 (RetQ Tryz.prog [.tmp 4, .tmp 5] R) (frOf args) h) : ACall Tryz.prog 219 args h R :=
  C_call Tryz.func219 (by kernel_rfl) com219 (by kernel_rfl) (by kernel_rfl) hN q

/-- ( *bindle/names.Dir).turn -/
noncomputable def g220 : AC :=
 .seq (.reg [⟨none, some 3, .box 312 (.tmp 1)⟩,
  ⟨none, some 4, .assign (.const (.int .i64 0))⟩])
 (.seq (.seq (.reg [⟨none, some 5, .move (.tmp 0)⟩,
    ⟨none, some 6, .nilCheck (.tmp 5)⟩,
    ⟨none, some 7, .fieldAddr 74 (.tmp 6) 0⟩,
    ⟨none, some 8, .load 71 (.tmp 7)⟩,
    ⟨none, some 9, .binOp .eql 71 (.tmp 8) (.const (.map none)) 71⟩])
   (.cond (.tmp 9) (.reg [⟨none, some 10, .move (.tmp 0)⟩,
     ⟨none, some 11, .makeMap 71 none⟩,
     ⟨none, some 12, .nilCheck (.tmp 10)⟩,
     ⟨none, some 13, .fieldAddr 74 (.tmp 12) 0⟩,
     ⟨none, none, .store 71 (.tmp 13) (.tmp 11)⟩])
    (.skip)))
  (.seq (.reg [⟨none, some 14, .move (.tmp 0)⟩,
    ⟨none, some 15, .nilCheck (.tmp 14)⟩,
    ⟨none, some 16, .fieldAddr 74 (.tmp 15) 0⟩,
    ⟨none, some 17, .load 71 (.tmp 16)⟩,
    ⟨none, some 18, .load 312 (.tmp 3)⟩,
    ⟨none, some 19, .call { callee := (.value (.func 231)), args := #[(.tmp 17), (.tmp 18)], argTypes := #[71, 312] }⟩])
   (.seq (.draw [⟨⟨none, some 20, .move (.tmp 0)⟩, []⟩,
      ⟨⟨none, some 21, .move (.tmp 0)⟩, []⟩,
      ⟨⟨none, some 22, .nilCheck (.tmp 21)⟩, []⟩,
      ⟨⟨none, some 23, .fieldAddr 74 (.tmp 22) 2⟩, []⟩,
      ⟨⟨none, some 24, .load 72 (.tmp 23)⟩, []⟩,
      ⟨⟨none, some 25, .load 312 (.tmp 3)⟩, []⟩,
      ⟨⟨none, some 26, .buildSlice 72 1 #[(0, (.tmp 25))]⟩, [⟨none, some 24, .load 72 (.tmp 23)⟩]⟩,
      ⟨⟨none, some 27, .call { callee := (.builtin .append), args := #[(.tmp 24), (.tmp 26)], argTypes := #[72, 72] }⟩, []⟩,
      ⟨⟨none, some 28, .nilCheck (.tmp 20)⟩, []⟩,
      ⟨⟨none, some 29, .fieldAddr 74 (.tmp 28) 2⟩, []⟩,
      ⟨⟨none, none, .store 72 (.tmp 29) (.tmp 27)⟩, []⟩])
    (.seq (.reg [⟨none, some 4, .assign (.const (.int .i64 0))⟩])
     (.ret)))))
theorem com220 : com Tryz.prog 30 ((Tryz.f220.body).getD .skip) = g220 := by kernel_rfl
theorem enter220 {args : List Value} {h : Heap} {R : Value → Heap → Prop} (hN : args.length ≤ 30) (q : AWC Tryz.prog 30 g220 (RetQ Tryz.prog [.tmp 4] R) (frOf args) h) : ACall Tryz.prog 220 args h R :=
  C_call Tryz.func220 (by kernel_rfl) com220 (by kernel_rfl) (by kernel_rfl) hN q

/-- bindle/names.named -/
noncomputable def g221 : AC :=
 .seq (.reg [⟨none, some 2, .assign (.const (.bool false))⟩])
 (.seq (.reg [⟨none, some 3, .move (.tmp 0)⟩,
   ⟨none, some 4, .call { callee := (.builtin .len), args := #[(.tmp 3)], argTypes := #[9] }⟩,
   ⟨none, some 5, .binOp .geq 3 (.tmp 4) (.const (.int .i64 1)) 3⟩,
   ⟨none, some 6, .move (.tmp 5)⟩,
   ⟨some (some 6, true), some 7, .move (.tmp 0)⟩,
   ⟨some (some 6, true), some 8, .call { callee := (.builtin .len), args := #[(.tmp 7)], argTypes := #[9] }⟩,
   ⟨some (some 6, true), some 9, .binOp .leq 3 (.tmp 8) (.const (.int .i64 100)) 3⟩,
   ⟨none, some 10, .pick (.tmp 6) (.tmp 9) (.const (.bool false))⟩,
   ⟨none, some 2, .assign (.tmp 10)⟩])
  (.ret))
theorem com221 : com Tryz.prog 11 ((Tryz.f221.body).getD .skip) = g221 := by kernel_rfl
theorem enter221 {args : List Value} {h : Heap} {R : Value → Heap → Prop} (hN : args.length ≤ 11) (q : AWC Tryz.prog 11 g221 (RetQ Tryz.prog [.tmp 2] R) (frOf args) h) : ACall Tryz.prog 221 args h R :=
  C_call Tryz.func221 (by kernel_rfl) com221 (by kernel_rfl) (by kernel_rfl) hN q

/-- ( *bindle/names.Dir).Rename -/
noncomputable def g222 : AC :=
 .seq (.reg [⟨none, some 6, .assign (.const (.int .i64 0))⟩])
 (.seq (.seq (.reg [⟨none, some 9, .move (.tmp 0)⟩,
    ⟨none, some 10, .binOp .eql 243 (.tmp 9) (.const (.pointer none)) 243⟩])
   (.cond (.tmp 10) (.seq (.reg [⟨none, some 6, .assign (.const (.int .i64 1))⟩])
     (.ret))
    (.skip)))
  (.seq (.reg [⟨none, some 12, .move (.tmp 0)⟩,
    ⟨none, some 13, .nilCheck (.tmp 12)⟩,
    ⟨none, some 14, .fieldAddr 74 (.tmp 13) 0⟩,
    ⟨none, some 15, .load 71 (.tmp 14)⟩,
    ⟨none, some 16, .move (.tmp 1)⟩,
    ⟨none, some 17, .lookup 71 (.tmp 15) (.tmp 16) true⟩,
    ⟨none, some 11, .move (.tmp 17)⟩,
    ⟨none, some 18, .extract (.tmp 11) 0⟩,
    ⟨none, some 19, .extract (.tmp 11) 1⟩,
    ⟨none, some 7, .assign (.tmp 18)⟩,
    ⟨none, some 8, .assign (.tmp 19)⟩])
   (.seq (.block 0 (.seq (.reg [⟨none, some 21, .move (.tmp 2)⟩,
       ⟨none, some 22, .call { callee := (.value (.func 221)), args := #[(.tmp 21)], argTypes := #[9] }⟩,
       ⟨none, some 23, .unOp .not 4 (.tmp 22)⟩,
       ⟨none, some 20, .assign (.tmp 23)⟩])
      (.cond (.tmp 20) (.seq (.reg [⟨none, some 6, .assign (.const (.int .i64 6))⟩])
        (.ret))
       (.seq (.reg [⟨none, some 25, .move (.tmp 8)⟩,
         ⟨none, some 26, .unOp .not 4 (.tmp 25)⟩,
         ⟨none, some 24, .assign (.tmp 26)⟩])
        (.cond (.tmp 24) (.seq (.reg [⟨none, some 6, .assign (.const (.int .i64 7))⟩])
          (.ret))
         (.skip))))))
    (.seq (.reg [⟨none, some 27, .move (.tmp 0)⟩,
      ⟨none, some 28, .move (.tmp 1)⟩,
      ⟨none, some 29, .move (.tmp 2)⟩,
      ⟨none, some 30, .build 312 #[(0, (.tmp 28)), (1, (.tmp 29))]⟩,
      ⟨none, some 31, .call { callee := (.value (.func 220)), args := #[(.tmp 27), (.tmp 30)], argTypes := #[243, 312] }⟩,
      ⟨none, some 6, .assign (.tmp 31)⟩])
     (.ret)))))
theorem com222 : com Tryz.prog 32 ((Tryz.f222.body).getD .skip) = g222 := by kernel_rfl
theorem enter222 {args : List Value} {h : Heap} {R : Value → Heap → Prop} (hN : args.length ≤ 32) (q : AWC Tryz.prog 32 g222 (RetQ Tryz.prog [.tmp 6] R) (frOf args) h) : ACall Tryz.prog 222 args h R :=
  C_call Tryz.func222 (by kernel_rfl) com222 (by kernel_rfl) (by kernel_rfl) hN q

/-- slices.Clone[[]int,int] -/
noncomputable def g228 : AC :=
 .seq (.reg [⟨none, some 2, .assign (.const (.slice none 0 0))⟩])
 (.seq (.seq (.reg [⟨none, some 3, .move (.tmp 0)⟩,
    ⟨none, some 4, .binOp .eql 75 (.tmp 3) (.const (.slice none 0 0)) 75⟩])
   (.cond (.tmp 4) (.seq (.reg [⟨none, some 2, .assign (.const (.slice none 0 0))⟩])
     (.ret))
    (.skip)))
  (.seq (.reg [⟨none, some 5, .buildSlice 75 0 #[]⟩,
    ⟨none, some 6, .move (.tmp 0)⟩,
    ⟨none, some 7, .call { callee := (.builtin .append), args := #[(.tmp 5), (.tmp 6)], argTypes := #[75, 75] }⟩,
    ⟨none, some 2, .assign (.tmp 7)⟩])
   (.ret)))
theorem com228 : com Tryz.prog 8 ((Tryz.f228.body).getD .skip) = g228 := by kernel_rfl
theorem enter228 {args : List Value} {h : Heap} {R : Value → Heap → Prop} (hN : args.length ≤ 8) (q : AWC Tryz.prog 8 g228 (RetQ Tryz.prog [.tmp 2] R) (frOf args) h) : ACall Tryz.prog 228 args h R :=
  C_call Tryz.func228 (by kernel_rfl) com228 (by kernel_rfl) (by kernel_rfl) hN q

/-- bindle/names.do -/
noncomputable def g231 : AC :=
 .seq (.reg [⟨none, some 3, .box 312 (.tmp 1)⟩])
 (.seq (.reg [⟨none, some 7, .move (.tmp 0)⟩,
   ⟨none, some 8, .fieldAddr 312 (.tmp 3) 0⟩,
   ⟨none, some 9, .load 9 (.tmp 8)⟩,
   ⟨none, some 10, .lookup 71 (.tmp 7) (.tmp 9) true⟩,
   ⟨none, some 6, .move (.tmp 10)⟩,
   ⟨none, some 11, .extract (.tmp 6) 0⟩,
   ⟨none, some 12, .extract (.tmp 6) 1⟩,
   ⟨none, some 4, .assign (.tmp 11)⟩,
   ⟨none, some 5, .assign (.tmp 12)⟩])
  (.seq (.seq (.reg [⟨none, some 13, .move (.tmp 5)⟩,
     ⟨none, some 14, .unOp .not 4 (.tmp 13)⟩])
    (.cond (.tmp 14) (.reg [⟨none, some 15, .fieldAddr 312 (.tmp 3) 2⟩,
      ⟨none, some 16, .load 3 (.tmp 15)⟩,
      ⟨none, some 4, .assign (.tmp 16)⟩])
     (.skip)))
   (.seq (.reg [⟨none, some 17, .move (.tmp 0)⟩,
     ⟨none, some 18, .fieldAddr 312 (.tmp 3) 0⟩,
     ⟨none, some 19, .load 9 (.tmp 18)⟩,
     ⟨none, none, .call { callee := (.builtin .delete), args := #[(.tmp 17), (.tmp 19)], argTypes := #[71, 9] }⟩])
    (.seq (.reg [⟨none, some 20, .fieldAddr 312 (.tmp 3) 1⟩,
      ⟨none, some 21, .load 9 (.tmp 20)⟩,
      ⟨none, some 22, .binOp .neq 9 (.tmp 21) (.const (.string { data := #[] })) 9⟩])
     (.cond (.tmp 22) (.reg [⟨none, some 23, .move (.tmp 0)⟩,
       ⟨none, some 24, .fieldAddr 312 (.tmp 3) 1⟩,
       ⟨none, some 25, .load 9 (.tmp 24)⟩,
       ⟨none, some 26, .move (.tmp 4)⟩,
       ⟨none, none, .mapUpdate 71 (.tmp 23) (.tmp 25) (.tmp 26)⟩])
      (.skip))))))
theorem com231 : com Tryz.prog 27 ((Tryz.f231.body).getD .skip) = g231 := by kernel_rfl
theorem enter231 {args : List Value} {h : Heap} {R : Value → Heap → Prop} (hN : args.length ≤ 27) (q : AWC Tryz.prog 27 g231 (RetQ Tryz.prog [] R) (frOf args) h) : ACall Tryz.prog 231 args h R :=
  C_call Tryz.func231 (by kernel_rfl) com231 (by kernel_rfl) (by kernel_rfl) hN q

/-- slices.ContainsFunc[[]bindle/names.change,bindle/names.change] -/
noncomputable def g232 : AC :=
 .seq (.reg [⟨none, some 4, .assign (.const (.bool false))⟩])
 (.seq (.reg [⟨none, some 5, .move (.tmp 0)⟩,
   ⟨none, some 6, .move (.tmp 1)⟩,
   ⟨none, some 7, .call { callee := (.value (.func 265)), args := #[(.tmp 5), (.tmp 6)], argTypes := #[72, 323] }⟩,
   ⟨none, some 8, .binOp .geq 3 (.tmp 7) (.const (.int .i64 0)) 3⟩,
   ⟨none, some 4, .assign (.tmp 8)⟩])
  (.ret))
theorem com232 : com Tryz.prog 9 ((Tryz.f232.body).getD .skip) = g232 := by kernel_rfl
theorem enter232 {args : List Value} {h : Heap} {R : Value → Heap → Prop} (hN : args.length ≤ 9) (q : AWC Tryz.prog 9 g232 (RetQ Tryz.prog [.tmp 4] R) (frOf args) h) : ACall Tryz.prog 232 args h R :=
  C_call Tryz.func232 (by kernel_rfl) com232 (by kernel_rfl) (by kernel_rfl) hN q

/-- ( *bindle/names.Dir).Linked$1 -/
noncomputable def g233 : AC :=
 .seq (.reg [⟨none, some 2, .box 312 (.tmp 0)⟩,
  ⟨none, some 3, .assign (.const (.bool false))⟩])
 (.seq (.reg [⟨none, some 4, .fieldAddr 312 (.tmp 2) 0⟩,
   ⟨none, some 5, .load 9 (.tmp 4)⟩,
   ⟨none, some 6, .binOp .eql 9 (.tmp 5) (.const (.string { data := #[] })) 9⟩,
   ⟨none, some 7, .move (.tmp 6)⟩,
   ⟨some (some 7, true), some 8, .fieldAddr 312 (.tmp 2) 2⟩,
   ⟨some (some 7, true), some 9, .load 3 (.tmp 8)⟩,
   ⟨some (some 7, true), some 10, .load 3 (.tmp 1)⟩,
   ⟨some (some 7, true), some 11, .binOp .eql 3 (.tmp 9) (.tmp 10) 3⟩,
   ⟨none, some 12, .pick (.tmp 7) (.tmp 11) (.const (.bool false))⟩,
   ⟨none, some 3, .assign (.tmp 12)⟩])
  (.ret))
theorem com233 : com Tryz.prog 13 ((Tryz.f233.body).getD .skip) = g233 := by kernel_rfl
theorem enter233 {args : List Value} {h : Heap} {R : Value → Heap → Prop} (hN : args.length ≤ 13) (q : AWC Tryz.prog 13 g233 (RetQ Tryz.prog [.tmp 3] R) (frOf args) h) : ACall Tryz.prog 233 args h R :=
  C_call Tryz.func233 (by kernel_rfl) com233 (by kernel_rfl) (by kernel_rfl) hN q

/-- bindle/symbol.Split -/
noncomputable def g237 : AC :=
 .seq (.reg [⟨none, some 1, .box 279 (.tmp 0)⟩,
  ⟨none, some 2, .alloc 274⟩,
  ⟨none, some 3, .assign (.const (.bool false))⟩])
 (.seq (.seq (.reg [⟨none, some 8, .load 279 (.tmp 1)⟩,
    ⟨none, some 9, .call { callee := (.value (.func 209)), args := #[(.tmp 8)], argTypes := #[279] }⟩,
    ⟨none, some 10, .unOp .not 4 (.tmp 9)⟩])
   (.cond (.tmp 10) (.seq (.reg [⟨none, some 11, .build 274 #[]⟩,
      ⟨none, none, .store 274 (.tmp 2) (.tmp 11)⟩,
      ⟨none, some 3, .assign (.const (.bool false))⟩])
     (.ret))
    (.skip)))
  (.seq (.seq (.reg [⟨none, some 12, .fieldAddr 279 (.tmp 1) 1⟩,
     ⟨none, some 13, .load 3 (.tmp 12)⟩,
     ⟨none, some 14, .binOp .eql 3 (.tmp 13) (.const (.int .i64 0)) 3⟩])
    (.cond (.tmp 14) (.seq (.reg [⟨none, some 15, .fieldAddr 279 (.tmp 1) 0⟩,
       ⟨none, some 16, .load 5 (.tmp 15)⟩,
       ⟨none, some 17, .convert 5 3 (.tmp 16)⟩,
       ⟨none, some 18, .build 272 #[(0, (.tmp 17))]⟩,
       ⟨none, some 19, .build 274 #[(0, (.tmp 18))]⟩,
       ⟨none, none, .store 274 (.tmp 2) (.tmp 19)⟩,
       ⟨none, some 3, .assign (.const (.bool true))⟩])
      (.ret))
     (.skip)))
   (.seq (.reg [⟨none, some 21, .fieldAddr 279 (.tmp 1) 1⟩,
     ⟨none, some 22, .load 3 (.tmp 21)⟩,
     ⟨none, some 23, .binOp .sub 3 (.tmp 22) (.const (.int .i64 3)) 3⟩,
     ⟨none, some 24, .call { callee := (.value (.func 269)), args := #[(.tmp 23)], argTypes := #[3] }⟩,
     ⟨none, some 20, .move (.tmp 24)⟩,
     ⟨none, some 25, .extract (.tmp 20) 0⟩,
     ⟨none, some 26, .extract (.tmp 20) 1⟩,
     ⟨none, some 4, .alloc 272⟩,
     ⟨none, none, .store 272 (.tmp 4) (.tmp 25)⟩,
     ⟨none, some 5, .assign (.tmp 26)⟩])
    (.seq (.reg [⟨none, some 28, .fieldAddr 279 (.tmp 1) 2⟩,
      ⟨none, some 29, .load 3 (.tmp 28)⟩,
      ⟨none, some 30, .binOp .sub 3 (.tmp 29) (.const (.int .i64 1)) 3⟩,
      ⟨none, some 31, .call { callee := (.value (.func 269)), args := #[(.tmp 30)], argTypes := #[3] }⟩,
      ⟨none, some 27, .move (.tmp 31)⟩,
      ⟨none, some 32, .extract (.tmp 27) 0⟩,
      ⟨none, some 33, .extract (.tmp 27) 1⟩,
      ⟨none, some 6, .alloc 272⟩,
      ⟨none, none, .store 272 (.tmp 6) (.tmp 32)⟩,
      ⟨none, some 7, .assign (.tmp 33)⟩])
     (.seq (.reg [⟨none, some 34, .fieldAddr 272 (.tmp 4) 0⟩,
       ⟨none, some 35, .load 3 (.tmp 34)⟩,
       ⟨none, some 36, .binOp .add 3 (.tmp 35) (.const (.int .i64 257)) 3⟩,
       ⟨none, some 37, .fieldAddr 272 (.tmp 4) 0⟩,
       ⟨none, none, .store 3 (.tmp 37) (.tmp 36)⟩])
      (.seq (.reg [⟨none, some 38, .load 272 (.tmp 4)⟩,
        ⟨none, some 39, .load 272 (.tmp 6)⟩,
        ⟨none, some 40, .build 274 #[(0, (.tmp 38)), (1, (.tmp 39)), (2, (.const (.bool true)))]⟩,
        ⟨none, none, .store 274 (.tmp 2) (.tmp 40)⟩,
        ⟨none, some 3, .assign (.const (.bool true))⟩])
       (.ret)))))))
theorem com237 : com Tryz.prog 41 ((Tryz.f237.body).getD .skip) = g237 := by kernel_rfl
theorem enter237 {args : List Value} {h : Heap} {R : Value → Heap → Prop} (hN : args.length ≤ 41) (q : AWC Tryz.prog 41 g237 (RetQ Tryz.prog [.cell 2 274, .tmp 3] R) (frOf args) h) : ACall Tryz.prog 237 args h R :=
  C_call Tryz.func237 (by kernel_rfl) com237 (by kernel_rfl) (by kernel_rfl) hN q

/-- bindle/weigh.Lengths -/
noncomputable def g238 : AC :=
 .seq (.reg [⟨none, some 2, .assign (.const (.slice none 0 0))⟩,
  ⟨none, some 3, .assign (.const (.int .i64 0))⟩])
 (.seq (.block 0 (.seq (.reg [⟨none, some 14, .move (.tmp 0)⟩,
     ⟨none, some 15, .call { callee := (.builtin .len), args := #[(.tmp 14)], argTypes := #[75] }⟩,
     ⟨none, some 16, .binOp .gtr 3 (.tmp 15) (.const (.int .i64 320)) 3⟩,
     ⟨none, some 13, .assign (.tmp 16)⟩])
    (.cond (.tmp 13) (.seq (.reg [⟨none, some 2, .assign (.const (.slice none 0 0))⟩,
       ⟨none, some 3, .assign (.const (.int .i64 5))⟩])
      (.ret))
     (.seq (.reg [⟨none, some 18, .move (.tmp 0)⟩,
       ⟨none, some 19, .call { callee := (.value (.func 270)), args := #[(.tmp 18), (.const (.int .i64 1073741824))], argTypes := #[75, 3] }⟩,
       ⟨none, some 20, .unOp .not 4 (.tmp 19)⟩,
       ⟨none, some 17, .assign (.tmp 20)⟩])
      (.cond (.tmp 17) (.seq (.reg [⟨none, some 2, .assign (.const (.slice none 0 0))⟩,
         ⟨none, some 3, .assign (.const (.int .i64 1))⟩])
        (.ret))
       (.skip))))))
  (.seq (.reg [⟨none, some 21, .move (.tmp 0)⟩,
    ⟨none, some 22, .call { callee := (.builtin .len), args := #[(.tmp 21)], argTypes := #[75] }⟩,
    ⟨none, some 23, .makeSlice 75 (.tmp 22) (.tmp 22)⟩,
    ⟨none, some 4, .alloc 75⟩,
    ⟨none, none, .store 75 (.tmp 4) (.tmp 23)⟩])
   (.seq (.reg [⟨none, some 24, .move (.tmp 0)⟩,
     ⟨none, some 25, .call { callee := (.value (.func 271)), args := #[(.tmp 24)], argTypes := #[75] }⟩,
     ⟨none, some 5, .alloc 75⟩,
     ⟨none, none, .store 75 (.tmp 5) (.tmp 25)⟩])
    (.seq (.seq (.reg [⟨none, some 26, .load 75 (.tmp 5)⟩,
       ⟨none, some 27, .call { callee := (.builtin .len), args := #[(.tmp 26)], argTypes := #[75] }⟩,
       ⟨none, some 28, .binOp .eql 3 (.tmp 27) (.const (.int .i64 1)) 3⟩])
      (.cond (.tmp 28) (.reg [⟨none, some 29, .load 75 (.tmp 4)⟩,
        ⟨none, some 30, .load 75 (.tmp 5)⟩,
        ⟨none, some 31, .indexAddr 75 (.tmp 30) (.const (.int .i64 0))⟩,
        ⟨none, some 32, .load 3 (.tmp 31)⟩,
        ⟨none, some 33, .indexAddr 75 (.tmp 29) (.tmp 32)⟩,
        ⟨none, none, .store 3 (.tmp 33) (.const (.int .i64 1))⟩])
       (.skip)))
     (.seq (.seq (.reg [⟨none, some 34, .load 75 (.tmp 5)⟩,
        ⟨none, some 35, .call { callee := (.builtin .len), args := #[(.tmp 34)], argTypes := #[75] }⟩,
        ⟨none, some 36, .binOp .lss 3 (.tmp 35) (.const (.int .i64 2)) 3⟩])
       (.cond (.tmp 36) (.seq (.reg [⟨none, some 37, .load 75 (.tmp 4)⟩,
          ⟨none, some 2, .assign (.tmp 37)⟩,
          ⟨none, some 3, .assign (.const (.int .i64 0))⟩])
         (.ret))
        (.skip)))
      (.seq (.reg [⟨none, some 38, .move (.tmp 0)⟩,
        ⟨none, some 39, .load 75 (.tmp 5)⟩,
        ⟨none, some 40, .call { callee := (.value (.func 273)), args := #[(.tmp 38), (.tmp 39)], argTypes := #[75, 75] }⟩,
        ⟨none, some 41, .call { callee := (.value (.func 272)), args := #[(.tmp 40)], argTypes := #[370] }⟩,
        ⟨none, some 6, .assign (.tmp 41)⟩])
       (.seq (.reg [⟨none, some 42, .load 75 (.tmp 5)⟩,
         ⟨none, some 43, .call { callee := (.builtin .len), args := #[(.tmp 42)], argTypes := #[75] }⟩,
         ⟨none, some 44, .binOp .mul 3 (.const (.int .i64 2)) (.tmp 43) 3⟩,
         ⟨none, some 45, .binOp .sub 3 (.tmp 44) (.const (.int .i64 2)) 3⟩,
         ⟨none, some 7, .alloc 3⟩,
         ⟨none, none, .store 3 (.tmp 7) (.tmp 45)⟩])
        (.seq (.seq (.reg [⟨none, some 46, .move (.tmp 6)⟩,
           ⟨none, some 47, .call { callee := (.value (.func 274)), args := #[(.tmp 46)], argTypes := #[366] }⟩])
          (.block 1 (.range (.tmp 47) #[48, 49] (rcode (Tryz.f238.body.getD .skip) 0).1 (rcode (Tryz.f238.body.getD .skip) 0).2 (.reg [⟨none, some 9, .assign (.tmp 49)⟩])
            (.block 2 (.seq (.reg [⟨none, some 10, .assign (.const (.int .i64 0))⟩])
              (.seq (.seq (.reg [⟨none, some 50, .move (.tmp 9)⟩,
                 ⟨none, some 51, .load 3 (.tmp 7)⟩,
                 ⟨none, some 52, .slice 368 (.tmp 50) none (some (.tmp 51)) none⟩,
                 ⟨none, some 53, .call { callee := (.builtin .len), args := #[(.tmp 52)], argTypes := #[368] }⟩,
                 ⟨none, some 54, .move (.const (.int .i64 0))⟩])
                (.block 3 (.loop (.seq (.reg [⟨none, some 55, .binOp .lss 3 (.tmp 54) (.tmp 53) 3⟩])
                   (.seq (.cond (.tmp 55) (.skip)
                     (.exit 3))
                    (.seq (.block 4 (.seq (.reg [⟨none, some 56, .indexAddr 368 (.tmp 52) (.tmp 54)⟩,
                        ⟨none, some 57, .load 376 (.tmp 56)⟩,
                        ⟨none, some 12, .alloc 376⟩,
                        ⟨none, none, .store 376 (.tmp 12) (.tmp 57)⟩])
                       (.seq (.reg [⟨none, some 58, .fieldAddr 376 (.tmp 12) 1⟩,
                         ⟨none, some 59, .load 4 (.tmp 58)⟩])
                        (.cond (.tmp 59) (.seq (.reg [⟨none, some 60, .load 75 (.tmp 4)⟩,
                           ⟨none, some 61, .load 75 (.tmp 5)⟩,
                           ⟨none, some 62, .move (.tmp 10)⟩,
                           ⟨none, some 63, .indexAddr 75 (.tmp 61) (.tmp 62)⟩,
                           ⟨none, some 64, .load 3 (.tmp 63)⟩,
                           ⟨none, some 65, .indexAddr 75 (.tmp 60) (.tmp 64)⟩,
                           ⟨none, some 66, .load 3 (.tmp 65)⟩,
                           ⟨none, some 67, .binOp .add 3 (.tmp 66) (.const (.int .i64 1)) 3⟩,
                           ⟨none, some 68, .indexAddr 75 (.tmp 60) (.tmp 64)⟩,
                           ⟨none, none, .store 3 (.tmp 68) (.tmp 67)⟩])
                          (.reg [⟨none, some 69, .move (.tmp 10)⟩,
                           ⟨none, some 70, .binOp .add 3 (.tmp 69) (.const (.int .i64 1)) 3⟩,
                           ⟨none, some 10, .assign (.tmp 70)⟩]))
                         (.skip)))))
                     (.reg [⟨none, some 71, .binOp .add 3 (.tmp 54) (.const (.int .i64 1)) 3⟩,
                      ⟨none, some 54, .move (.tmp 71)⟩])))))))
               (.reg [⟨none, some 72, .load 3 (.tmp 7)⟩,
                ⟨none, some 73, .move (.tmp 10)⟩,
                ⟨none, some 74, .binOp .sub 3 (.tmp 72) (.tmp 73) 3⟩,
                ⟨none, some 75, .binOp .mul 3 (.const (.int .i64 2)) (.tmp 74) 3⟩,
                ⟨none, none, .store 3 (.tmp 7) (.tmp 75)⟩])))))))
         (.seq (.reg [⟨none, some 76, .load 75 (.tmp 4)⟩,
           ⟨none, some 2, .assign (.tmp 76)⟩,
           ⟨none, some 3, .assign (.const (.int .i64 0))⟩])
          (.ret))))))))))
theorem com238 : com Tryz.prog 77 ((Tryz.f238.body).getD .skip) = g238 := by kernel_rfl
theorem enter238 {args : List Value} {h : Heap} {R : Value → Heap → Prop} (hN : args.length ≤ 77) (q : AWC Tryz.prog 77 g238 (RetQ Tryz.prog [.tmp 2, .tmp 3] R) (frOf args) h) : ACall Tryz.prog 238 args h R :=
  C_call Tryz.func238 (by kernel_rfl) com238 (by kernel_rfl) (by kernel_rfl) hN q

/-- bindle/canon.New -/
noncomputable def g239 : AC :=
 .seq (.reg [⟨none, some 2, .assign (.const (.pointer none))⟩,
  ⟨none, some 3, .assign (.const (.int .i64 0))⟩])
 (.seq (.seq (.reg [⟨none, some 4, .move (.tmp 0)⟩,
    ⟨none, some 5, .call { callee := (.value (.func 275)), args := #[(.tmp 4)], argTypes := #[75] }⟩,
    ⟨none, some 6, .unOp .not 4 (.tmp 5)⟩])
   (.cond (.tmp 6) (.seq (.reg [⟨none, some 2, .assign (.const (.pointer none))⟩,
      ⟨none, some 3, .assign (.const (.int .i64 13))⟩])
     (.ret))
    (.skip)))
  (.seq (.reg [⟨none, some 7, .move (.tmp 0)⟩,
    ⟨none, some 8, .call { callee := (.value (.func 276)), args := #[(.tmp 7)], argTypes := #[75] }⟩,
    ⟨none, some 2, .assign (.tmp 8)⟩,
    ⟨none, some 3, .assign (.const (.int .i64 0))⟩])
   (.ret)))
theorem com239 : com Tryz.prog 9 ((Tryz.f239.body).getD .skip) = g239 := by kernel_rfl
theorem enter239 {args : List Value} {h : Heap} {R : Value → Heap → Prop} (hN : args.length ≤ 9) (q : AWC Tryz.prog 9 g239 (RetQ Tryz.prog [.tmp 2, .tmp 3] R) (frOf args) h) : ACall Tryz.prog 239 args h R :=
  C_call Tryz.func239 (by kernel_rfl) com239 (by kernel_rfl) (by kernel_rfl) hN q

/-- bindle/runs.Put -/
noncomputable def g240 : AC :=
 .seq (.reg [⟨none, some 2, .box 219 (.tmp 0)⟩,
  ⟨none, some 4, .assign (.const (.int .i64 0))⟩])
 (.seq (.block 0 (.seq (.reg [⟨none, some 18, .move (.tmp 1)⟩,
     ⟨none, some 19, .call { callee := (.builtin .len), args := #[(.tmp 18)], argTypes := #[75] }⟩,
     ⟨none, some 20, .binOp .lss 3 (.tmp 19) (.const (.int .i64 1)) 3⟩,
     ⟨none, some 21, .move (.tmp 20)⟩,
     ⟨some (some 21, false), some 22, .move (.tmp 1)⟩,
     ⟨some (some 21, false), some 23, .call { callee := (.builtin .len), args := #[(.tmp 22)], argTypes := #[75] }⟩,
     ⟨some (some 21, false), some 24, .binOp .gtr 3 (.tmp 23) (.const (.int .i64 320)) 3⟩,
     ⟨none, some 25, .pick (.tmp 21) (.const (.bool true)) (.tmp 24)⟩,
     ⟨none, some 17, .assign (.tmp 25)⟩])
    (.cond (.tmp 17) (.seq (.reg [⟨none, some 4, .assign (.const (.int .i64 5))⟩])
      (.ret))
     (.seq (.reg [⟨none, some 27, .load 219 (.tmp 2)⟩,
       ⟨none, some 28, .binOp .eql 219 (.tmp 27) (.const (.pointer none)) 219⟩,
       ⟨none, some 29, .move (.tmp 28)⟩,
       ⟨some (some 29, false), some 30, .move (.tmp 1)⟩,
       ⟨some (some 29, false), some 31, .call { callee := (.value (.func 277)), args := #[(.tmp 30)], argTypes := #[75] }⟩,
       ⟨some (some 29, false), some 32, .unOp .not 4 (.tmp 31)⟩,
       ⟨none, some 33, .pick (.tmp 29) (.const (.bool true)) (.tmp 32)⟩,
       ⟨none, some 26, .assign (.tmp 33)⟩])
      (.cond (.tmp 26) (.seq (.reg [⟨none, some 4, .assign (.const (.int .i64 1))⟩])
        (.ret))
       (.skip))))))
  (.seq (.reg [⟨none, some 34, .makeSlice 75 (.const (.int .i64 19)) (.const (.int .i64 19))⟩,
    ⟨none, some 5, .alloc 75⟩,
    ⟨none, none, .store 75 (.tmp 5) (.tmp 34)⟩])
   (.seq (.seq (.reg [⟨none, some 35, .move (.tmp 1)⟩,
      ⟨none, some 36, .call { callee := (.value (.func 278)), args := #[(.tmp 35)], argTypes := #[75] }⟩])
     (.block 1 (.range (.tmp 36) #[37] (rcode (Tryz.f240.body.getD .skip) 0).1 (rcode (Tryz.f240.body.getD .skip) 0).2 (.reg [⟨none, some 6, .alloc 383⟩,
        ⟨none, none, .store 383 (.tmp 6) (.tmp 37)⟩])
       (.block 2 (.reg [⟨none, some 38, .load 75 (.tmp 5)⟩,
         ⟨none, some 39, .fieldAddr 383 (.tmp 6) 0⟩,
         ⟨none, some 40, .load 3 (.tmp 39)⟩,
         ⟨none, some 41, .indexAddr 75 (.tmp 38) (.tmp 40)⟩,
         ⟨none, some 42, .load 3 (.tmp 41)⟩,
         ⟨none, some 43, .binOp .add 3 (.tmp 42) (.const (.int .i64 1)) 3⟩,
         ⟨none, some 44, .indexAddr 75 (.tmp 38) (.tmp 40)⟩,
         ⟨none, none, .store 3 (.tmp 44) (.tmp 43)⟩])))))
    (.seq (.reg [⟨none, some 46, .load 75 (.tmp 5)⟩,
      ⟨none, some 47, .call { callee := (.value (.func 238)), args := #[(.tmp 46)], argTypes := #[75] }⟩,
      ⟨none, some 45, .move (.tmp 47)⟩,
      ⟨none, some 48, .extract (.tmp 45) 0⟩,
      ⟨none, some 49, .extract (.tmp 45) 1⟩,
      ⟨none, some 7, .assign (.tmp 48)⟩,
      ⟨none, some 8, .assign (.tmp 49)⟩])
     (.seq (.reg [⟨none, some 51, .move (.tmp 7)⟩,
       ⟨none, some 52, .call { callee := (.value (.func 239)), args := #[(.tmp 51)], argTypes := #[75] }⟩,
       ⟨none, some 50, .move (.tmp 52)⟩,
       ⟨none, some 53, .extract (.tmp 50) 0⟩,
       ⟨none, some 54, .extract (.tmp 50) 1⟩,
       ⟨none, some 9, .alloc 269⟩,
       ⟨none, none, .store 269 (.tmp 9) (.tmp 53)⟩,
       ⟨none, some 10, .assign (.tmp 54)⟩])
      (.seq (.reg [⟨none, some 55, .load 219 (.tmp 2)⟩,
        ⟨none, some 56, .move (.tmp 1)⟩,
        ⟨none, some 57, .call { callee := (.builtin .len), args := #[(.tmp 56)], argTypes := #[75] }⟩,
        ⟨none, some 58, .convert 3 39 (.tmp 57)⟩,
        ⟨none, some 59, .call { callee := (.value (.func 241)), args := #[(.tmp 55), (.tmp 58), (.const (.int .i64 9))], argTypes := #[219, 39, 3] }⟩])
       (.seq (.seq (.reg [⟨none, some 60, .move (.tmp 7)⟩,
          ⟨none, some 61, .call { callee := (.builtin .len), args := #[(.tmp 60)], argTypes := #[75] }⟩,
          ⟨none, some 62, .move (.const (.int .i64 0))⟩])
         (.block 3 (.loop (.seq (.reg [⟨none, some 63, .binOp .lss 3 (.tmp 62) (.tmp 61) 3⟩])
            (.seq (.cond (.tmp 63) (.skip)
              (.exit 3))
             (.seq (.block 4 (.seq (.reg [⟨none, some 64, .indexAddr 75 (.tmp 60) (.tmp 62)⟩,
                 ⟨none, some 65, .load 3 (.tmp 64)⟩,
                 ⟨none, some 12, .assign (.tmp 65)⟩])
                (.reg [⟨none, some 66, .load 219 (.tmp 2)⟩,
                 ⟨none, some 67, .move (.tmp 12)⟩,
                 ⟨none, some 68, .convert 3 39 (.tmp 67)⟩,
                 ⟨none, some 69, .call { callee := (.value (.func 241)), args := #[(.tmp 66), (.tmp 68), (.const (.int .i64 4))], argTypes := #[219, 39, 3] }⟩])))
              (.reg [⟨none, some 70, .binOp .add 3 (.tmp 62) (.const (.int .i64 1)) 3⟩,
               ⟨none, some 62, .move (.tmp 70)⟩])))))))
        (.seq (.seq (.reg [⟨none, some 71, .move (.tmp 1)⟩,
           ⟨none, some 72, .call { callee := (.value (.func 278)), args := #[(.tmp 71)], argTypes := #[75] }⟩])
          (.block 5 (.range (.tmp 72) #[73] (rcode (Tryz.f240.body.getD .skip) 1).1 (rcode (Tryz.f240.body.getD .skip) 1).2 (.reg [⟨none, some 13, .alloc 383⟩,
             ⟨none, none, .store 383 (.tmp 13) (.tmp 73)⟩])
            (.block 6 (.seq (.reg [⟨none, some 75, .fieldAddr 383 (.tmp 13) 0⟩,
               ⟨none, some 76, .load 3 (.tmp 75)⟩,
               ⟨none, some 77, .call { callee := (.value (.func 279)), args := #[(.tmp 76)], argTypes := #[3] }⟩,
               ⟨none, some 74, .move (.tmp 77)⟩,
               ⟨none, some 78, .extract (.tmp 74) 0⟩,
               ⟨none, some 79, .extract (.tmp 74) 1⟩,
               ⟨none, some 80, .extract (.tmp 74) 2⟩,
               ⟨none, some 14, .assign (.tmp 78)⟩,
               ⟨none, some 15, .assign (.tmp 79)⟩,
               ⟨none, some 16, .assign (.tmp 80)⟩])
              (.seq (.reg [⟨none, some 81, .load 269 (.tmp 9)⟩,
                ⟨none, some 82, .load 219 (.tmp 2)⟩,
                ⟨none, some 83, .fieldAddr 383 (.tmp 13) 0⟩,
                ⟨none, some 84, .load 3 (.tmp 83)⟩,
                ⟨none, some 85, .call { callee := (.value (.func 194)), args := #[(.tmp 81), (.tmp 82), (.tmp 84)], argTypes := #[269, 219, 3] }⟩])
               (.reg [⟨none, some 86, .load 219 (.tmp 2)⟩,
                ⟨none, some 87, .fieldAddr 383 (.tmp 13) 1⟩,
                ⟨none, some 88, .load 3 (.tmp 87)⟩,
                ⟨none, some 89, .move (.tmp 14)⟩,
                ⟨none, some 90, .binOp .sub 3 (.tmp 88) (.tmp 89) 3⟩,
                ⟨none, some 91, .convert 3 39 (.tmp 90)⟩,
                ⟨none, some 92, .move (.tmp 16)⟩,
                ⟨none, some 93, .call { callee := (.value (.func 241)), args := #[(.tmp 86), (.tmp 91), (.tmp 92)], argTypes := #[219, 39, 3] }⟩])))))))
         (.seq (.reg [⟨none, some 4, .assign (.const (.int .i64 0))⟩])
          (.ret))))))))))
theorem com240 : com Tryz.prog 94 ((Tryz.f240.body).getD .skip) = g240 := by kernel_rfl
theorem enter240 {args : List Value} {h : Heap} {R : Value → Heap → Prop} (hN : args.length ≤ 94) (q : AWC Tryz.prog 94 g240 (RetQ Tryz.prog [.tmp 4] R) (frOf args) h) : ACall Tryz.prog 240 args h R :=
  C_call Tryz.func240 (by kernel_rfl) com240 (by kernel_rfl) (by kernel_rfl) hN q

/-- ( *bindle/bits.Writer).Put -/
noncomputable def g241 : AC :=
 .seq (.seq (.reg [⟨none, some 7, .move (.tmp 0)⟩,
   ⟨none, some 8, .binOp .eql 219 (.tmp 7) (.const (.pointer none)) 219⟩])
  (.cond (.tmp 8) (.ret)
   (.skip)))
 (.seq (.reg [⟨none, some 9, .move (.tmp 2)⟩,
   ⟨none, some 10, .call { callee := (.value (.func 210)), args := #[(.tmp 9)], argTypes := #[3] }⟩,
   ⟨none, some 6, .assign (.tmp 10)⟩])
  (.seq (.reg [⟨none, some 11, .move (.tmp 0)⟩,
    ⟨none, some 12, .nilCheck (.tmp 11)⟩,
    ⟨none, some 13, .fieldAddr 217 (.tmp 12) 1⟩,
    ⟨none, some 14, .load 215 (.tmp 13)⟩,
    ⟨none, some 15, .move (.tmp 1)⟩,
    ⟨none, some 16, .convert 39 215 (.tmp 15)⟩,
    ⟨none, some 17, .move (.tmp 6)⟩,
    ⟨none, some 18, .binOp .shl 215 (.const (.int .u64 1)) (.tmp 17) 3⟩,
    ⟨none, some 19, .binOp .sub 215 (.tmp 18) (.const (.int .u64 1)) 215⟩,
    ⟨none, some 20, .binOp .and 215 (.tmp 16) (.tmp 19) 215⟩,
    ⟨none, some 21, .move (.tmp 0)⟩,
    ⟨none, some 22, .nilCheck (.tmp 21)⟩,
    ⟨none, some 23, .fieldAddr 217 (.tmp 22) 2⟩,
    ⟨none, some 24, .load 3 (.tmp 23)⟩,
    ⟨none, some 25, .binOp .shl 215 (.tmp 20) (.tmp 24) 3⟩,
    ⟨none, some 26, .binOp .or 215 (.tmp 14) (.tmp 25) 215⟩,
    ⟨none, some 27, .nilCheck (.tmp 11)⟩,
    ⟨none, some 28, .fieldAddr 217 (.tmp 27) 1⟩,
    ⟨none, none, .store 215 (.tmp 28) (.tmp 26)⟩])
   (.seq (.reg [⟨none, some 29, .move (.tmp 0)⟩,
     ⟨none, some 30, .nilCheck (.tmp 29)⟩,
     ⟨none, some 31, .fieldAddr 217 (.tmp 30) 2⟩,
     ⟨none, some 32, .load 3 (.tmp 31)⟩,
     ⟨none, some 33, .move (.tmp 6)⟩,
     ⟨none, some 34, .binOp .add 3 (.tmp 32) (.tmp 33) 3⟩,
     ⟨none, some 35, .nilCheck (.tmp 29)⟩,
     ⟨none, some 36, .fieldAddr 217 (.tmp 35) 2⟩,
     ⟨none, none, .store 3 (.tmp 36) (.tmp 34)⟩])
    (.block 0 (.loop (.seq (.seq (.reg [⟨none, some 37, .move (.tmp 0)⟩,
         ⟨none, some 38, .nilCheck (.tmp 37)⟩,
         ⟨none, some 39, .fieldAddr 217 (.tmp 38) 2⟩,
         ⟨none, some 40, .load 3 (.tmp 39)⟩,
         ⟨none, some 41, .binOp .geq 3 (.tmp 40) (.const (.int .i64 8)) 3⟩])
        (.cond (.tmp 41) (.skip)
         (.exit 0)))
       (.block 1 (.seq (.draw [⟨⟨none, some 42, .move (.tmp 0)⟩, []⟩,
      ⟨⟨none, some 43, .move (.tmp 0)⟩, []⟩,
      ⟨⟨none, some 44, .nilCheck (.tmp 43)⟩, []⟩,
      ⟨⟨none, some 45, .fieldAddr 217 (.tmp 44) 0⟩, []⟩,
      ⟨⟨none, some 46, .load 22 (.tmp 45)⟩, []⟩,
      ⟨⟨none, some 47, .move (.tmp 0)⟩, []⟩,
      ⟨⟨none, some 48, .nilCheck (.tmp 47)⟩, []⟩,
      ⟨⟨none, some 49, .fieldAddr 217 (.tmp 48) 1⟩, []⟩,
      ⟨⟨none, some 50, .load 215 (.tmp 49)⟩, []⟩,
      ⟨⟨none, some 51, .convert 215 5 (.tmp 50)⟩, []⟩,
      ⟨⟨none, some 52, .buildSlice 22 1 #[(0, (.tmp 51))]⟩, [⟨none, some 46, .load 22 (.tmp 45)⟩]⟩,
      ⟨⟨none, some 53, .call { callee := (.builtin .append), args := #[(.tmp 46), (.tmp 52)], argTypes := #[22, 22] }⟩, []⟩,
      ⟨⟨none, some 54, .nilCheck (.tmp 42)⟩, []⟩,
      ⟨⟨none, some 55, .fieldAddr 217 (.tmp 54) 0⟩, []⟩,
      ⟨⟨none, none, .store 22 (.tmp 55) (.tmp 53)⟩, []⟩])
         (.seq (.reg [⟨none, some 56, .move (.tmp 0)⟩,
           ⟨none, some 57, .nilCheck (.tmp 56)⟩,
           ⟨none, some 58, .fieldAddr 217 (.tmp 57) 1⟩,
           ⟨none, some 59, .load 215 (.tmp 58)⟩,
           ⟨none, some 60, .binOp .shr 215 (.tmp 59) (.const (.int .u64 8)) 179⟩,
           ⟨none, some 61, .nilCheck (.tmp 56)⟩,
           ⟨none, some 62, .fieldAddr 217 (.tmp 61) 1⟩,
           ⟨none, none, .store 215 (.tmp 62) (.tmp 60)⟩])
          (.reg [⟨none, some 63, .move (.tmp 0)⟩,
           ⟨none, some 64, .nilCheck (.tmp 63)⟩,
           ⟨none, some 65, .fieldAddr 217 (.tmp 64) 2⟩,
           ⟨none, some 66, .load 3 (.tmp 65)⟩,
           ⟨none, some 67, .binOp .sub 3 (.tmp 66) (.const (.int .i64 8)) 3⟩,
           ⟨none, some 68, .nilCheck (.tmp 63)⟩,
           ⟨none, some 69, .fieldAddr 217 (.tmp 68) 2⟩,
           ⟨none, none, .store 3 (.tmp 69) (.tmp 67)⟩]))))))))))
theorem com241 : com Tryz.prog 70 ((Tryz.f241.body).getD .skip) = g241 := by kernel_rfl
theorem enter241 {args : List Value} {h : Heap} {R : Value → Heap → Prop} (hN : args.length ≤ 70) (q : AWC Tryz.prog 70 g241 (RetQ Tryz.prog [] R) (frOf args) h) : ACall Tryz.prog 241 args h R :=
  C_call Tryz.func241 (by kernel_rfl) com241 (by kernel_rfl) (by kernel_rfl) hN q

/-- ( *bindle/canon.Code).Len -/
noncomputable def g242 : AC :=
 .seq (.reg [⟨none, some 4, .assign (.const (.int .i64 0))⟩])
 (.seq (.seq (.reg [⟨none, some 5, .move (.tmp 0)⟩,
    ⟨none, some 6, .binOp .eql 269 (.tmp 5) (.const (.pointer none)) 269⟩,
    ⟨none, some 7, .move (.tmp 6)⟩,
    ⟨some (some 7, false), some 8, .move (.tmp 1)⟩,
    ⟨some (some 7, false), some 9, .binOp .lss 3 (.tmp 8) (.const (.int .i64 0)) 3⟩,
    ⟨none, some 10, .pick (.tmp 7) (.const (.bool true)) (.tmp 9)⟩,
    ⟨none, some 11, .move (.tmp 10)⟩,
    ⟨some (some 11, false), some 12, .move (.tmp 1)⟩,
    ⟨some (some 11, false), some 13, .move (.tmp 0)⟩,
    ⟨some (some 11, false), some 14, .nilCheck (.tmp 13)⟩,
    ⟨some (some 11, false), some 15, .fieldAddr 339 (.tmp 14) 0⟩,
    ⟨some (some 11, false), some 16, .load 75 (.tmp 15)⟩,
    ⟨some (some 11, false), some 17, .call { callee := (.builtin .len), args := #[(.tmp 16)], argTypes := #[75] }⟩,
    ⟨some (some 11, false), some 18, .binOp .geq 3 (.tmp 12) (.tmp 17) 3⟩,
    ⟨none, some 19, .pick (.tmp 11) (.const (.bool true)) (.tmp 18)⟩])
   (.cond (.tmp 19) (.seq (.reg [⟨none, some 4, .assign (.const (.int .i64 0))⟩])
     (.ret))
    (.skip)))
  (.seq (.reg [⟨none, some 20, .move (.tmp 0)⟩,
    ⟨none, some 21, .nilCheck (.tmp 20)⟩,
    ⟨none, some 22, .fieldAddr 339 (.tmp 21) 0⟩,
    ⟨none, some 23, .load 75 (.tmp 22)⟩,
    ⟨none, some 24, .move (.tmp 1)⟩,
    ⟨none, some 25, .indexAddr 75 (.tmp 23) (.tmp 24)⟩,
    ⟨none, some 26, .load 3 (.tmp 25)⟩,
    ⟨none, some 4, .assign (.tmp 26)⟩])
   (.ret)))
theorem com242 : com Tryz.prog 27 ((Tryz.f242.body).getD .skip) = g242 := by kernel_rfl
theorem enter242 {args : List Value} {h : Heap} {R : Value → Heap → Prop} (hN : args.length ≤ 27) (q : AWC Tryz.prog 27 g242 (RetQ Tryz.prog [.tmp 4] R) (frOf args) h) : ACall Tryz.prog 242 args h R :=
  C_call Tryz.func242 (by kernel_rfl) com242 (by kernel_rfl) (by kernel_rfl) hN q

/-- slices.AppendSeq[[]bindle/api.Token,bindle/api.Token] -/
noncomputable def g243 : AC :=
 .seq (.reg [⟨none, some 2, .box 220 (.tmp 0)⟩,
  ⟨none, some 4, .assign (.const (.slice none 0 0))⟩])
 (.seq (.seq (.reg [⟨none, some 6, .move (.tmp 1)⟩])
   (.block 0 (.range (.tmp 6) #[7] (rcode (Tryz.f243.body.getD .skip) 0).1 (rcode (Tryz.f243.body.getD .skip) 0).2 (.reg [⟨none, some 5, .alloc 279⟩,
      ⟨none, none, .store 279 (.tmp 5) (.tmp 7)⟩])
     (.block 1 (.reg [⟨none, some 8, .load 220 (.tmp 2)⟩,
       ⟨none, some 9, .load 279 (.tmp 5)⟩,
       ⟨none, some 10, .buildSlice 220 1 #[(0, (.tmp 9))]⟩,
       ⟨none, some 11, .call { callee := (.builtin .append), args := #[(.tmp 8), (.tmp 10)], argTypes := #[220, 220] }⟩,
       ⟨none, none, .store 220 (.tmp 2) (.tmp 11)⟩])))))
  (.seq (.reg [⟨none, some 12, .load 220 (.tmp 2)⟩,
    ⟨none, some 4, .assign (.tmp 12)⟩])
   (.ret)))
theorem com243 : com Tryz.prog 13 ((Tryz.f243.body).getD .skip) = g243 := by kernel_rfl
theorem enter243 {args : List Value} {h : Heap} {R : Value → Heap → Prop} (hN : args.length ≤ 13) (q : AWC Tryz.prog 13 g243 (RetQ Tryz.prog [.tmp 4] R) (frOf args) h) : ACall Tryz.prog 243 args h R :=
  C_call Tryz.func243 (by kernel_rfl) com243 (by kernel_rfl) (by kernel_rfl) hN q

/-- bindle/tokens.Each$1 -/
noncomputable def g244 : AC :=
 .seq (.draw [⟨⟨none, some 7, .load 22 (.tmp 1)⟩, []⟩,
      ⟨⟨none, some 8, .load 22 (.tmp 1)⟩, []⟩,
      ⟨⟨none, some 10, .load 3 (.tmp 2)⟩, []⟩,
      ⟨⟨none, some 12, .load 3 (.tmp 2)⟩, []⟩,
      ⟨⟨none, some 13, .binOp .geq 3 (.tmp 12) (.const (.int .i64 2)) 3⟩, []⟩,
      ⟨⟨none, some 9, .call { callee := (.value (.func 245)), args := #[(.tmp 8)], argTypes := #[22] }⟩, [⟨none, some 7, .load 22 (.tmp 1)⟩, ⟨none, some 10, .load 3 (.tmp 2)⟩, ⟨none, some 12, .load 3 (.tmp 2)⟩]⟩,
      ⟨⟨none, some 11, .call { callee := (.value (.func 246)), args := #[(.tmp 10)], argTypes := #[3] }⟩, [⟨none, some 7, .load 22 (.tmp 1)⟩, ⟨none, some 12, .load 3 (.tmp 2)⟩]⟩,
      ⟨⟨none, some 14, .build 345 #[(0, (.tmp 7)), (1, (.tmp 9)), (2, (.tmp 11)), (3, (.tmp 13))]⟩, []⟩,
      ⟨⟨none, some 15, .box 345 (.tmp 14)⟩, []⟩,
      ⟨⟨none, some 4, .assign (.tmp 15)⟩, []⟩])
 (.seq (.reg [⟨none, some 5, .assign (.const (.int .i64 0))⟩])
  (.block 0 (.loop (.seq (.seq (.reg [⟨none, some 16, .move (.tmp 5)⟩,
       ⟨none, some 17, .load 22 (.tmp 1)⟩,
       ⟨none, some 18, .call { callee := (.builtin .len), args := #[(.tmp 17)], argTypes := #[22] }⟩,
       ⟨none, some 19, .binOp .lss 3 (.tmp 16) (.tmp 18) 3⟩])
      (.cond (.tmp 19) (.skip)
       (.exit 0)))
     (.block 1 (.seq (.reg [⟨none, some 20, .move (.tmp 4)⟩,
        ⟨none, some 21, .move (.tmp 5)⟩,
        ⟨none, some 22, .call { callee := (.value (.func 247)), args := #[(.tmp 20), (.tmp 21)], argTypes := #[341, 3] }⟩,
        ⟨none, some 6, .alloc 279⟩,
        ⟨none, none, .store 279 (.tmp 6) (.tmp 22)⟩])
       (.seq (.seq (.reg [⟨none, some 23, .move (.tmp 0)⟩,
          ⟨none, some 24, .load 279 (.tmp 6)⟩,
          ⟨none, some 25, .call { callee := (.value (.tmp 23)), args := #[(.tmp 24)], argTypes := #[279] }⟩,
          ⟨none, some 26, .unOp .not 4 (.tmp 25)⟩])
         (.cond (.tmp 26) (.ret)
          (.skip)))
        (.reg [⟨none, some 27, .move (.tmp 5)⟩,
         ⟨none, some 28, .fieldAddr 279 (.tmp 6) 1⟩,
         ⟨none, some 29, .load 3 (.tmp 28)⟩,
         ⟨none, some 30, .call { callee := (.builtin .max), args := #[(.const (.int .i64 1)), (.tmp 29)], argTypes := #[3, 3] }⟩,
         ⟨none, some 31, .binOp .add 3 (.tmp 27) (.tmp 30) 3⟩,
         ⟨none, some 5, .assign (.tmp 31)⟩]))))))))
theorem com244 : com Tryz.prog 32 ((Tryz.f244.body).getD .skip) = g244 := by kernel_rfl
theorem enter244 {args : List Value} {h : Heap} {R : Value → Heap → Prop} (hN : args.length ≤ 32) (q : AWC Tryz.prog 32 g244 (RetQ Tryz.prog [] R) (frOf args) h) : ACall Tryz.prog 244 args h R :=
  C_call Tryz.func244 (by kernel_rfl) com244 (by kernel_rfl) (by kernel_rfl) hN q

/-- bindle/match.New -/
noncomputable def g245 : AC :=
 .seq (.reg [⟨none, some 2, .assign (.const (.pointer none))⟩])
 (.seq (.reg [⟨none, some 3, .move (.tmp 0)⟩,
   ⟨none, some 4, .makeMap 386 none⟩,
   ⟨none, some 5, .build 388 #[(0, (.tmp 3)), (1, (.tmp 4))]⟩,
   ⟨none, some 6, .box 388 (.tmp 5)⟩,
   ⟨none, some 2, .assign (.tmp 6)⟩])
  (.ret))
theorem com245 : com Tryz.prog 7 ((Tryz.f245.body).getD .skip) = g245 := by kernel_rfl
theorem enter245 {args : List Value} {h : Heap} {R : Value → Heap → Prop} (hN : args.length ≤ 7) (q : AWC Tryz.prog 7 g245 (RetQ Tryz.prog [.tmp 2] R) (frOf args) h) : ACall Tryz.prog 245 args h R :=
  C_call Tryz.func245 (by kernel_rfl) com245 (by kernel_rfl) (by kernel_rfl) hN q

/-- bindle/tokens.Depth -/
noncomputable def g246 : AC :=
 .seq (.reg [⟨none, some 2, .assign (.const (.int .i64 0))⟩])
 (.seq (.seq (.reg [⟨none, some 3, .move (.tmp 0)⟩,
    ⟨none, some 4, .call { callee := (.builtin .min), args := #[(.const (.int .i64 3)), (.tmp 3)], argTypes := #[3, 3] }⟩,
    ⟨none, some 5, .call { callee := (.builtin .max), args := #[(.const (.int .i64 0)), (.tmp 4)], argTypes := #[3, 3] }⟩])
   (.block 0 (.seq (.reg [⟨none, some 7, .binOp .eql 3 (.tmp 5) (.const (.int .i64 0)) 3⟩,
      ⟨none, some 6, .assign (.tmp 7)⟩])
     (.cond (.tmp 6) (.seq (.reg [⟨none, some 2, .assign (.const (.int .i64 1))⟩])
       (.ret))
      (.seq (.reg [⟨none, some 9, .binOp .eql 3 (.tmp 5) (.const (.int .i64 1)) 3⟩,
        ⟨none, some 8, .assign (.tmp 9)⟩])
       (.cond (.tmp 8) (.seq (.reg [⟨none, some 2, .assign (.const (.int .i64 4))⟩])
         (.ret))
        (.seq (.reg [⟨none, some 11, .binOp .eql 3 (.tmp 5) (.const (.int .i64 2)) 3⟩,
          ⟨none, some 10, .assign (.tmp 11)⟩])
         (.cond (.tmp 10) (.seq (.reg [⟨none, some 2, .assign (.const (.int .i64 32))⟩])
           (.ret))
          (.skip)))))))))
  (.seq (.reg [⟨none, some 2, .assign (.const (.int .i64 256))⟩])
   (.ret)))
theorem com246 : com Tryz.prog 12 ((Tryz.f246.body).getD .skip) = g246 := by kernel_rfl
theorem enter246 {args : List Value} {h : Heap} {R : Value → Heap → Prop} (hN : args.length ≤ 12) (q : AWC Tryz.prog 12 g246 (RetQ Tryz.prog [.tmp 2] R) (frOf args) h) : ACall Tryz.prog 246 args h R :=
  C_call Tryz.func246 (by kernel_rfl) com246 (by kernel_rfl) (by kernel_rfl) hN q

/-- ( *bindle/tokens.splitter).next -/
noncomputable def g247 : AC :=
 .seq (.reg [⟨none, some 4, .alloc 279⟩])
 (.seq (.reg [⟨none, some 10, .move (.tmp 0)⟩,
   ⟨none, some 11, .nilCheck (.tmp 10)⟩,
   ⟨none, some 12, .fieldAddr 345 (.tmp 11) 1⟩,
   ⟨none, some 13, .load 342 (.tmp 12)⟩,
   ⟨none, some 14, .move (.tmp 1)⟩,
   ⟨none, some 15, .move (.tmp 0)⟩,
   ⟨none, some 16, .nilCheck (.tmp 15)⟩,
   ⟨none, some 17, .fieldAddr 345 (.tmp 16) 2⟩,
   ⟨none, some 18, .load 3 (.tmp 17)⟩,
   ⟨none, some 19, .call { callee := (.value (.func 280)), args := #[(.tmp 13), (.tmp 14), (.tmp 18)], argTypes := #[342, 3, 3] }⟩,
   ⟨none, some 9, .move (.tmp 19)⟩,
   ⟨none, some 20, .extract (.tmp 9) 0⟩,
   ⟨none, some 21, .extract (.tmp 9) 1⟩,
   ⟨none, some 5, .assign (.tmp 20)⟩,
   ⟨none, some 6, .assign (.tmp 21)⟩])
  (.seq (.seq (.reg [⟨none, some 22, .move (.tmp 5)⟩,
     ⟨none, some 23, .binOp .eql 3 (.tmp 22) (.const (.int .i64 0)) 3⟩])
    (.cond (.tmp 23) (.seq (.reg [⟨none, some 24, .move (.tmp 0)⟩,
       ⟨none, some 25, .nilCheck (.tmp 24)⟩,
       ⟨none, some 26, .fieldAddr 345 (.tmp 25) 0⟩,
       ⟨none, some 27, .load 22 (.tmp 26)⟩,
       ⟨none, some 28, .move (.tmp 1)⟩,
       ⟨none, some 29, .indexAddr 22 (.tmp 27) (.tmp 28)⟩,
       ⟨none, some 30, .load 5 (.tmp 29)⟩,
       ⟨none, some 31, .build 279 #[(0, (.tmp 30))]⟩,
       ⟨none, none, .store 279 (.tmp 4) (.tmp 31)⟩])
      (.ret))
     (.skip)))
   (.seq (.seq (.reg [⟨none, some 32, .move (.tmp 0)⟩,
      ⟨none, some 33, .nilCheck (.tmp 32)⟩,
      ⟨none, some 34, .fieldAddr 345 (.tmp 33) 3⟩,
      ⟨none, some 35, .load 4 (.tmp 34)⟩,
      ⟨none, some 36, .move (.tmp 35)⟩,
      ⟨some (some 36, true), some 37, .move (.tmp 5)⟩,
      ⟨some (some 36, true), some 38, .binOp .lss 3 (.tmp 37) (.const (.int .i64 258)) 3⟩,
      ⟨none, some 39, .pick (.tmp 36) (.tmp 38) (.const (.bool false))⟩])
     (.cond (.tmp 39) (.seq (.reg [⟨none, some 41, .move (.tmp 0)⟩,
        ⟨none, some 42, .nilCheck (.tmp 41)⟩,
        ⟨none, some 43, .fieldAddr 345 (.tmp 42) 1⟩,
        ⟨none, some 44, .load 342 (.tmp 43)⟩,
        ⟨none, some 45, .move (.tmp 1)⟩,
        ⟨none, some 46, .binOp .add 3 (.tmp 45) (.const (.int .i64 1)) 3⟩,
        ⟨none, some 47, .move (.tmp 0)⟩,
        ⟨none, some 48, .nilCheck (.tmp 47)⟩,
        ⟨none, some 49, .fieldAddr 345 (.tmp 48) 2⟩,
        ⟨none, some 50, .load 3 (.tmp 49)⟩,
        ⟨none, some 51, .call { callee := (.value (.func 280)), args := #[(.tmp 44), (.tmp 46), (.tmp 50)], argTypes := #[342, 3, 3] }⟩,
        ⟨none, some 40, .move (.tmp 51)⟩,
        ⟨none, some 52, .extract (.tmp 40) 0⟩,
        ⟨none, some 53, .extract (.tmp 40) 1⟩,
        ⟨none, some 7, .assign (.tmp 52)⟩,
        ⟨none, some 8, .assign (.tmp 53)⟩])
       (.seq (.reg [⟨none, some 54, .move (.tmp 7)⟩,
         ⟨none, some 55, .move (.tmp 5)⟩,
         ⟨none, some 56, .binOp .gtr 3 (.tmp 54) (.tmp 55) 3⟩])
        (.cond (.tmp 56) (.seq (.reg [⟨none, some 57, .move (.tmp 0)⟩,
           ⟨none, some 58, .nilCheck (.tmp 57)⟩,
           ⟨none, some 59, .fieldAddr 345 (.tmp 58) 0⟩,
           ⟨none, some 60, .load 22 (.tmp 59)⟩,
           ⟨none, some 61, .move (.tmp 1)⟩,
           ⟨none, some 62, .indexAddr 22 (.tmp 60) (.tmp 61)⟩,
           ⟨none, some 63, .load 5 (.tmp 62)⟩,
           ⟨none, some 64, .build 279 #[(0, (.tmp 63))]⟩,
           ⟨none, none, .store 279 (.tmp 4) (.tmp 64)⟩])
          (.ret))
         (.skip))))
      (.skip)))
    (.seq (.reg [⟨none, some 65, .move (.tmp 5)⟩,
      ⟨none, some 66, .move (.tmp 6)⟩,
      ⟨none, some 67, .build 279 #[(1, (.tmp 65)), (2, (.tmp 66))]⟩,
      ⟨none, none, .store 279 (.tmp 4) (.tmp 67)⟩])
     (.ret)))))
theorem com247 : com Tryz.prog 68 ((Tryz.f247.body).getD .skip) = g247 := by kernel_rfl
theorem enter247 {args : List Value} {h : Heap} {R : Value → Heap → Prop} (hN : args.length ≤ 68) (q : AWC Tryz.prog 68 g247 (RetQ Tryz.prog [.cell 4 279] R) (frOf args) h) : ACall Tryz.prog 247 args h R :=
  C_call Tryz.func247 (by kernel_rfl) com247 (by kernel_rfl) (by kernel_rfl) hN q

/-- slices.IndexFunc[[]bindle/names.change,bindle/names.change] -/
noncomputable def g265 : AC :=
 .seq (.reg [⟨none, some 4, .assign (.const (.int .i64 0))⟩])
 (.seq (.seq (.reg [⟨none, some 6, .move (.tmp 0)⟩,
    ⟨none, some 7, .call { callee := (.builtin .len), args := #[(.tmp 6)], argTypes := #[72] }⟩,
    ⟨none, some 8, .move (.const (.int .i64 0))⟩])
   (.block 0 (.loop (.seq (.reg [⟨none, some 9, .binOp .lss 3 (.tmp 8) (.tmp 7) 3⟩])
      (.seq (.cond (.tmp 9) (.skip)
        (.exit 0))
       (.seq (.block 1 (.seq (.reg [⟨none, some 10, .move (.tmp 8)⟩,
           ⟨none, some 5, .assign (.tmp 10)⟩])
          (.seq (.reg [⟨none, some 11, .move (.tmp 1)⟩,
            ⟨none, some 12, .move (.tmp 0)⟩,
            ⟨none, some 13, .move (.tmp 5)⟩,
            ⟨none, some 14, .indexAddr 72 (.tmp 12) (.tmp 13)⟩,
            ⟨none, some 15, .load 312 (.tmp 14)⟩,
            ⟨none, some 16, .call { callee := (.value (.tmp 11)), args := #[(.tmp 15)], argTypes := #[312] }⟩])
           (.cond (.tmp 16) (.seq (.reg [⟨none, some 17, .move (.tmp 5)⟩,
              ⟨none, some 4, .assign (.tmp 17)⟩])
             (.ret))
            (.skip)))))
        (.reg [⟨none, some 18, .binOp .add 3 (.tmp 8) (.const (.int .i64 1)) 3⟩,
         ⟨none, some 8, .move (.tmp 18)⟩])))))))
  (.seq (.reg [⟨none, some 4, .assign (.const (.int .i64 (-1)))⟩])
   (.ret)))
theorem com265 : com Tryz.prog 19 ((Tryz.f265.body).getD .skip) = g265 := by kernel_rfl
theorem enter265 {args : List Value} {h : Heap} {R : Value → Heap → Prop} (hN : args.length ≤ 19) (q : AWC Tryz.prog 19 g265 (RetQ Tryz.prog [.tmp 4] R) (frOf args) h) : ACall Tryz.prog 265 args h R :=
  C_call Tryz.func265 (by kernel_rfl) com265 (by kernel_rfl) (by kernel_rfl) hN q

/-- bindle/weigh.right -/
noncomputable def g270 : AC :=
 .seq (.reg [⟨none, some 3, .box 3 (.tmp 1)⟩,
  ⟨none, some 4, .assign (.const (.bool false))⟩])
 (.seq (.reg [⟨none, some 5, .move (.tmp 0)⟩,
   ⟨none, some 6, .call { callee := (.builtin .len), args := #[(.tmp 5)], argTypes := #[75] }⟩,
   ⟨none, some 7, .binOp .leq 3 (.tmp 6) (.const (.int .i64 320)) 3⟩,
   ⟨none, some 8, .move (.tmp 7)⟩,
   ⟨some (some 8, true), some 9, .move (.tmp 0)⟩,
   ⟨some (some 8, true), some 10, .makeFunc (.func 298) #[] #[(.tmp 3)]⟩,
   ⟨some (some 8, true), some 11, .call { callee := (.value (.func 297)), args := #[(.tmp 9), (.tmp 10)], argTypes := #[75, 124] }⟩,
   ⟨some (some 8, true), some 12, .unOp .not 4 (.tmp 11)⟩,
   ⟨none, some 13, .pick (.tmp 8) (.tmp 12) (.const (.bool false))⟩,
   ⟨none, some 4, .assign (.tmp 13)⟩])
  (.ret))
theorem com270 : com Tryz.prog 14 ((Tryz.f270.body).getD .skip) = g270 := by kernel_rfl
theorem enter270 {args : List Value} {h : Heap} {R : Value → Heap → Prop} (hN : args.length ≤ 14) (q : AWC Tryz.prog 14 g270 (RetQ Tryz.prog [.tmp 4] R) (frOf args) h) : ACall Tryz.prog 270 args h R :=
  C_call Tryz.func270 (by kernel_rfl) com270 (by kernel_rfl) (by kernel_rfl) hN q

end Go.Proofs.Fx
