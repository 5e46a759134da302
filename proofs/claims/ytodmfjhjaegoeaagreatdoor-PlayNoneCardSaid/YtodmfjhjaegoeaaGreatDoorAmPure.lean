/- The operations that ask nothing of memory: what they give on abstract values, and that the model gives the like. -/
import Derived.Test.YtodmfjhjaegoeaaGreatDoorAmMem
import Derived.Laws.StructEq
import Derived.Laws.Small
import Derived.Laws.Cells
import Derived.Laws.Entries
set_option linter.unusedVariables false
set_option linter.unusedSimpArgs false
namespace Go.Am

def ev (fr : Nat → Value) : Operand → Option Value
  | .tmp t => some (fr t)
  | .const v => if plainC v = true then some v else none
  | .func f => some (.func (.func f) #[] #[])
  | .global _ => none

def evl (fr : Nat → Value) : List Operand → Option (List Value)
  | [] => some []
  | x :: xs => match ev fr x, evl fr xs with
    | some v, some vs => some (v :: vs)
    | _, _ => none

def evo (fr : Nat → Value) : Option Operand → Option (Option Value)
  | none => some none
  | some x => (ev fr x).map some

def inN (N : Nat) : Operand → Bool
  | .tmp t => decide (t < N)
  | _ => true

theorem ev_sound {G : Gh} {N : Nat} {fr : Nat → Value} {a : Act} (hf : FR G N fr a.tmps) {x : Operand} {v : Value} (hn : inN N x = true) (h : ev fr x = some v) : VR G v (a.eval x) := by
  cases x with
  | tmp t =>
    simp only [ev, Option.some.injEq] at h; subst h
    exact hf.2 t (by simpa [inN] using hn)
  | const c =>
    simp only [ev] at h
    split at h
    · cases h; exact VR.plainC ‹_›
    · cases h
  | func f => simp only [ev, Option.some.injEq] at h; subst h; exact .func rfl (fun i hi => by simp at hi) rfl (fun i hi => by simp at hi)
  | global g => cases h

theorem evl_sound {G : Gh} {N : Nat} {fr : Nat → Value} {a : Act} (hf : FR G N fr a.tmps) : ∀ {xs : List Operand} {vs : List Value}, (xs.all (inN N)) = true → evl fr xs = some vs → VL G vs (xs.map a.eval)
  | [], vs, _, h => by simp only [evl, Option.some.injEq] at h; subst h; exact VL.nil G
  | x :: xs, vs, hn, h => by
    simp only [List.all_cons, Bool.and_eq_true] at hn
    simp only [evl] at h
    cases hx : ev fr x with
    | none => simp [hx] at h
    | some v =>
      cases hxs : evl fr xs with
      | none => simp [hx, hxs] at h
      | some ws =>
        simp only [hx, hxs, Option.some.injEq] at h; subst h
        exact VL.cons (ev_sound hf hn.1 hx) (evl_sound hf hn.2 hxs)

/-! ### Numbers, texts -/
def iand (k : IntKind) (a b : Int) : Int := k.wrap (BitVec.ofInt k.bits a &&& BitVec.ofInt k.bits b).toNat
def ior (k : IntKind) (a b : Int) : Int := k.wrap (BitVec.ofInt k.bits a ||| BitVec.ofInt k.bits b).toNat
def ixor (k : IntKind) (a b : Int) : Int := k.wrap (BitVec.ofInt k.bits a ^^^ BitVec.ofInt k.bits b).toNat
def iandNot (k : IntKind) (a b : Int) : Int := k.wrap (BitVec.ofInt k.bits a &&& ~~~ BitVec.ofInt k.bits b).toNat
def ishl (k : IntKind) (a b : Int) : Int := k.wrap (a * 2 ^ min b.toNat k.bits)
def ishr (k : IntKind) (a b : Int) : Int := a.fdiv (2 ^ min b.toNat k.bits)

def aInt (op : BinOp) (k : IntKind) (a b : Int) : Option Value :=
  match op with
  | .add => some (.int k (k.wrap (a + b)))
  | .sub => some (.int k (k.wrap (a - b)))
  | .mul => some (.int k (k.wrap (a * b)))
  | .quo => if b = 0 then none else some (.int k (k.wrap (a.tdiv b)))
  | .rem => if b = 0 then none else some (.int k (a.tmod b))
  | .and => some (.int k (iand k a b))
  | .or => some (.int k (ior k a b))
  | .xor => some (.int k (ixor k a b))
  | .andNot => some (.int k (iandNot k a b))
  | .eql => some (.bool (a == b))
  | .neq => some (.bool (a != b))
  | .lss => some (.bool (decide (a < b)))
  | .leq => some (.bool (decide (a ≤ b)))
  | .gtr => some (.bool (decide (a > b)))
  | .geq => some (.bool (decide (a ≥ b)))
  | .shl => none
  | .shr => none

def aStr (op : BinOp) (x y : ByteArray) : Option Value :=
  match op with
  | .add => if x.size + y.size ≤ 9223372036854775807 then some (.string (x ++ y)) else none
  | .eql => some (.bool (x.toList == y.toList))
  | .neq => some (.bool !(x.toList == y.toList))
  | .lss => some (.bool (Op.bytesLess x.toList y.toList))
  | .leq => some (.bool (Op.bytesLess x.toList y.toList || x.toList == y.toList))
  | .gtr => some (.bool !(Op.bytesLess x.toList y.toList || x.toList == y.toList))
  | .geq => some (.bool !(Op.bytesLess x.toList y.toList))
  | _ => none

def isPtrT (P : Program) (t : TypeId) : Bool := match P.underlying t with | some (.pointer _) => true | _ => false
def isSliceT (P : Program) (t : TypeId) : Bool := match P.underlying t with | some (.slice _) => true | _ => false
def isBoolT (P : Program) (t : TypeId) : Bool := match P.underlying t with | some .bool => true | _ => false
def isFuncT (P : Program) (t : TypeId) : Bool := match P.underlying t with | some (.func _ _ _) => true | _ => false
def isMapT (P : Program) (t : TypeId) : Bool := match P.underlying t with | some (.map _ _) => true | _ => false

/-- '==', by the kinds that are served: a pointer, a slice, a map or a function value against nil, bools. -/
def aEq (P : Program) (t : TypeId) : Value → Value → Option Bool
  | .bool a, .bool b => if isBoolT P t = true then some (a == b) else none
  | .pointer a, .pointer none => if isPtrT P t = true then some a.isNone else none
  | .slice a _ _, .slice none 0 0 => if isSliceT P t = true then some a.isNone else none
  | .map a, .map none => if isMapT P t = true then some a.isNone else none
  | .nilFunc, .nilFunc => if isFuncT P t = true then some true else none
  | .func _ _ _, .nilFunc => if isFuncT P t = true then some false else none
  | _, _ => none

def aBin (P : Program) (op : BinOp) (t : TypeId) : Value → Value → Option Value
  | .int k a, .int k' b => match op with
    | .shl => if b < 0 then none else some (.int k (ishl k a b))
    | .shr => if b < 0 then none else some (.int k (ishr k a b))
    | op => if k = k' then aInt op k a b else none
  | .string a, .string b => aStr op a b
  | x, y => match op with
    | .eql => (aEq P t x y).map .bool
    | .neq => (aEq P t x y).map fun b => .bool !b
    | _ => none

theorem aBin_int {P : Program} {op : BinOp} {t : TypeId} {k k' : IntKind} {a b : Int} {r : Value} (h : aBin P op t (.int k a) (.int k' b) = some r) (w : World) :
    (binOp op t (.int k a) (.int k' b)).run P w = .ok r w ∧ plainAtom r = true := by
  cases op <;> simp only [aBin, aInt] at h
  case shl => split at h <;> simp only [reduceCtorEq, Option.some.injEq] at h; subst h; simp [binOp, Op.shift, *, ishl, plainAtom]
  case shr => split at h <;> simp only [reduceCtorEq, Option.some.injEq] at h; subst h; simp [binOp, Op.shift, *, ishr, plainAtom]
  all_goals
    split at h
    · rename_i hk; subst hk
      first
        | (split at h <;> simp only [reduceCtorEq, Option.some.injEq] at h; subst h; simp [binOp, Op.intDiv, *, plainAtom])
        | (simp only [Option.some.injEq] at h; subst h; simp [binOp, Op.intArith, Op.intBits, Op.intCmp, iand, ior, ixor, iandNot, plainAtom])
    · cases h

theorem i64max : IntKind.i64.max = 9223372036854775807 := by decide

theorem aBin_string {P : Program} {op : BinOp} {t : TypeId} {a b : ByteArray} {r : Value} (h : aBin P op t (.string a) (.string b) = some r) (w : World) :
    (binOp op t (.string a) (.string b)).run P w = .ok r w ∧ plainAtom r = true := by
  cases op <;> simp only [aBin, aStr, reduceCtorEq, Option.some.injEq] at h
  case add =>
    split at h <;> simp only [reduceCtorEq, Option.some.injEq] at h; subst h
    rename_i hk
    have hle : ¬ (IntKind.i64.max < ((a.size + b.size : Nat) : Int)) := by rw [i64max]; omega
    simp only [binOp, Op.stringOp]
    rw [if_neg hle]
    exact ⟨rfl, rfl⟩
  all_goals (subst h; simp [binOp, Op.stringOp, plainAtom])

section
variable {P : Program} (w : World) (d : Nat) {t : TypeId}
theorem eqIn_ptr {e : TypeId} (h : P.underlying t = some (.pointer e)) (a : Option Addr) : (Op.equalIn (d + 1) t (.pointer a) (.pointer none)).run P w = .ok a.isNone w := by
  cases a <;> simp [Op.equalIn, run_underlying h]
theorem eqIn_slice {e : TypeId} (h : P.underlying t = some (.slice e)) (a : Option Addr) (l c : Nat) : (Op.equalIn (d + 1) t (.slice a l c) (.slice none 0 0)).run P w = .ok a.isNone w := by
  cases a <;> simp [Op.equalIn, run_underlying h]
theorem eqIn_map {k e : TypeId} (h : P.underlying t = some (.map k e)) (a : Option Nat) : (Op.equalIn (d + 1) t (.map a) (.map none)).run P w = .ok a.isNone w := by
  cases a <;> simp [Op.equalIn, run_underlying h]
theorem eqIn_fn {a b : Array TypeId} {c : Bool} (h : P.underlying t = some (.func a b c)) (f : Fn) (x y : Array Value) : (Op.equalIn (d + 1) t (.func f x y) .nilFunc).run P w = .ok false w := by
  simp [Op.equalIn, run_underlying h]
theorem eqIn_fn0 {a b : Array TypeId} {c : Bool} (h : P.underlying t = some (.func a b c)) : (Op.equalIn (d + 1) t .nilFunc .nilFunc).run P w = .ok true w := by
  simp [Op.equalIn, run_underlying h]
end

theorem equal_sound {P : Program} {G : Gh} {t : TypeId} {u v u' v' : Value} {b : Bool} (h : aEq P t u v = some b) (hu : VR G u u') (hv : VR G v v') (w : World) :
    (Op.equal t u' v').run P w = .ok b w := by
  unfold aEq at h
  split at h <;> (try (cases h; done))
  · rename_i x y
    have e1 := hu.of_plainAtom rfl; have e2 := hv.of_plainAtom rfl; subst e1 e2
    split at h
    · rename_i ht; simp only [Option.some.injEq] at h; subst h
      unfold isBoolT at ht
      split at ht
      · exact run_equal_bool w t _ _ ‹_›
      · cases ht
    · cases h
  · rename_i x
    have e2 := hv.of_plainAtom rfl; subst e2
    split at h
    · rename_i ht; simp only [Option.some.injEq] at h; subst h
      unfold isPtrT at ht
      split at ht
      · rename_i el he
        cases hu with
        | plain hp => exact eqIn_ptr w 9999 he _
        | ptr _ => exact eqIn_ptr w 9999 he _
      · cases ht
    · cases h
  · rename_i x l c
    have e2 := hv.of_plainAtom rfl; subst e2
    split at h
    · rename_i ht; simp only [Option.some.injEq] at h; subst h
      unfold isSliceT at ht
      split at ht
      · rename_i el he
        cases hu with
        | plain hp => exact eqIn_slice w 9999 he _ _ _
        | slice _ _ _ _ => exact eqIn_slice w 9999 he _ _ _
        | empty => exact eqIn_slice w 9999 he _ _ _
      · cases ht
    · cases h
  · rename_i x
    have e2 := hv.of_plainAtom rfl; subst e2
    split at h
    · rename_i ht; simp only [Option.some.injEq] at h; subst h
      unfold isMapT at ht
      split at ht
      · rename_i el he
        cases hu with
        | plain hp => exact eqIn_map w 9999 he _
        | map _ => exact eqIn_map w 9999 he _
      · cases ht
    · cases h
  · have e1 := hu.of_plainAtom rfl; have e2 := hv.of_plainAtom rfl; subst e1 e2
    split at h
    · rename_i ht; simp only [Option.some.injEq] at h; subst h
      unfold isFuncT at ht
      split at ht
      · rename_i he; exact eqIn_fn0 w 9999 he
      · cases ht
    · cases h
  · have e2 := hv.of_plainAtom rfl; subst e2
    split at h
    · rename_i ht; simp only [Option.some.injEq] at h; subst h
      unfold isFuncT at ht
      split at ht
      · rename_i he
        cases hu with
        | plain hp => simp [plainAtom] at hp
        | func _ _ _ _ => exact eqIn_fn w 9999 he _ _ _
        | yield _ => exact eqIn_fn w 9999 he _ _ _
      · cases ht
    · cases h

end Go.Am
