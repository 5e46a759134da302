/- The fast machine, third part: operations, each a function of what is behind it. -/
import Derived.Test.YtodmfjhjaegoeaaGreatDoorAmZ2
import Derived.Lib.Strings
set_option linter.unusedVariables false
set_option linter.unusedSimpArgs false
namespace Go.Am
variable {P : Program}
noncomputable section

/-! ### Numbers laid bare -/
def fN (n : Nat) (k : Nat → Bool) : Bool := Nat.rec (motive := fun _ => Bool) (k 0) (fun m _ => k (Nat.succ m)) n
theorem fN_eq (n : Nat) (k : Nat → Bool) : fN n k = k n := by cases n <;> rfl
def fI (z : Int) (k : Int → Bool) : Bool := Int.rec (motive := fun _ => Bool) (fun n => fN n fun n => k (.ofNat n)) (fun n => fN n fun n => k (.negSucc n)) z
theorem fI_eq (z : Int) (k : Int → Bool) : fI z k = k z := by cases z <;> simp only [fI, fN_eq]
theorem bR_eq {x : Bool} {b : Bool} (h : Bool.rec (motive := fun _ => Bool) false x b = true) : b = true ∧ x = true := by
  cases b
  · cases h
  · exact ⟨rfl, h⟩
theorem oR_eq {α : Type} {z : α → Bool} {o : Option α} (h : Option.rec (motive := fun _ => Bool) false z o = true) : ∃ a, o = some a ∧ z a = true := by
  cases o
  · cases h
  · exact ⟨_, rfl, h⟩
theorem iR_eq {z : Nat → Bool} {o : Int} (h : Int.rec (motive := fun _ => Bool) z (fun _ => false) o = true) : ∃ a, o = .ofNat a ∧ z a = true := by
  cases o
  · exact ⟨_, rfl, h⟩
  · cases h
def fA (a : Addr) (k : Addr → Bool) : Bool := match a with
  | ⟨b, o, s⟩ => fN b fun b => fN o fun o => match s with
    | none => k ⟨b, o, none⟩
    | some s => fN s fun s => k ⟨b, o, some s⟩
theorem fA_eq (a : Addr) (k : Addr → Bool) : fA a k = k a := by
  obtain ⟨b, o, s⟩ := a
  cases s <;> simp only [fA, fN_eq]
def fV (v : Value) (k : Value → Bool) : Bool := match v with
  | .int kd z => fI z fun z => k (.int kd z)
  | .bool b => (match b with
    | true => k (.bool true)
    | false => k (.bool false))
  | .pointer a => (match a with
    | none => k (.pointer none)
    | some a => fA a fun a => k (.pointer (some a)))
  | .slice a l c => (match a with
    | none => k (.slice none l c)
    | some a => fA a fun a => fN l fun l => fN c fun c => k (.slice (some a) l c))
  | .map r => (match r with
    | none => k (.map none)
    | some r => fN r fun r => k (.map (some r)))
  | v => k v
theorem fV_eq (v : Value) (k : Value → Bool) : fV v k = k v := by
  cases v <;> simp only [fV, fI_eq]
  · rename_i b; cases b <;> rfl
  · rename_i a; cases a <;> simp only [fA_eq]
  · rename_i a l c; cases a <;> simp only [fA_eq, fN_eq]
  · rename_i r; cases r <;> simp only [fN_eq]

/-! ### A value's kind, asked for in one step -/
def vB (z : Bool → Bool) (v : Value) : Bool := Value.rec (motive_1 := fun _ => Bool) (motive_2 := fun _ => Bool) (motive_3 := fun _ => Bool) z (fun _ _ => false) (fun _ _ => false) (fun _ _ _ => false) (fun _ => false) (fun _ => false) (fun _ _ _ => false) (fun _ => false) (fun _ => false) (fun _ _ _ _ _ => false) false (fun _ _ _ => false) false (fun _ _ => false) (fun _ _ => false) (fun _ _ => false) false (fun _ _ _ _ => false) v
def vI (z : IntKind → Int → Bool) (v : Value) : Bool := Value.rec (motive_1 := fun _ => Bool) (motive_2 := fun _ => Bool) (motive_3 := fun _ => Bool) (fun _ => false) z (fun _ _ => false) (fun _ _ _ => false) (fun _ => false) (fun _ => false) (fun _ _ _ => false) (fun _ => false) (fun _ => false) (fun _ _ _ _ _ => false) false (fun _ _ _ => false) false (fun _ _ => false) (fun _ _ => false) (fun _ _ => false) false (fun _ _ _ _ => false) v
def vP (z : Option Addr → Bool) (v : Value) : Bool := Value.rec (motive_1 := fun _ => Bool) (motive_2 := fun _ => Bool) (motive_3 := fun _ => Bool) (fun _ => false) (fun _ _ => false) (fun _ _ => false) (fun _ _ _ => false) (fun _ => false) z (fun _ _ _ => false) (fun _ => false) (fun _ => false) (fun _ _ _ _ _ => false) false (fun _ _ _ => false) false (fun _ _ => false) (fun _ _ => false) (fun _ _ => false) false (fun _ _ _ _ => false) v
def vS (z : Option Addr → Nat → Nat → Bool) (v : Value) : Bool := Value.rec (motive_1 := fun _ => Bool) (motive_2 := fun _ => Bool) (motive_3 := fun _ => Bool) (fun _ => false) (fun _ _ => false) (fun _ _ => false) (fun _ _ _ => false) (fun _ => false) (fun _ => false) z (fun _ => false) (fun _ => false) (fun _ _ _ _ _ => false) false (fun _ _ _ => false) false (fun _ _ => false) (fun _ _ => false) (fun _ _ => false) false (fun _ _ _ _ => false) v
/-- The same, where a slot may have been left out. -/
def vBU (z : Bool → Bool) (u : Bool) (v : Value) : Bool := Value.rec (motive_1 := fun _ => Bool) (motive_2 := fun _ => Bool) (motive_3 := fun _ => Bool) z (fun _ _ => false) (fun _ _ => false) (fun _ _ _ => false) (fun _ => false) (fun _ => false) (fun _ _ _ => false) (fun _ => false) (fun _ => false) (fun _ _ _ _ _ => false) false (fun _ _ _ => false) false (fun _ _ => false) (fun _ _ => u) (fun _ _ => false) false (fun _ _ _ _ => false) v
theorem vBU_eq {z : Bool → Bool} {u : Bool} {v : Value} (h : vBU z u v = true) : (∃ b, v = .bool b ∧ z b = true) ∨ (∃ a, v = .tuple a ∧ u = true) := by cases v <;> first | exact .inl ⟨_, rfl, h⟩ | exact .inr ⟨_, rfl, h⟩ | cases h
theorem vB_eq {z : Bool → Bool} {v : Value} (h : vB z v = true) : ∃ b, v = .bool b ∧ z b = true := by cases v <;> first | exact ⟨_, rfl, h⟩ | cases h
theorem vI_eq {z : IntKind → Int → Bool} {v : Value} (h : vI z v = true) : ∃ k n, v = .int k n ∧ z k n = true := by cases v <;> first | exact ⟨_, _, rfl, h⟩ | cases h
theorem vP_eq {z : Option Addr → Bool} {v : Value} (h : vP z v = true) : ∃ a, v = .pointer a ∧ z a = true := by cases v <;> first | exact ⟨_, rfl, h⟩ | cases h
theorem vS_eq {z : Option Addr → Nat → Nat → Bool} {v : Value} (h : vS z v = true) : ∃ a l c, v = .slice a l c ∧ z a l c = true := by cases v <;> first | exact ⟨_, _, _, rfl, h⟩ | cases h

/-! ### Numbers -/
def kix : IntKind → Nat
  | .i8 => 0 | .i16 => 1 | .i32 => 2 | .i64 => 3 | .u8 => 4 | .u16 => 5 | .u32 => 6 | .u64 => 7
def keq (k k' : IntKind) : Bool := Nat.beq (kix k) (kix k')
theorem keq_spec {k k' : IntKind} (h : keq k k' = true) : k = k' := by
  unfold keq at h
  rw [Nat.beq_eq] at h
  cases k <;> cases k' <;> first | rfl | simp [kix] at h
def lb : IntKind → Nat
  | .i8 => 7 | .i16 => 15 | .i32 => 31 | .i64 => 63 | .u8 => 8 | .u16 => 16 | .u32 => 32 | .u64 => 64
def lim : IntKind → Nat
  | .i8 => 128 | .i16 => 32768 | .i32 => 2147483648 | .i64 => 9223372036854775808 | .u8 => 256 | .u16 => 65536 | .u32 => 4294967296 | .u64 => 18446744073709551616
theorem lim_eq (k : IntKind) : lim k = 2 ^ lb k := by cases k <;> rfl
theorem lim_le (k : IntKind) : lim k ≤ 2 ^ k.bits := by cases k <;> decide
theorem wrap_lim {k : IntKind} {n : Nat} (h : n < lim k) : k.wrap (n : Int) = n := by
  cases k <;> simp only [lim] at h <;> simp [IntKind.wrap, IntKind.bits, IntKind.signed] <;> omega
theorem bv_lim {k : IntKind} {n : Nat} (h : n < lim k) : (BitVec.ofInt k.bits (n : Int)).toNat = n := by
  rw [BitVec.ofInt_natCast, BitVec.toNat_ofNat, Nat.mod_eq_of_lt (Nat.lt_of_lt_of_le h (lim_le k))]

structure BI where
  run : IntKind → IntKind → Int → Int → (Value → Bool) → Bool
def BISat (P : Program) (op : BinOp) (t : TypeId) (b : BI) : Prop := ∀ k k' a c n, b.run k k' a c n = true → ∃ v, aBin P op t (.int k a) (.int k' c) = some v ∧ n v = true
def genB (P : Program) (op : BinOp) (t : TypeId) : BI := ⟨fun k k' a b n => match aBin P op t (.int k a) (.int k' b) with
  | some v => fV v n
  | none => false⟩
theorem genB_sat (op : BinOp) (t : TypeId) : BISat P op t (genB P op t) := by
  intro k k' a c n h
  simp only [genB] at h
  split at h
  · rename_i v hv
    rw [fV_eq] at h
    exact ⟨v, hv, h⟩
  · cases h
def arB (c : Nat → Nat → Nat → Bool) (f : Nat → Nat → Nat) (g : BI) : BI := ⟨fun k k' a b n => Bool.rec (motive := fun _ => Bool) false
  (Int.rec (motive := fun _ => Bool) (fun x => Int.rec (motive := fun _ => Bool) (fun y => Bool.rec (motive := fun _ => Bool) (g.run k k' (.ofNat x) (.ofNat y) n) (fN (f x y) fun z => n (.int k (.ofNat z))) (c (lim k) x y))
    (fun y => g.run k k' (.ofNat x) (.negSucc y) n) b) (fun x => g.run k k' (.negSucc x) b n) a) (keq k k')⟩
theorem arB_sat {op : BinOp} {t : TypeId} {c : Nat → Nat → Nat → Bool} {f : Nat → Nat → Nat} {g : BI} (hg : BISat P op t g)
    (hc : ∀ (k : IntKind) (x y : Nat), c (lim k) x y = true → aBin P op t (.int k (.ofNat x)) (.int k (.ofNat y)) = some (.int k (.ofNat (f x y)))) : BISat P op t (arB c f g) := by
  intro k k' a b n h
  obtain ⟨hk, h⟩ := bR_eq h
  have := keq_spec hk; subst this
  cases a with
  | ofNat x => cases b with
    | ofNat y =>
      simp only at h
      cases hx : c (lim k) x y with
      | true =>
        rw [hx] at h
        simp only [fN_eq] at h
        exact ⟨_, hc _ _ _ hx, h⟩
      | false =>
        rw [hx] at h
        exact hg _ _ _ _ _ h
    | negSucc y => exact hg _ _ _ _ _ h
  | negSucc x => exact hg _ _ _ _ _ h
def cmB (c : Nat → Nat → Bool) (g : BI) : BI := ⟨fun k k' a b n => Bool.rec (motive := fun _ => Bool) false
  (Int.rec (motive := fun _ => Bool) (fun x => Int.rec (motive := fun _ => Bool) (fun y => Bool.rec (motive := fun _ => Bool) (n (.bool false)) (n (.bool true)) (c x y))
    (fun y => g.run k k' (.ofNat x) (.negSucc y) n) b) (fun x => g.run k k' (.negSucc x) b n) a) (keq k k')⟩
theorem cmB_sat {op : BinOp} {t : TypeId} {c : Nat → Nat → Bool} {g : BI} (hg : BISat P op t g)
    (hc : ∀ (k : IntKind) (x y : Nat), aBin P op t (.int k (.ofNat x)) (.int k (.ofNat y)) = some (.bool (c x y))) : BISat P op t (cmB c g) := by
  intro k k' a b n h
  obtain ⟨hk, h⟩ := bR_eq h
  have := keq_spec hk; subst this
  cases a with
  | ofNat x => cases b with
    | ofNat y =>
      simp only at h
      refine ⟨_, hc _ _ _, ?_⟩
      cases hx : c x y with
      | true => rw [hx] at h; exact h
      | false => rw [hx] at h; exact h
    | negSucc y => exact hg _ _ _ _ _ h
  | negSucc x => exact hg _ _ _ _ _ h
def shB (g : BI) : BI := ⟨fun k k' a b n => Int.rec (motive := fun _ => Bool) (fun x => Int.rec (motive := fun _ => Bool) (fun y => Bool.rec (motive := fun _ => Bool) (g.run k k' (.ofNat x) (.ofNat y) n) (fN (Nat.shiftRight x y) fun z => n (.int k (.ofNat z))) (Nat.ble y k.bits))
    (fun y => g.run k k' (.ofNat x) (.negSucc y) n) b) (fun x => g.run k k' (.negSucc x) b n) a⟩
theorem shB_sat {t : TypeId} {g : BI} (hg : BISat P .shr t g) : BISat P .shr t (shB g) := by
  intro k k' a b n h
  cases a with
  | negSucc x => exact hg _ _ _ _ _ h
  | ofNat x => cases b with
    | negSucc y => exact hg _ _ _ _ _ h
    | ofNat y =>
      simp only [shB] at h
      cases hx : Nat.ble y k.bits with
      | false => rw [hx] at h; exact hg _ _ _ _ _ h
      | true =>
        rw [hx] at h
        simp only [fN_eq] at h
        rw [Nat.ble_eq] at hx
        refine ⟨_, ?_, h⟩
        have h0 : ¬ ((Int.ofNat y : Int) < 0) := by exact Int.not_lt.2 (Int.natCast_nonneg y)
        simp only [aBin, if_neg h0]
        have e : min (Int.toNat (Int.ofNat y)) k.bits = y := by
          show min y k.bits = y
          exact Nat.min_eq_left hx
        unfold ishr
        rw [e, Int.fdiv_eq_ediv_of_nonneg _ (Int.le_of_lt (Int.pow_pos (by decide)))]
        show some (Value.int k ((x : Int) / 2 ^ y)) = some (Value.int k ((Nat.shiftRight x y : Nat) : Int))
        have e2 : Nat.shiftRight x y = x / 2 ^ y := Nat.shiftRight_eq_div_pow x y
        rw [e2]
        push_cast
        rfl

def bI (P : Program) (op : BinOp) (t : TypeId) : BI := match op with
  | .add => arB (fun L x y => Nat.ble (Nat.succ (Nat.add x y)) L) Nat.add (genB P .add t)
  | .sub => arB (fun L x y => Bool.rec (motive := fun _ => Bool) false (Nat.ble (Nat.succ x) L) (Nat.ble y x)) Nat.sub (genB P .sub t)
  | .mul => arB (fun L x y => Nat.ble (Nat.succ (Nat.mul x y)) L) Nat.mul (genB P .mul t)
  | .and => arB (fun L x y => Bool.rec (motive := fun _ => Bool) false (Nat.ble (Nat.succ y) L) (Nat.ble (Nat.succ x) L)) Nat.land (genB P .and t)
  | .or => arB (fun L x y => Bool.rec (motive := fun _ => Bool) false (Nat.ble (Nat.succ y) L) (Nat.ble (Nat.succ x) L)) Nat.lor (genB P .or t)
  | .xor => arB (fun L x y => Bool.rec (motive := fun _ => Bool) false (Nat.ble (Nat.succ y) L) (Nat.ble (Nat.succ x) L)) Nat.xor (genB P .xor t)
  | .lss => cmB (fun x y => Nat.ble (Nat.succ x) y) (genB P .lss t)
  | .leq => cmB Nat.ble (genB P .leq t)
  | .gtr => cmB (fun x y => Nat.ble (Nat.succ y) x) (genB P .gtr t)
  | .geq => cmB (fun x y => Nat.ble y x) (genB P .geq t)
  | .eql => cmB Nat.beq (genB P .eql t)
  | .neq => cmB (fun x y => not (Nat.beq x y)) (genB P .neq t)
  | .shr => shB (genB P .shr t)
  | op => genB P op t
theorem bI_sat (op : BinOp) (t : TypeId) : BISat P op t (bI P op t) := by
  cases op <;> simp only [bI] <;> (try exact genB_sat _ t)
  · refine arB_sat (genB_sat _ t) fun k x y h => ?_
    rw [Nat.ble_eq] at h
    simp only [aBin, aInt, if_true]
    have : k.wrap ((x + y : Nat) : Int) = ((x + y : Nat) : Int) := wrap_lim h
    show some (Value.int k (k.wrap ((x : Int) + y))) = some (Value.int k ((x + y : Nat) : Int))
    rw [← this]; push_cast; rfl
  · refine arB_sat (genB_sat _ t) fun k x y h => ?_
    obtain ⟨h1, h2⟩ := bR_eq h
    rw [Nat.ble_eq] at h1 h2
    simp only [aBin, aInt, if_true]
    show some (Value.int k (k.wrap ((x : Int) - y))) = some (Value.int k ((x - y : Nat) : Int))
    have : ((x : Int) - y) = ((x - y : Nat) : Int) := by omega
    rw [this, wrap_lim (by omega)]
  · refine arB_sat (genB_sat _ t) fun k x y h => ?_
    rw [Nat.ble_eq] at h
    simp only [aBin, aInt, if_true]
    have : k.wrap ((x * y : Nat) : Int) = ((x * y : Nat) : Int) := wrap_lim h
    show some (Value.int k (k.wrap ((x : Int) * y))) = some (Value.int k ((x * y : Nat) : Int))
    rw [← this]; push_cast; rfl
  · refine arB_sat (genB_sat _ t) fun k x y h => ?_
    obtain ⟨h1, h2⟩ := bR_eq h
    rw [Nat.ble_eq] at h1 h2
    simp only [aBin, aInt, if_true]
    show some (Value.int k (iand k (x : Int) (y : Int))) = some (Value.int k ((x &&& y : Nat) : Int))
    unfold iand
    rw [BitVec.toNat_and, bv_lim h1, bv_lim h2, wrap_lim (Nat.lt_of_le_of_lt Nat.and_le_left h1)]
  · refine arB_sat (genB_sat _ t) fun k x y h => ?_
    obtain ⟨h1, h2⟩ := bR_eq h
    rw [Nat.ble_eq] at h1 h2
    simp only [aBin, aInt, if_true]
    show some (Value.int k (ior k (x : Int) (y : Int))) = some (Value.int k ((x ||| y : Nat) : Int))
    unfold ior
    rw [BitVec.toNat_or, bv_lim h1, bv_lim h2, wrap_lim (by rw [lim_eq] at h1 h2 ⊢; exact Nat.or_lt_two_pow h1 h2)]
  · refine arB_sat (genB_sat _ t) fun k x y h => ?_
    obtain ⟨h1, h2⟩ := bR_eq h
    rw [Nat.ble_eq] at h1 h2
    simp only [aBin, aInt, if_true]
    show some (Value.int k (ixor k (x : Int) (y : Int))) = some (Value.int k ((x ^^^ y : Nat) : Int))
    unfold ixor
    rw [BitVec.toNat_xor, bv_lim h1, bv_lim h2, wrap_lim (by rw [lim_eq] at h1 h2 ⊢; exact Nat.xor_lt_two_pow h1 h2)]
  · exact shB_sat (genB_sat _ t)
  · refine cmB_sat (genB_sat _ t) fun k x y => ?_
    simp only [aBin, aInt, if_true]
    congr 2
    show (decide ((x : Int) = y)) = Nat.beq x y
    by_cases h : x = y
    · rw [beqN_true h, decide_eq_true (by omega)]
    · rw [beqN_false h, decide_eq_false (by omega)]
  · refine cmB_sat (genB_sat _ t) fun k x y => ?_
    simp only [aBin, aInt, if_true]
    congr 2
    show (!(decide ((x : Int) = y))) = !(Nat.beq x y)
    by_cases h : x = y
    · rw [beqN_true h, decide_eq_true (by omega)]
    · rw [beqN_false h, decide_eq_false (by omega)]
  · refine cmB_sat (genB_sat _ t) fun k x y => ?_
    simp only [aBin, aInt, if_true]
    congr 2
    show (decide ((x : Int) < y)) = Nat.blt x y
    by_cases h : x < y
    · rw [blt_true h, decide_eq_true (by omega)]
    · rw [blt_false h, decide_eq_false (by omega)]
  · refine cmB_sat (genB_sat _ t) fun k x y => ?_
    simp only [aBin, aInt, if_true]
    congr 2
    show (decide ((x : Int) ≤ y)) = Nat.ble x y
    by_cases h : x ≤ y
    · rw [show Nat.ble _ _ = true from by rw [Nat.ble_eq]; exact h, decide_eq_true (by omega)]
    · rw [decide_eq_false (by omega)]; cases hb : Nat.ble x y with
      | false => rfl
      | true => rw [Nat.ble_eq] at hb; exact absurd hb h
  · refine cmB_sat (genB_sat _ t) fun k x y => ?_
    simp only [aBin, aInt, if_true]
    congr 2
    show (decide ((x : Int) > y)) = Nat.blt y x
    by_cases h : y < x
    · rw [blt_true h, decide_eq_true (by omega)]
    · rw [blt_false h, decide_eq_false (by omega)]
  · refine cmB_sat (genB_sat _ t) fun k x y => ?_
    simp only [aBin, aInt, if_true]
    congr 2
    show (decide ((x : Int) ≥ y)) = Nat.ble y x
    by_cases h : y ≤ x
    · rw [show Nat.ble _ _ = true from by rw [Nat.ble_eq]; exact h, decide_eq_true (by omega)]
    · rw [decide_eq_false (by omega)]; cases hb : Nat.ble y x with
      | false => rfl
      | true => rw [Nat.ble_eq] at hb; exact absurd hb h

/-! ### Operands -/
def rd (x : Operand) : RD := match x with
  | .tmp t => rdT t
  | .const v => ⟨fun _ => v⟩
  | .func f => ⟨fun _ => .func (.func f) #[] #[]⟩
  | .global _ => ⟨fun _ => undef⟩
def rdOk (x : Operand) : Bool := match x with
  | .tmp t => Nat.blt t 512
  | .const v => plainC v
  | .func _ => true
  | .global _ => false
theorem rd_ev {x : Operand} (h : rdOk x = true) (F : FT) : ev F.fr x = some ((rd x).fn F) := by
  cases x with
  | tmp t => simp only [rdOk, Nat.blt_eq] at h; simp only [ev, rd, FT.fr_lt F h]
  | const v => simp only [rdOk] at h; simp only [ev, rd, h, if_true]
  | func f => rfl
  | global g => cases h
def cArgs (l : List RD) (F : FT) : List Value := List.rec (motive := fun _ => List Value) [] (fun r _ ih => r.fn F :: ih) l
theorem rd_evl {xs : List Operand} (h : xs.all rdOk = true) (F : FT) : evl F.fr xs = some (cArgs (xs.map rd) F) := by
  induction xs with
  | nil => rfl
  | cons x xs ih =>
    simp only [List.all_cons, Bool.and_eq_true] at h
    simp only [evl, rd_ev h.1, ih h.2]
    rfl

/-! ### Operations -/
abbrev KT := FT → EH → Bool
abbrev KE := Exit → FT → EH → Bool
abbrev KV := Value → EH → Bool
structure CY where
  c : FuncId → List Value → KV → EH → Bool
  y : Nat → List Value → KV → EH → Bool
structure OX where
  run : CY → KT → KT
structure CSat (P : Program) (C : CY) : Prop where
  c : ∀ f args k R E h, (∀ v E h, k v E = true → Repr P E h → R v h) → C.c f args k E = true → Repr P E h → ACall P f args h R
  y : ∀ l args k R E h, (∀ v E h, k v E = true → Repr P E h → R v h) → C.y l args k E = true → Repr P E h → ACallV P (.func (.yield l) #[] #[]) args h R
def OSat (P : Program) (o : OX) (d : Option Tmp) (op : Op) : Prop := ∀ C, CSat P C → ∀ (n : KT) (K : Fr → Heap → Prop), (∀ F E h, n F E = true → Repr P E h → K F.fr h) →
  ∀ F E h, o.run C n F E = true → Repr P E h → BOp P d op K F.fr h

theorem slow_done {d : Option Tmp} {op : Op} (hw : wrOk d = true) {n : KT} {K : Fr → Heap → Prop} (hn : ∀ F E h, n F E = true → Repr P E h → K F.fr h) {F : FT} {E E' : EH} {h : Heap} {v : Value}
    (hm : n ((wr d).fn F v) E' = true) (R : Repr P E h) (hs : eSlow P F E op = some (v, E')) : BOp P d op K F.fr h := by
  obtain ⟨h', R', q⟩ := eSlow_sound R hs d
  refine q K ?_
  rw [← FT.fr_put F v hw]
  exact hn _ _ _ hm R'
theorem pure_slow {F : FT} {E : EH} {op : Op} {v : Value} (h : pureOp P F.fr op = some v) : eSlow P F E op = some (v, E) := by simp only [eSlow, h]

def noX : OX := ⟨fun _ _ _ _ => false⟩
theorem noX_sat {d : Option Tmp} {op : Op} : OSat P noX d op := fun _ _ _ _ _ _ _ _ h _ => by cases h
def slowX (P : Program) (d : Option Tmp) (op : Op) : OX := ⟨fun _ n F E => match eSlow P F E op with
  | some r => (match r with
    | (v, E') => fV v fun v => n ((wr d).fn F v) E')
  | none => false⟩
theorem slowX_sat {d : Option Tmp} {op : Op} (hw : wrOk d = true) : OSat P (slowX P d op) d op := by
  intro C hC n K hn F E h hm R
  simp only [slowX] at hm
  split at hm
  · rename_i r hr
    obtain ⟨v, E'⟩ := r
    simp only [fV_eq] at hm
    exact slow_done hw hn hm R hr
  · cases hm
theorem OSat.bif {b : Bool} {x y : OX} {d : Option Tmp} {op : Op} (h1 : b = true → OSat P x d op) (h2 : OSat P y d op) : OSat P (cond b x y) d op := by
  cases b
  · exact h2
  · exact h1 rfl

def mvX (d : Option Tmp) (x : Operand) : OX := cond (rdOk x) ⟨fun _ n F E => n ((wr d).fn F ((rd x).fn F)) E⟩ noX
theorem mvX_sat {d : Option Tmp} {op : Op} {x : Operand} (hw : wrOk d = true) (hop : op = .move x ∨ op = .assign x) : OSat P (mvX d x) d op := by
  refine OSat.bif (fun hx => ?_) noX_sat
  intro C hC n K hn F E h hm R
  refine slow_done hw hn hm R (pure_slow ?_)
  rcases hop with rfl | rfl <;> exact rd_ev hx F

def pkX (d : Option Tmp) (c x y : Operand) : OX := cond (rdOk c && (rdOk x && rdOk y)) ⟨fun _ n F E => vB (fun b => Bool.rec (motive := fun _ => Bool) (n ((wr d).fn F ((rd y).fn F)) E) (n ((wr d).fn F ((rd x).fn F)) E) b) ((rd c).fn F)⟩ noX
theorem pkX_sat {d : Option Tmp} {c x y : Operand} (hw : wrOk d = true) : OSat P (pkX d c x y) d (.pick c x y) := by
  refine OSat.bif (fun hx => ?_) noX_sat
  simp only [Bool.and_eq_true] at hx
  intro C hC n K hn F E h hm R
  obtain ⟨b, hb, hm⟩ := vB_eq hm
  have e : pureOp P F.fr (.pick c x y) = if b = true then some ((rd x).fn F) else some ((rd y).fn F) := by
    simp only [pureOp, rd_ev hx.1, rd_ev hx.2.1, rd_ev hx.2.2, hb]
  cases b with
  | true => exact slow_done hw hn hm R (pure_slow e)
  | false => exact slow_done hw hn hm R (pure_slow e)

/-! ### Texts -/
def lbeq : List UInt8 → List UInt8 → Bool
  | [], [] => true
  | a :: l, b :: r => (match Nat.beq a.toNat b.toNat with
    | true => lbeq l r
    | false => false)
  | _, _ => false
theorem lbeq_eq : ∀ (l r : List UInt8), lbeq l r = (l == r)
  | [], [] => rfl
  | [], _ :: _ => rfl
  | _ :: _, [] => rfl
  | a :: l, b :: r => by
    simp only [lbeq, List.cons_beq_cons]
    rw [lbeq_eq l r]
    by_cases h : a = b
    · subst h; rw [beqN_true rfl]; simp
    · rw [beqN_false (fun q => h (UInt8.toNat_inj.1 q))]; simp [h]
def stB (op : BinOp) (s t : ByteArray) (n : Value → Bool) : Bool := match op with
  | .eql => (match lbeq s.data.toList t.data.toList with
    | true => n (.bool true)
    | false => n (.bool false))
  | .neq => (match lbeq s.data.toList t.data.toList with
    | true => n (.bool false)
    | false => n (.bool true))
  | .lss => (match Op.bytesLess s.data.toList t.data.toList with
    | true => n (.bool true)
    | false => n (.bool false))
  | .gtr => (match Op.bytesLess s.data.toList t.data.toList || lbeq s.data.toList t.data.toList with
    | true => n (.bool false)
    | false => n (.bool true))
  | .add => (match Nat.ble (Nat.add s.data.toList.length t.data.toList.length) 9223372036854775807 with
    | true => n (.string ⟨⟨s.data.toList ++ t.data.toList⟩⟩)
    | false => false)
  | _ => false
theorem stB_sat {op : BinOp} {s t : ByteArray} {n : Value → Bool} (h : stB op s t n = true) : ∃ v, aStr op s t = some v ∧ n v = true := by
  cases op <;> simp only [stB, reduceCtorEq] at h <;> (try (cases h; done))
  · split at h <;> (try (cases h; done))
    rename_i hc
    rw [Nat.ble_eq] at hc
    have e : ∀ a : ByteArray, a.data.toList.length = a.size := fun a => by cases a; rfl
    refine ⟨_, ?_, h⟩
    have hc' : s.size + t.size ≤ 9223372036854775807 := by rw [← e s, ← e t]; exact hc
    simp only [aStr, if_pos hc']
    have e2 : s ++ t = ⟨⟨s.data.toList ++ t.data.toList⟩⟩ := by
      apply ByteArray.ext
      apply Array.toList_inj.1
      rw [ByteArray.data_append, Array.toList_append]
    rw [e2]
  · rw [lbeq_eq] at h
    simp only [aStr, Lib.toList_data]
    split at h <;> rename_i hq <;> rw [hq] <;> exact ⟨_, rfl, h⟩
  · rw [lbeq_eq] at h
    simp only [aStr, Lib.toList_data]
    split at h <;> rename_i hq <;> rw [hq] <;> exact ⟨_, rfl, h⟩
  · simp only [aStr, Lib.toList_data]
    split at h <;> rename_i hq <;> rw [hq] <;> exact ⟨_, rfl, h⟩
  · rw [lbeq_eq] at h
    simp only [aStr, Lib.toList_data]
    split at h <;> rename_i hq <;> rw [hq] <;> exact ⟨_, rfl, h⟩

def isIntT (P : Program) (t : TypeId) : Bool := match P.underlying t with
  | some (.int _) => true
  | _ => false
def biX (P : Program) (d : Option Tmp) (o : BinOp) (t : TypeId) (x y : Operand) (u : TypeId) : OX := cond (rdOk x && rdOk y) (cond (isIntT P t) ⟨fun C n F E => vI (fun k a => vI (fun k' b => (bI P o t).run k k' a b fun v => n ((wr d).fn F v) E) ((rd y).fn F)) ((rd x).fn F)⟩ ⟨fun C n F E => match (rd x).fn F with
  | .int k a => (match (rd y).fn F with
    | .int k' b => (bI P o t).run k k' a b fun v => n ((wr d).fn F v) E
    | _ => false)
  | .string a => (match (rd y).fn F with
    | .string b => stB o a b fun v => n ((wr d).fn F v) E
    | _ => false)
  | _ => (slowX P d (.binOp o t x y u)).run C n F E⟩) noX
theorem biX_sat {d : Option Tmp} {o : BinOp} {t : TypeId} {x y : Operand} {u : TypeId} (hw : wrOk d = true) : OSat P (biX P d o t x y u) d (.binOp o t x y u) := by
  refine OSat.bif (fun hx => ?_) noX_sat
  simp only [Bool.and_eq_true] at hx
  refine OSat.bif (fun _ => ?_) ?_
  · intro C hC n K hn F E h hm R
    obtain ⟨k, a, ha, hm⟩ := vI_eq hm
    obtain ⟨k', b, hb, hm⟩ := vI_eq hm
    obtain ⟨v, h1, h2⟩ := bI_sat o t _ _ _ _ _ hm
    refine slow_done hw hn h2 R (pure_slow ?_)
    simp only [pureOp, rd_ev hx.1, rd_ev hx.2, ha, hb, h1]
  intro C hC n K hn F E h hm R
  simp only at hm
  split at hm
  · rename_i k a ha
    split at hm
    · rename_i k' b hb
      obtain ⟨v, h1, h2⟩ := bI_sat o t _ _ _ _ _ hm
      refine slow_done hw hn h2 R (pure_slow ?_)
      simp only [pureOp, rd_ev hx.1, rd_ev hx.2, ha, hb, h1]
    · cases hm
  · rename_i a ha
    split at hm
    · rename_i b hb
      obtain ⟨v, h1, h2⟩ := stB_sat hm
      refine slow_done hw hn h2 R (pure_slow ?_)
      simp only [pureOp, rd_ev hx.1, rd_ev hx.2, ha, hb, aBin, h1]
    · cases hm
  · exact slowX_sat hw C hC n K hn F E h hm R

def iaS (d : Option Tmp) (sz : Nat) (x i : Operand) : OX := ⟨fun _ n F E => vS (fun a len _ => Option.rec (motive := fun _ => Bool) false (fun a => Addr.rec (motive := fun _ => Bool) (fun b off s => Option.rec (motive := fun _ => Bool) false (fun e => vI (fun _ z => Int.rec (motive := fun _ => Bool) (fun j => Bool.rec (motive := fun _ => Bool) false (fN (Nat.add off (Nat.mul j sz)) fun o => n ((wr d).fn F (.pointer (some ⟨b, o, some e⟩))) E) (Nat.ble (Nat.succ j) len)) (fun _ => false) z) ((rd i).fn F)) s) a) a) ((rd x).fn F)⟩
def iaA (d : Option Tmp) (len sz : Nat) (x i : Operand) : OX := ⟨fun _ n F E => vP (fun a => Option.rec (motive := fun _ => Bool) false (fun a => Addr.rec (motive := fun _ => Bool) (fun b off s => Option.rec (motive := fun _ => Bool) false (fun e => vI (fun _ z => Int.rec (motive := fun _ => Bool) (fun j => Bool.rec (motive := fun _ => Bool) false (fN (Nat.add off (Nat.mul j sz)) fun o => n ((wr d).fn F (.pointer (some ⟨b, o, some e⟩))) E) (Nat.ble (Nat.succ j) len)) (fun _ => false) z) ((rd i).fn F)) s) a) a) ((rd x).fn F)⟩
def iaX (P : Program) (d : Option Tmp) (t : TypeId) (x i : Operand) : OX := cond (rdOk x && rdOk i) (match P.underlying t with
  | some (.slice el) => (match P.cellsOf el with
    | .zero => noX
    | .succ m => iaS d (.succ m) x i)
  | some (.array len el) => (match P.cellsOf el with
    | .zero => noX
    | .succ m => iaA d len (.succ m) x i)
  | _ => noX) noX
theorem iaX_sat {d : Option Tmp} {t : TypeId} {x i : Operand} (hw : wrOk d = true) : OSat P (iaX P d t x i) d (.indexAddr t x i) := by
  refine OSat.bif (fun hx => ?_) noX_sat
  simp only [Bool.and_eq_true] at hx
  split
  · rename_i el hu
    split
    · exact noX_sat
    · rename_i m hc
      intro C hC n K hn F E h hm R
      obtain ⟨a, len, c, ha, hm⟩ := vS_eq hm
      obtain ⟨a, rfl, hm⟩ := oR_eq hm
      obtain ⟨b, off, s⟩ := a
      obtain ⟨e, rfl, hm⟩ := oR_eq (o := s) hm
      obtain ⟨k, z, hz, hm⟩ := vI_eq hm
      obtain ⟨j, rfl, hm⟩ := iR_eq hm
      obtain ⟨hj, hm⟩ := bR_eq hm
      rw [Nat.ble_eq] at hj
      rw [fN_eq] at hm
      refine slow_done hw hn hm R (pure_slow ?_)
      simp only [pureOp, rd_ev hx.1, rd_ev hx.2, ha, hz, aIndexAddr, hu]
      rw [if_neg (by rw [hc]; exact Nat.succ_ne_zero m), if_pos ⟨Int.natCast_nonneg j, by exact Int.ofNat_lt.2 hj⟩, hc]
      rfl
  · rename_i len el hu
    split
    · exact noX_sat
    · rename_i m hc
      intro C hC n K hn F E h hm R
      obtain ⟨a, ha, hm⟩ := vP_eq hm
      obtain ⟨a, rfl, hm⟩ := oR_eq hm
      obtain ⟨b, off, s⟩ := a
      obtain ⟨e, rfl, hm⟩ := oR_eq (o := s) hm
      obtain ⟨k, z, hz, hm⟩ := vI_eq hm
      obtain ⟨j, rfl, hm⟩ := iR_eq hm
      obtain ⟨hj, hm⟩ := bR_eq hm
      rw [Nat.ble_eq] at hj
      rw [fN_eq] at hm
      refine slow_done hw hn hm R (pure_slow ?_)
      simp only [pureOp, rd_ev hx.1, rd_ev hx.2, ha, hz, aIndexAddr, hu]
      rw [if_neg (by rw [hc]; exact Nat.succ_ne_zero m), if_pos ⟨Int.natCast_nonneg j, by exact Int.ofNat_lt.2 hj⟩, hc]
      rfl
  · exact noX_sat

def faO (d : Option Tmp) (o : Nat) (x : Operand) : OX := ⟨fun _ n F E => vP (fun a => Option.rec (motive := fun _ => Bool) false (fun a => Addr.rec (motive := fun _ => Bool) (fun b off s => Option.rec (motive := fun _ => Bool) false (fun e => fN (Nat.add off o) fun o => n ((wr d).fn F (.pointer (some ⟨b, o, some e⟩))) E) s) a) a) ((rd x).fn F)⟩
def faX (P : Program) (d : Option Tmp) (s : TypeId) (x : Operand) (f : Nat) : OX := cond (rdOk x) (match P.underlying s with
  | some (.struct fields) => (match fields[f]? with
    | some fd => (match P.cellsOf fd.type with
      | .zero => noX
      | .succ _ => faO d fd.offset x)
    | none => noX)
  | _ => noX) noX
theorem faX_sat {d : Option Tmp} {s : TypeId} {x : Operand} {f : Nat} (hw : wrOk d = true) : OSat P (faX P d s x f) d (.fieldAddr s x f) := by
  refine OSat.bif (fun hx => ?_) noX_sat
  split
  · rename_i fields hu
    split
    · rename_i fd hf
      split
      · exact noX_sat
      · rename_i m hc
        intro C hC n K hn F E h hm R
        obtain ⟨a, ha, hm⟩ := vP_eq hm
        obtain ⟨a, rfl, hq⟩ := oR_eq hm
        obtain ⟨b, off, s⟩ := a
        obtain ⟨e, rfl, hz⟩ := oR_eq (o := s) hq
        rw [fN_eq] at hz
        refine slow_done hw hn hz R (pure_slow ?_)
        simp only [pureOp, rd_ev hx, ha, Option.bind_some, aFieldAddr, hu, hf]
        rw [if_neg (by rw [hc]; exact Nat.succ_ne_zero m)]
        rfl
    · exact noX_sat
  · exact noX_sat

def ncX (P : Program) (d : Option Tmp) (x : Operand) : OX := cond (rdOk x) ⟨fun C n F E => match (rd x).fn F with
  | .pointer a => (match a with
    | some a => n ((wr d).fn F (.pointer (some a))) E
    | none => false)
  | _ => (slowX P d (.nilCheck x)).run C n F E⟩ noX
theorem ncX_sat {d : Option Tmp} {x : Operand} (hw : wrOk d = true) : OSat P (ncX P d x) d (.nilCheck x) := by
  refine OSat.bif (fun hx => ?_) noX_sat
  intro C hC n K hn F E h hm R
  simp only at hm
  split at hm
  · rename_i a ha
    split at hm <;> (try (cases hm; done))
    refine slow_done hw hn hm R (pure_slow ?_)
    simp only [pureOp, rd_ev hx, ha, Option.bind_some, aNilCheck]
  · exact slowX_sat hw C hC n K hn F E h hm R

def eoB (z : Ct → Nat → TypeId → Nat → Bool → Bool) (o : EO) : Bool := EO.rec (motive := fun _ => Bool) z (fun _ _ _ _ _ _ _ _ _ => false) (fun _ => false) (fun _ _ => false) o
theorem eoB_eq {z : Ct → Nat → TypeId → Nat → Bool → Bool} {o : EO} (h : eoB z o = true) : ∃ c n el lo own, o = .blk c n el lo own ∧ z c n el lo own = true := by
  cases o <;> first | exact ⟨_, _, _, _, _, rfl, h⟩ | cases h
def ldX (P : Program) (d : Option Tmp) (t : TypeId) (x : Operand) : OX := cond (rdOk x && ((P.underlying t).isSome && ((P.info? t).isSome && !(isAggT P t)))) ⟨fun _ n F E => vP (fun a => Option.rec (motive := fun _ => Bool) false (fun a => Addr.rec (motive := fun _ => Bool) (fun b off s => Option.rec (motive := fun _ => Bool) false (fun e => Option.rec (motive := fun _ => Bool) false
  (fun o => eoB (fun c len _ lo _ => Bool.rec (motive := fun _ => Bool) false (Bool.rec (motive := fun _ => Bool) false (Bool.rec (motive := fun _ => Bool) false (n ((wr d).fn F (cGet c off)) E) (Nat.ble (Nat.succ off) e)) (Nat.ble e len)) (Nat.ble lo e)) o) (E.objs.get b)) s) a) a) ((rd x).fn F)⟩ (slowX P d (.load t x))
theorem ldX_sat {d : Option Tmp} {t : TypeId} {x : Operand} (hw : wrOk d = true) : OSat P (ldX P d t x) d (.load t x) := by
  refine OSat.bif (fun hx => ?_) (slowX_sat hw)
  simp only [Bool.and_eq_true, Bool.not_eq_true'] at hx
  intro C hC n K hn F E h hm R
  obtain ⟨a, ha, hm1⟩ := vP_eq hm
  obtain ⟨a, rfl, hm2⟩ := oR_eq hm1
  obtain ⟨b, off, s⟩ := a
  obtain ⟨e, rfl, hm3⟩ := oR_eq (o := s) hm2
  obtain ⟨o, ho, hm4⟩ := oR_eq hm3
  obtain ⟨c, len, el, lo, own, rfl, hm5⟩ := eoB_eq hm4
  obtain ⟨c1, hm6⟩ := bR_eq hm5
  obtain ⟨c2, hm7⟩ := bR_eq hm6
  obtain ⟨c3, hm8⟩ := bR_eq hm7
  refine slow_done hw hn hm8 R ?_
  simp only [eSlow, pureOp, eRead, rd_ev hx.1, ha, eLoad, hx.2.1, hx.2.2.1, hx.2.2.2, Bool.and_self, cond_true, cond_false, eRow, ho]
  have hc' : (Nat.ble lo e && (Nat.ble e len && Nat.ble (off + 1) e)) = true := by
    have c3' : Nat.ble (off + 1) e = true := c3
    rw [c1, c2, c3']; rfl
  rw [hc']
  rfl

def cvX (P : Program) (d : Option Tmp) (s t : TypeId) (x : Operand) : OX := cond (rdOk x && (P.underlying s).isSome) (match P.underlying t with
  | some (.int k) => ⟨fun C n F E => match (rd x).fn F with
    | .int _ z => (match z with
      | .ofNat a => (match Nat.blt a (lim k) with
        | true => n ((wr d).fn F (.int k (.ofNat a))) E
        | false => (slowX P d (.convert s t x)).run C n F E)
      | .negSucc _ => (slowX P d (.convert s t x)).run C n F E)
    | _ => (slowX P d (.convert s t x)).run C n F E⟩
  | _ => slowX P d (.convert s t x)) noX
theorem cvX_sat {d : Option Tmp} {s t : TypeId} {x : Operand} (hw : wrOk d = true) : OSat P (cvX P d s t x) d (.convert s t x) := by
  refine OSat.bif (fun hx => ?_) noX_sat
  simp only [Bool.and_eq_true] at hx
  obtain ⟨us, hs⟩ := Option.isSome_iff_exists.1 hx.2
  split
  · rename_i k hu
    intro C hC n K hn F E h hm R
    simp only at hm
    split at hm
    · rename_i k' z hz
      split at hm
      · rename_i a
        split at hm
        · rename_i ha
          rw [Nat.blt_eq] at ha
          refine slow_done hw hn hm R (pure_slow ?_)
          simp only [pureOp, rd_ev hx.1, hz, Option.bind_some, aConv, hs, hu]
          show some (Value.int k (k.wrap (a : Int))) = some (Value.int k (a : Int))
          rw [wrap_lim ha]
        · exact slowX_sat hw C hC n K hn F E h hm R
      · exact slowX_sat hw C hC n K hn F E h hm R
    · exact slowX_sat hw C hC n K hn F E h hm R
  · exact slowX_sat hw

def callX (d : Option Tmp) (f : FuncId) (l : List Operand) : OX := cond (l.all rdOk) ⟨fun C n F E => C.c f (cArgs (l.map rd) F) (fun v E' => n ((wr d).fn F v) E') E⟩ noX
def callvX (d : Option Tmp) (g : Operand) (l : List Operand) : OX := cond (rdOk g && l.all rdOk) ⟨fun C n F E => match (rd g).fn F with
  | .func fn xs ys => (match fn with
    | .func f => C.c f (xs.toList ++ cArgs (l.map rd) F ++ ys.toList) (fun v E' => n ((wr d).fn F v) E') E
    | .yield i => (match xs.toList with
      | [] => (match ys.toList with
        | [] => C.y i (cArgs (l.map rd) F) (fun v E' => n ((wr d).fn F v) E') E
        | _ :: _ => false)
      | _ :: _ => false)
    | _ => false)
  | _ => false⟩ noX
theorem callX_sat {d : Option Tmp} {f : FuncId} {c : Call} (hw : wrOk d = true) (hc : c.callee = .value (.func f)) : OSat P (callX d f c.args.toList) d (.call c) := by
  refine OSat.bif (fun hx => ?_) noX_sat
  obtain ⟨callee, args, ts⟩ := c
  simp only at hc hx
  subst hc
  intro C hC n K hn F E h hm R
  simp only [BOp, AOp, rd_evl hx, optE_some]
  refine hC.c _ _ _ _ _ _ (fun v E h hm R => ?_) hm R
  rw [← FT.fr_put F v hw]
  exact hn _ _ _ hm R
theorem callvX_sat {d : Option Tmp} {g : Operand} {c : Call} (hw : wrOk d = true) (hc : c.callee = .value g) (hg : ∀ f, g ≠ .func f) : OSat P (callvX d g c.args.toList) d (.call c) := by
  refine OSat.bif (fun hx => ?_) noX_sat
  obtain ⟨callee, args, ts⟩ := c
  simp only at hc hx
  subst hc
  simp only [Bool.and_eq_true] at hx
  intro C hC n K hn F E h hm R
  have key : ∀ fv, (rd g).fn F = fv → ACallV P fv (cArgs (args.toList.map rd) F) h (fun v h' => K (Am.put F.fr d v) h') → BOp P d (.call ⟨.value g, args, ts⟩) K F.fr h := by
    intro fv hf q
    cases g with
    | func f => exact absurd rfl (hg f)
    | tmp t => simp only [BOp, AOp, rd_evl hx.2, rd_ev hx.1, hf, optE_some]; exact q
    | const t => simp only [BOp, AOp, rd_evl hx.2, rd_ev hx.1, hf, optE_some]; exact q
    | global t => simp only [BOp, AOp, rd_evl hx.2, rd_ev hx.1, hf, optE_some]; exact q
  have kk : ∀ v E h, n ((wr d).fn F v) E = true → Repr P E h → K (Am.put F.fr d v) h := fun v E h hm R => by
    rw [← FT.fr_put F v hw]
    exact hn _ _ _ hm R
  simp only at hm
  split at hm <;> (try (cases hm; done))
  rename_i fn xs ys hf
  split at hm <;> (try (cases hm; done))
  · exact key _ hf (ACallV.of_func (hC.c _ _ _ _ _ _ kk hm R))
  · rename_i i
    split at hm <;> (try (cases hm; done))
    rename_i hxs
    split at hm <;> (try (cases hm; done))
    rename_i hys
    have e1 : xs = #[] := by simpa using hxs
    have e2 : ys = #[] := by simpa using hys
    subst e1 e2
    exact key _ hf (hC.y _ _ _ _ _ _ kk hm R)

def opX (P : Program) (d : Option Tmp) (op : Op) : OX := cond (wrOk d) (match op with
  | .move x => mvX d x
  | .assign x => mvX d x
  | .pick c x y => pkX d c x y
  | .binOp o t x y u => biX P d o t x y u
  | .indexAddr t x i => iaX P d t x i
  | .fieldAddr s x f => faX P d s x f
  | .nilCheck x => ncX P d x
  | .load t x => ldX P d t x
  | .convert s t x => cvX P d s t x
  | .call c => (match c.callee with
    | .value (.func f) => callX d f c.args.toList
    | .value g => callvX d g c.args.toList
    | _ => slowX P d (.call c))
  | op => slowX P d op) noX
theorem opX_sat {d : Option Tmp} {op : Op} : OSat P (opX P d op) d op := by
  refine OSat.bif (fun hw => ?_) noX_sat
  split
  · exact mvX_sat hw (.inl rfl)
  · exact mvX_sat hw (.inr rfl)
  · exact pkX_sat hw
  · exact biX_sat hw
  · exact iaX_sat hw
  · exact faX_sat hw
  · exact ncX_sat hw
  · exact ldX_sat hw
  · exact cvX_sat hw
  · rename_i c
    split
    · exact callX_sat hw ‹_›
    · rename_i g hne hc
      exact callvX_sat hw hc (fun f hf => hne f (by rw [← hf]))
    · exact slowX_sat hw
  · exact slowX_sat hw

/-! ### Guarded, one behind the other -/
def boX (P : Program) (o : BO) : OX := match o.g with
  | none => opX P o.d o.op
  | some (some t, w) => cond (Nat.blt t 512 && wrOk o.d) (cond w ⟨fun C n F E => vBU (fun b => Bool.rec (motive := fun _ => Bool) (n ((wr o.d).fn F undef) E) ((opX P o.d o.op).run C n F E) b) (n ((wr o.d).fn F undef) E) ((rdT t).fn F)⟩
      ⟨fun C n F E => vBU (fun b => Bool.rec (motive := fun _ => Bool) ((opX P o.d o.op).run C n F E) (n ((wr o.d).fn F undef) E) b) (n ((wr o.d).fn F undef) E) ((rdT t).fn F)⟩) noX
  | some (none, _) => cond (wrOk o.d) ⟨fun _ n F E => n ((wr o.d).fn F undef) E⟩ noX
theorem boX_sat {o : BO} {C : CY} (hC : CSat P C) {n : KT} {K : Fr → Heap → Prop} (hn : ∀ F E h, n F E = true → Repr P E h → K F.fr h) {F : FT} {E : EH} {h : Heap}
    (hm : (boX P o).run C n F E = true) (R : Repr P E h) : gif (guardOk F.fr o.g) (BOp P o.d o.op K F.fr h) (K (Am.put F.fr o.d undef) h) := by
  obtain ⟨g, d, op⟩ := o
  cases g with
  | none => simp only [guardOk, gif_true]; exact opX_sat C hC n K hn F E h hm R
  | some g =>
    obtain ⟨t, w⟩ := g
    cases t with
    | none =>
      simp only [boX] at hm
      cases hw : wrOk d with
      | false => rw [hw] at hm; cases hm
      | true =>
        rw [hw, cond_true] at hm
        simp only [guardOk, gif_false]
        rw [← FT.fr_put F undef hw]
        exact hn _ _ _ hm R
    | some t =>
      simp only [boX] at hm
      cases hw : (Nat.blt t 512 && wrOk d) with
      | false => rw [hw] at hm; cases hm
      | true =>
        rw [hw, cond_true] at hm
        simp only [Bool.and_eq_true, Nat.blt_eq] at hw
        have eg : ∀ b, (rdT t).fn F = .bool b → guardOk F.fr (some (some t, w)) = (b == w) := fun b hb => by simp only [guardOk, FT.fr_lt F hw.1, hb]
        have eu : ∀ a, (rdT t).fn F = .tuple a → guardOk F.fr (some (some t, w)) = false := fun a hb => by simp only [guardOk, FT.fr_lt F hw.1, hb]
        have sk : n ((wr d).fn F undef) E = true → K (Am.put F.fr d undef) h := fun hm1 => by
          rw [← FT.fr_put F undef hw.2]
          exact hn _ _ _ hm1 R
        cases w with
        | true =>
          rw [cond_true] at hm
          rcases vBU_eq hm with ⟨b, hb, hm1⟩ | ⟨a, ha, hm1⟩
          · rw [eg b hb]
            cases b with
            | true => exact opX_sat C hC n K hn F E h hm1 R
            | false => exact sk hm1
          · rw [eu a ha]
            exact sk hm1
        | false =>
          rw [cond_false] at hm
          rcases vBU_eq hm with ⟨b, hb, hm1⟩ | ⟨a, ha, hm1⟩
          · rw [eg b hb]
            cases b with
            | false => exact opX_sat C hC n K hn F E h hm1 R
            | true => exact sk hm1
          · rw [eu a ha]
            exact sk hm1

def bosX (P : Program) (l : List BO) : OX := List.rec (motive := fun _ => OX) ⟨fun _ n F E => n F E⟩ (fun o _ ih => ⟨fun C n => (boX P o).run C (ih.run C n)⟩) l
theorem bosX_cons (o : BO) (l : List BO) : bosX P (o :: l) = ⟨fun C n => (boX P o).run C ((bosX P l).run C n)⟩ := rfl
theorem bosX_sat {C : CY} (hC : CSat P C) {n : KT} {K : Fr → Heap → Prop} (hn : ∀ F E h, n F E = true → Repr P E h → K F.fr h) : ∀ (l : List BO) {F : FT} {E : EH} {h : Heap},
    (bosX P l).run C n F E = true → Repr P E h → BOps P K l F.fr h
  | [], F, E, h, hm, R => hn _ _ _ hm R
  | o :: l, F, E, h, hm, R => by
    rw [bosX_cons] at hm
    exact boX_sat hC (K := BOps P K l) (fun F E h hm R => bosX_sat hC hn l hm R) hm R

/-! ### Orders that stand for all -/
def ieq (a b : Int) : Bool := match a, b with
  | .ofNat x, .ofNat y => Nat.beq x y
  | .negSucc x, .negSucc y => Nat.beq x y
  | _, _ => false
theorem ieq_spec {a b : Int} (h : ieq a b = true) : a = b := by
  unfold ieq at h
  split at h <;> (try (cases h; done)) <;> (rw [Nat.beq_eq] at h; rw [h])
def aeq (a b : Addr) : Bool := Nat.beq a.block b.block && (Nat.beq a.off b.off && (match a.spot, b.spot with
  | none, none => true
  | some x, some y => Nat.beq x y
  | _, _ => false))
theorem aeq_spec {a b : Addr} (h : aeq a b = true) : a = b := by
  obtain ⟨a1, a2, a3⟩ := a
  obtain ⟨b1, b2, b3⟩ := b
  simp only [aeq, Bool.and_eq_true, Nat.beq_eq] at h
  obtain ⟨rfl, rfl, h⟩ := h
  cases a3 <;> cases b3 <;> simp_all
def veqA (u v : Value) : Bool := match u, v with
  | .int k a, .int k' b => keq k k' && ieq a b
  | .bool a, .bool b => a == b
  | .pointer none, .pointer none => true
  | .pointer (some a), .pointer (some b) => aeq a b
  | .slice none l c, .slice none l' c' => Nat.beq l l' && Nat.beq c c'
  | .slice (some a) l c, .slice (some b) l' c' => aeq a b && (Nat.beq l l' && Nat.beq c c')
  | .string s, .string t => s.data.toList == t.data.toList
  | .map none, .map none => true
  | .map (some a), .map (some b) => Nat.beq a b
  | .nilFunc, .nilFunc => true
  | .nilIface, .nilIface => true
  | _, _ => false
theorem veqA_spec {u v : Value} (h : veqA u v = true) : u = v := by
  unfold veqA at h
  split at h <;> (try (cases h; done)) <;> (try rfl)
  · simp only [Bool.and_eq_true] at h
    rw [keq_spec h.1, ieq_spec h.2]
  · rw [beq_iff_eq] at h; rw [h]
  · rw [aeq_spec h]
  · simp only [Bool.and_eq_true, Nat.beq_eq] at h; rw [h.1, h.2]
  · simp only [Bool.and_eq_true, Nat.beq_eq] at h; rw [aeq_spec h.1, h.2.1, h.2.2]
  · rw [bytes_beq_eq h]
  · rw [Nat.beq_eq] at h; rw [h]
def veqL : List Value → List Value → Bool
  | [], [] => true
  | u :: us, v :: vs => veqA u v && veqL us vs
  | _, _ => false
theorem veqL_spec : ∀ {us vs : List Value}, veqL us vs = true → us = vs
  | [], [], _ => rfl
  | [], _ :: _, h => by cases h
  | _ :: _, [], h => by cases h
  | u :: us, v :: vs, h => by
    simp only [veqL, Bool.and_eq_true] at h
    rw [veqA_spec h.1, veqL_spec h.2]
def veq (u v : Value) : Bool := match u, v with
  | .agg xs, .agg ys => veqL xs.toList ys.toList
  | .tuple xs, .tuple ys => veqL xs.toList ys.toList
  | u, v => veqA u v
theorem veq_spec {u v : Value} (h : veq u v = true) : u = v := by
  unfold veq at h
  split at h
  · rw [Array.toList_inj.1 (veqL_spec h)]
  · rw [Array.toList_inj.1 (veqL_spec h)]
  · exact veqA_spec h

def bvX (P : Program) (c : BO) (F : FT) (E : EH) : Option Value := if guardOk F.fr c.g = true then (if bcls P c.op = 0 then pureOp P F.fr c.op else eRead P F E c.op) else some undef
theorem bvX_sound {c : BO} {F : FT} {E : EH} {h : Heap} (R : Repr P E h) {v : Value} (hm : bvX P c F E = some v) : bval P c F.fr h = some v := by
  unfold bvX at hm
  unfold bval
  split at hm
  · rename_i hg
    rw [if_pos hg]
    split at hm
    · rename_i hb; rw [if_pos hb]; exact hm
    · rename_i hb; rw [if_neg hb]; exact eRead_sound R hm
  · rename_i hg
    rw [if_neg hg]
    exact hm
def stblB (P : Program) (F : FT) (E : EH) (l : List BO) : Bool := List.rec (motive := fun _ => Bool) true (fun c _ ih => match bvX P c F E with
  | some u => (match c.d with
    | some t => cond (veq u (F.fr t)) ih false
    | none => ih)
  | none => false) l
theorem stblB_cons (F : FT) (E : EH) (c : BO) (l : List BO) : stblB P F E (c :: l) = match bvX P c F E with
  | some u => (match c.d with
    | some t => cond (veq u (F.fr t)) (stblB P F E l) false
    | none => stblB P F E l)
  | none => false := rfl
theorem stblB_sound {F : FT} {E : EH} {h : Heap} (R : Repr P E h) : ∀ {l : List BO}, stblB P F E l = true → BStable P l F.fr h
  | [], _ => trivial
  | c :: l, hm => by
    rw [stblB_cons] at hm
    split at hm <;> (try (cases hm; done))
    rename_i u hu
    split at hm
    · rename_i t ht
      obtain ⟨h1, h2⟩ := bif_true hm
      exact ⟨⟨u, bvX_sound R hu, fun s hs => by rw [ht] at hs; cases hs; exact (veq_spec h1).symm⟩, stblB_sound R h2⟩
    · rename_i ht
      exact ⟨⟨u, bvX_sound R hu, fun s hs => by rw [ht] at hs; cases hs⟩, stblB_sound R hm⟩
def dosX (P : Program) (l : List DO) : OX := List.rec (motive := fun _ => OX) ⟨fun _ n F E => n F E⟩ (fun x _ ih => match x.chk with
  | [] => ⟨fun C n => (boX P x.o).run C (ih.run C n)⟩
  | _ :: _ => ⟨fun C n => (boX P x.o).run C fun F E => match stblB P F E x.chk with
    | true => ih.run C n F E
    | false => false⟩) l
theorem dosX_cons (x : DO) (l : List DO) : dosX P (x :: l) = match x.chk with
  | [] => ⟨fun C n => (boX P x.o).run C ((dosX P l).run C n)⟩
  | _ :: _ => ⟨fun C n => (boX P x.o).run C fun F E => match stblB P F E x.chk with
    | true => (dosX P l).run C n F E
    | false => false⟩ := rfl
theorem dosX_sat {C : CY} (hC : CSat P C) {n : KT} {K : Fr → Heap → Prop} (hn : ∀ F E h, n F E = true → Repr P E h → K F.fr h) : ∀ (l : List DO) {F : FT} {E : EH} {h : Heap},
    (dosX P l).run C n F E = true → Repr P E h → DBOps P K l F.fr h
  | [], F, E, h, hm, R => hn _ _ _ hm R
  | x :: l, F, E, h, hm, R => by
    rw [dosX_cons] at hm
    split at hm
    · rename_i hx
      refine boX_sat hC (K := fun fr h => BStable P x.chk fr h ∧ DBOps P K l fr h) (fun F E h hm R => ⟨?_, dosX_sat hC hn l hm R⟩) hm R
      rw [hx]; trivial
    · rename_i hx
      refine boX_sat hC (K := fun fr h => BStable P x.chk fr h ∧ DBOps P K l fr h) (fun F E h hm R => ?_) hm R
      split at hm
      · rename_i hs
        exact ⟨stblB_sound R hs, dosX_sat hC hn l hm R⟩
      · cases hm
end
end Go.Am
