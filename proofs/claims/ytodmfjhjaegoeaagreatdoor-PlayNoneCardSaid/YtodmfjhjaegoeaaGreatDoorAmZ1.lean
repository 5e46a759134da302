/- A machine over the abstract memory that the kernel runs fast. First: its stores, frames, memory. -/
import Derived.Test.YtodmfjhjaegoeaaGreatDoorAmComp
set_option linter.unusedVariables false
set_option linter.unusedSimpArgs false
namespace Go.Am
variable {P : Program}
noncomputable section

theorem beqN_false {a b : Nat} (h : ¬ a = b) : Nat.beq a b = false := by
  cases hb : Nat.beq a b with
  | false => rfl
  | true => exact absurd (Nat.eq_of_beq_eq_true hb) h
theorem beqN_true {a b : Nat} (h : a = b) : Nat.beq a b = true := by subst h; exact Nat.beq_refl a
theorem bif_some {c : Bool} {α : Type} {x : Option α} {v : α} (h : (bif c then x else none) = some v) : c = true ∧ x = some v := by
  cases c
  · cases h
  · exact ⟨rfl, h⟩
theorem bif_true {c x : Bool} (h : (bif c then x else false) = true) : c = true ∧ x = true := by
  cases c
  · cases h
  · exact ⟨rfl, h⟩

/-! ### A store by number -/
inductive Zt (α : Type) where
  | nil
  | node (v : Option α) (l r : Zt α)

namespace Zt
variable {α : Type}
def get (t : Zt α) : Nat → Option α := Zt.rec (motive := fun _ => Nat → Option α) (fun _ => none)
  (fun v _ _ gl gr n => cond (Nat.beq n 0) v (cond (Nat.beq (Nat.land n 1) 1) (gl (Nat.shiftRight n 1)) (gr (Nat.pred (Nat.shiftRight n 1))))) t
def setF (f : Nat) : Zt α → Nat → α → Zt α := Nat.rec (motive := fun _ => Zt α → Nat → α → Zt α) (fun t _ _ => t)
  (fun _ ih t n a => Zt.rec (motive := fun _ => Zt α)
    (cond (Nat.beq n 0) (.node (some a) .nil .nil) (cond (Nat.beq (Nat.land n 1) 1) (.node none (ih .nil (Nat.shiftRight n 1) a) .nil) (.node none .nil (ih .nil (Nat.pred (Nat.shiftRight n 1)) a))))
    (fun v l r _ _ => cond (Nat.beq n 0) (.node (some a) l r) (cond (Nat.beq (Nat.land n 1) 1) (.node v (ih l (Nat.shiftRight n 1) a) r) (.node v l (ih r (Nat.pred (Nat.shiftRight n 1)) a)))) t) f
def set (t : Zt α) (n : Nat) (a : α) : Zt α := setF (Nat.succ n) t n a

theorem get_nil (n : Nat) : (Zt.nil : Zt α).get n = none := rfl
theorem get_node (v : Option α) (l r : Zt α) (n : Nat) : (Zt.node v l r).get n = cond (Nat.beq n 0) v (cond (Nat.beq (n % 2) 1) (l.get (n / 2)) (r.get (n / 2 - 1))) := by
  show cond (Nat.beq n 0) v (cond (Nat.beq (n &&& 1) 1) (l.get (n >>> 1)) (r.get (n >>> 1 - 1))) = _
  rw [Nat.and_one_is_mod, Nat.shiftRight_succ, Nat.shiftRight_zero]
theorem setF_eq (f : Nat) (t : Zt α) (n : Nat) (a : α) : ∃ v l r, (∀ m, t.get m = (Zt.node v l r).get m) ∧
    setF (f + 1) t n a = cond (Nat.beq n 0) (Zt.node (some a) l r) (cond (Nat.beq (n % 2) 1) (Zt.node v (setF f l (n / 2) a) r) (Zt.node v l (setF f r (n / 2 - 1) a))) := by
  have e1 : (n &&& 1) = n % 2 := Nat.and_one_is_mod n
  have e2 : n >>> 1 = n / 2 := by rw [Nat.shiftRight_succ, Nat.shiftRight_zero]
  cases t with
  | nil =>
    refine ⟨none, .nil, .nil, fun m => ?_, ?_⟩
    · rw [get_node]; simp only [get_nil]; cases Nat.beq m 0 <;> cases Nat.beq (m % 2) 1 <;> rfl
    · show cond (Nat.beq n 0) (Zt.node (some a) .nil .nil) (cond (Nat.beq (n &&& 1) 1) (Zt.node none (setF f .nil (n >>> 1) a) .nil) (Zt.node none .nil (setF f .nil (n >>> 1 - 1) a))) = _
      rw [e1, e2]
  | node v l r =>
    refine ⟨v, l, r, fun m => rfl, ?_⟩
    show cond (Nat.beq n 0) (Zt.node (some a) l r) (cond (Nat.beq (n &&& 1) 1) (Zt.node v (setF f l (n >>> 1) a) r) (Zt.node v l (setF f r (n >>> 1 - 1) a))) = _
    rw [e1, e2]

theorem get_setF : ∀ (f : Nat) (t : Zt α) (n : Nat) (a : α) (m : Nat), n < f → (setF f t n a).get m = if m = n then some a else t.get m
  | 0, _, _, _, _, h => by omega
  | f + 1, t, n, a, m, h => by
    obtain ⟨v, l, r, ht, hs⟩ := setF_eq f t n a
    rw [hs, ht]
    by_cases h0 : n = 0
    · rw [beqN_true h0, cond_true]
      subst h0
      simp only [get_node]
      by_cases hm : m = 0
      · rw [beqN_true hm, cond_true, if_pos hm]
      · rw [beqN_false hm, cond_false, if_neg hm, cond_false]
    · rw [beqN_false h0, cond_false]
      by_cases h1 : n % 2 = 1
      · rw [beqN_true h1, cond_true]
        simp only [get_node]
        by_cases hm : m = 0
        · rw [beqN_true hm, cond_true, cond_true, if_neg (by omega)]
        · rw [beqN_false hm, cond_false, cond_false]
          by_cases hm1 : m % 2 = 1
          · rw [beqN_true hm1, cond_true, cond_true, get_setF f l (n / 2) a (m / 2) (by omega)]
            by_cases hmn : m = n
            · rw [if_pos hmn, if_pos (by omega)]
            · rw [if_neg hmn, if_neg (by omega)]
          · rw [beqN_false hm1, cond_false, cond_false, if_neg (by omega)]
      · rw [beqN_false h1, cond_false]
        simp only [get_node]
        by_cases hm : m = 0
        · rw [beqN_true hm, cond_true, cond_true, if_neg (by omega)]
        · rw [beqN_false hm, cond_false, cond_false]
          by_cases hm1 : m % 2 = 1
          · rw [beqN_true hm1, cond_true, cond_true, if_neg (by omega)]
          · rw [beqN_false hm1, cond_false, cond_false, get_setF f r (n / 2 - 1) a (m / 2 - 1) (by omega)]
            by_cases hmn : m = n
            · rw [if_pos hmn, if_pos (by omega)]
            · rw [if_neg hmn, if_neg (by omega)]
theorem get_set (t : Zt α) (n : Nat) (a : α) (m : Nat) : (t.set n a).get m = if m = n then some a else t.get m := get_setF _ _ _ _ _ (Nat.lt_succ_self n)
end Zt

/-! ### A block's cells -/
abbrev Ct := Zt Value
def cGet (c : Ct) (i : Nat) : Value := match c.get i with
  | some v => v
  | none => undef
def cRow (c : Ct) (n : Nat) : Nat → List Value := Nat.rec (motive := fun _ => Nat → List Value) (fun _ => []) (fun _ ih off => cGet c off :: ih (Nat.succ off)) n
def cSet (c : Ct) (vs : List Value) : Nat → Ct := List.rec (motive := fun _ => Ct → Nat → Ct) (fun c _ => c) (fun v _ ih c off => ih (c.set off v) (Nat.succ off)) vs c
theorem cRow_zero (c : Ct) (off : Nat) : cRow c 0 off = [] := rfl
theorem cRow_succ (c : Ct) (n off : Nat) : cRow c (n + 1) off = cGet c off :: cRow c n (off + 1) := rfl
theorem cRow_length (c : Ct) : ∀ (n off : Nat), (cRow c n off).length = n
  | 0, off => rfl
  | n + 1, off => by rw [cRow_succ, List.length_cons, cRow_length c n]
theorem cRow_get (c : Ct) : ∀ (n off i : Nat), i < n → (cRow c n off)[i]? = some (cGet c (off + i))
  | 0, off, i, h => by omega
  | n + 1, off, 0, h => by rw [cRow_succ]; rfl
  | n + 1, off, i + 1, h => by
    rw [cRow_succ, List.getElem?_cons_succ, cRow_get c n (off + 1) i (by omega), Nat.add_assoc, Nat.add_comm 1 i]
theorem cRow_get' (c : Ct) (n off i : Nat) : (cRow c n off)[i]? = if i < n then some (cGet c (off + i)) else none := by
  by_cases h : i < n
  · rw [if_pos h, cRow_get c n off i h]
  · rw [if_neg h, List.getElem?_eq_none (by rw [cRow_length]; omega)]
theorem cRow_sub (c : Ct) {n off m : Nat} (h : off + m ≤ n) : ((cRow c n 0).drop off).take m = cRow c m off := by
  apply List.ext_getElem?
  intro i
  rw [List.getElem?_take]
  by_cases hi : i < m
  · rw [if_pos hi, List.getElem?_drop, cRow_get c n 0 _ (by omega), cRow_get c m off i hi, Nat.zero_add]
  · rw [if_neg hi, List.getElem?_eq_none (by rw [cRow_length]; omega)]
theorem cGet_set (c : Ct) (n : Nat) (v : Value) (i : Nat) : cGet (c.set n v) i = if i = n then v else cGet c i := by
  unfold cGet
  rw [Zt.get_set]
  by_cases h : i = n
  · rw [if_pos h, if_pos h]
  · rw [if_neg h, if_neg h]
theorem cSet_cons (c : Ct) (v : Value) (vs : List Value) (off : Nat) : cSet c (v :: vs) off = cSet (c.set off v) vs (off + 1) := rfl
theorem cGet_cSet : ∀ (vs : List Value) (c : Ct) (off i : Nat), cGet (cSet c vs off) i = if off ≤ i ∧ i < off + vs.length then vs.getD (i - off) undef else cGet c i
  | [], c, off, i => by rw [if_neg (by simp)]; rfl
  | v :: vs, c, off, i => by
    rw [cSet_cons, cGet_cSet vs]
    simp only [List.length_cons]
    by_cases h1 : off + 1 ≤ i ∧ i < off + 1 + vs.length
    · rw [if_pos h1, if_pos (by omega)]
      have : i - off = (i - (off + 1)) + 1 := by omega
      rw [this]; rfl
    · rw [if_neg h1, cGet_set]
      by_cases h2 : i = off
      · rw [if_pos h2, if_pos (by omega), h2, Nat.sub_self]; rfl
      · rw [if_neg h2, if_neg (by omega)]
theorem cRow_cSet (c : Ct) {vs : List Value} {n off : Nat} (h : off + vs.length ≤ n) : cRow (cSet c vs off) n 0 = (cRow c n 0).take off ++ (vs ++ (cRow c n 0).drop (off + vs.length)) := by
  apply List.ext_getElem?
  intro i
  rw [cRow_get', Nat.zero_add, cGet_cSet]
  by_cases hn : i < n
  · rw [if_pos hn]
    by_cases h1 : i < off
    · rw [if_neg (by omega), List.getElem?_append_left (by simp [cRow_length]; omega), List.getElem?_take, if_pos h1, cRow_get c n 0 i hn, Nat.zero_add]
    · rw [List.getElem?_append_right (by simp [cRow_length]; omega)]
      simp only [List.length_take, cRow_length, Nat.min_eq_left (show off ≤ n by omega)]
      by_cases h2 : i < off + vs.length
      · rw [if_pos (by omega), List.getElem?_append_left (by omega), List.getD_eq_getElem?_getD, List.getElem?_eq_getElem (by omega)]; rfl
      · rw [if_neg (by omega), List.getElem?_append_right (by omega), List.getElem?_drop, cRow_get c n 0 _ (by omega), Nat.zero_add]
        congr 2; try omega
  · rw [if_neg hn, List.getElem?_eq_none (by simp [cRow_length]; omega)]
theorem cRow_app (c : Ct) (vs : List Value) (n : Nat) : cRow (cSet c vs n) (n + vs.length) 0 = cRow c n 0 ++ vs := by
  apply List.ext_getElem?
  intro i
  rw [cRow_get', Nat.zero_add, cGet_cSet]
  by_cases h1 : i < n
  · rw [if_pos (by omega), if_neg (by omega), List.getElem?_append_left (by rw [cRow_length]; exact h1), cRow_get c n 0 i h1, Nat.zero_add]
  · rw [List.getElem?_append_right (by rw [cRow_length]; omega), cRow_length]
    by_cases h2 : i < n + vs.length
    · rw [if_pos h2, if_pos (by omega), List.getD_eq_getElem?_getD, List.getElem?_eq_getElem (by omega)]; rfl
    · rw [if_neg h2, List.getElem?_eq_none (by omega)]
def cOf (vs : List Value) : Ct := cSet .nil vs 0
theorem cRow_cOf (vs : List Value) : cRow (cOf vs) vs.length 0 = vs := by
  have := cRow_app .nil vs 0
  rw [Nat.zero_add] at this
  rw [cOf, this]; rfl

/-! ### Frames -/
structure Q8 (α : Type) where
  a : α
  b : α
  c : α
  d : α
  e : α
  f : α
  g : α
  h : α
structure P8 (α : Type) where
  fn : Q8 α → α
structure U8 (α β : Type) where
  fn : (α → β → α) → Q8 α → β → Q8 α
def p8 (α : Type) (i : Nat) : P8 α := match i with
  | 0 => ⟨fun q => q.a⟩ | 1 => ⟨fun q => q.b⟩ | 2 => ⟨fun q => q.c⟩ | 3 => ⟨fun q => q.d⟩
  | 4 => ⟨fun q => q.e⟩ | 5 => ⟨fun q => q.f⟩ | 6 => ⟨fun q => q.g⟩ | _ => ⟨fun q => q.h⟩
def u8 (α β : Type) (i : Nat) : U8 α β := match i with
  | 0 => ⟨fun k q v => Q8.rec (motive := fun _ => Q8 α) (fun a b c d e f g h => ⟨k a v, b, c, d, e, f, g, h⟩) q⟩
  | 1 => ⟨fun k q v => Q8.rec (motive := fun _ => Q8 α) (fun a b c d e f g h => ⟨a, k b v, c, d, e, f, g, h⟩) q⟩
  | 2 => ⟨fun k q v => Q8.rec (motive := fun _ => Q8 α) (fun a b c d e f g h => ⟨a, b, k c v, d, e, f, g, h⟩) q⟩
  | 3 => ⟨fun k q v => Q8.rec (motive := fun _ => Q8 α) (fun a b c d e f g h => ⟨a, b, c, k d v, e, f, g, h⟩) q⟩
  | 4 => ⟨fun k q v => Q8.rec (motive := fun _ => Q8 α) (fun a b c d e f g h => ⟨a, b, c, d, k e v, f, g, h⟩) q⟩
  | 5 => ⟨fun k q v => Q8.rec (motive := fun _ => Q8 α) (fun a b c d e f g h => ⟨a, b, c, d, e, k f v, g, h⟩) q⟩
  | 6 => ⟨fun k q v => Q8.rec (motive := fun _ => Q8 α) (fun a b c d e f g h => ⟨a, b, c, d, e, f, k g v, h⟩) q⟩
  | _ => ⟨fun k q v => Q8.rec (motive := fun _ => Q8 α) (fun a b c d e f g h => ⟨a, b, c, d, e, f, g, k h v⟩) q⟩
theorem p8_u8 {α β : Type} {i j : Nat} (hi : i < 8) (hj : j < 8) (k : α → β → α) (q : Q8 α) (v : β) : (p8 α i).fn ((u8 α β j).fn k q v) = if i = j then k ((p8 α i).fn q) v else (p8 α i).fn q := by
  have h1 : i = 0 ∨ i = 1 ∨ i = 2 ∨ i = 3 ∨ i = 4 ∨ i = 5 ∨ i = 6 ∨ i = 7 := by omega
  have h2 : j = 0 ∨ j = 1 ∨ j = 2 ∨ j = 3 ∨ j = 4 ∨ j = 5 ∨ j = 6 ∨ j = 7 := by omega
  rcases h1 with rfl | rfl | rfl | rfl | rfl | rfl | rfl | rfl <;> rcases h2 with rfl | rfl | rfl | rfl | rfl | rfl | rfl | rfl <;> rfl

abbrev FT := Q8 (Q8 (Q8 Value))
structure RD where
  fn : FT → Value
structure WR where
  fn : FT → Value → FT
def rdT (t : Nat) : RD := ⟨fun F => (p8 Value (t % 8)).fn ((p8 (Q8 Value) (t / 8 % 8)).fn ((p8 (Q8 (Q8 Value)) (t / 64)).fn F))⟩
def wrT (t : Nat) : WR := ⟨(u8 (Q8 (Q8 Value)) Value (t / 64)).fn ((u8 (Q8 Value) Value (t / 8 % 8)).fn ((u8 Value Value (t % 8)).fn (fun _ v => v)))⟩
def FT.fr (F : FT) : Fr := fun t => match Nat.blt t 512 with
  | true => (rdT t).fn F
  | false => undef
theorem blt_true {a b : Nat} (h : a < b) : Nat.blt a b = true := by rw [Nat.blt_eq]; exact h
theorem blt_false {a b : Nat} (h : ¬ a < b) : Nat.blt a b = false := by
  cases hb : Nat.blt a b with
  | false => rfl
  | true => rw [Nat.blt_eq] at hb; exact absurd hb h
theorem FT.fr_lt (F : FT) {t : Nat} (h : t < 512) : F.fr t = (rdT t).fn F := by simp only [FT.fr, blt_true h]
theorem FT.fr_set (F : FT) {t : Nat} (v : Value) (h : t < 512) : FT.fr ((wrT t).fn F v) = upd F.fr t v := by
  funext s
  by_cases hs : s < 512
  · rw [FT.fr_lt _ hs]
    simp only [upd]
    rw [FT.fr_lt _ hs]
    simp only [rdT, wrT]
    rw [p8_u8 (by omega) (by omega)]
    by_cases h1 : s / 64 = t / 64
    · rw [if_pos h1, p8_u8 (by omega) (by omega)]
      by_cases h2 : s / 8 % 8 = t / 8 % 8
      · rw [if_pos h2, p8_u8 (by omega) (by omega)]
        by_cases h3 : s % 8 = t % 8
        · rw [if_pos h3, if_pos (by omega)]
        · rw [if_neg h3, if_neg (by intro h; subst h; exact h3 rfl)]
      · rw [if_neg h2, if_neg (by intro h; subst h; exact h2 rfl)]
    · rw [if_neg h1, if_neg (by intro h; subst h; exact h1 rfl)]
  · simp only [FT.fr, blt_false hs, upd]
    rw [if_neg (by omega)]
def wr (d : Option Tmp) : WR := match d with
  | none => ⟨fun F _ => F⟩
  | some t => wrT t
def wrOk (d : Option Tmp) : Bool := match d with
  | none => true
  | some t => Nat.blt t 512
theorem FT.fr_put (F : FT) {d : Option Tmp} (v : Value) (h : wrOk d = true) : FT.fr ((wr d).fn F v) = Am.put F.fr d v := by
  cases d with
  | none => rfl
  | some t => exact FT.fr_set F v (by simpa [wrOk, Nat.blt_eq] using h)
def qAll {α : Type} (x : α) : Q8 α := ⟨x, x, x, x, x, x, x, x⟩
def FT.zero : FT := qAll (qAll (qAll undef))
theorem p8_all {α : Type} (i : Nat) (x : α) : (p8 α i).fn (qAll x) = x := by
  unfold p8
  split <;> rfl
theorem FT.fr_zero (t : Nat) : FT.fr FT.zero t = undef := by
  simp only [FT.fr]
  split
  · simp only [rdT, FT.zero, p8_all]
  · rfl
def FT.args (vs : List Value) : Nat → FT := List.rec (motive := fun _ => Nat → FT) (fun _ => FT.zero) (fun v _ ih i => (wrT i).fn (ih (Nat.succ i)) v) vs
theorem FT.args_cons (v : Value) (vs : List Value) (i : Nat) : FT.args (v :: vs) i = (wrT i).fn (FT.args vs (i + 1)) v := rfl
theorem FT.fr_args : ∀ (vs : List Value) (i t : Nat), i + vs.length ≤ 512 → i ≤ t → FT.fr (FT.args vs i) t = vs.getD (t - i) undef
  | [], i, t, _, _ => by show FT.fr FT.zero t = _; rw [FT.fr_zero]; simp
  | v :: vs, i, t, hl, h => by
    simp only [List.length_cons] at hl
    rw [FT.args_cons, FT.fr_set _ _ (by omega)]
    simp only [upd]
    by_cases ht : t = i
    · rw [if_pos ht, ht, Nat.sub_self]; rfl
    · rw [if_neg ht, FT.fr_args vs (i + 1) t (by omega) (by omega)]
      have : t - i = (t - (i + 1)) + 1 := by omega
      rw [this]; rfl
theorem FT.fr_frOf (vs : List Value) (h : vs.length ≤ 512) : FT.fr (FT.args vs 0) = frOf vs := by
  funext t
  rw [FT.fr_args vs 0 t (by omega) (Nat.zero_le _)]
  rfl
def FT.setPs : List Tmp → List Value → FT → FT
  | p :: ps, v :: vs, F => FT.setPs ps vs ((wrT p).fn F v)
  | _, _, F => F
theorem FT.fr_setPs : ∀ (ps : List Tmp) (vs : List Value) (F : FT), (ps.all fun p => Nat.blt p 512) = true → FT.fr (FT.setPs ps vs F) = Am.setPs F.fr ps vs
  | [], vs, F, _ => by cases vs <;> rfl
  | p :: ps, [], F, _ => rfl
  | p :: ps, v :: vs, F, h => by
    simp only [List.all_cons, Bool.and_eq_true, Nat.blt_eq] at h
    simp only [FT.setPs, Am.setPs]
    rw [FT.fr_setPs ps vs _ (by simpa using h.2), FT.fr_set _ _ h.1]

/-! ### The heap -/
inductive EO where
  | blk (c : Ct) (n : Nat) (el : TypeId) (lo : Nat) (own : Bool)
  | loop (F : FT) (st : LoopState) (pe : Option Code) (N : Nat) (ps : Array Tmp) (a b : Code) (x y : AC)
  | map (es : List (Value × Value))
  | siter (s : ByteArray) (pos : Nat)
def EO.o : EO → AObj
  | .blk c n el lo own => .blk ⟨cRow c n 0, el, lo, own⟩
  | .loop F st pe N ps a b _ _ => .loop ⟨st, pe, N, F.fr, ps, a, b⟩
  | .map es => .map es
  | .siter s n => .siter s n
def EO.ok (P : Program) : EO → Prop
  | .loop _ _ _ N ps a b x y => com P N a = x ∧ com P N b = y
  | _ => True
structure EH where
  objs : Zt EO
  size : Nat
structure Repr (P : Program) (E : EH) (h : Heap) : Prop where
  size : E.size = h.length
  get : ∀ i, (E.objs.get i).map EO.o = h[i]?
  ok : ∀ i o, E.objs.get i = some o → o.ok P
def EH.push (E : EH) (o : EO) : EH := ⟨E.objs.set E.size o, E.size + 1⟩
def EH.put (E : EH) (i : Nat) (o : EO) : EH := ⟨E.objs.set i o, E.size⟩

theorem Repr.nil : Repr P ⟨.nil, 0⟩ [] := ⟨rfl, fun i => by simp [Zt.get], fun i o h => by simp [Zt.get] at h⟩
theorem Repr.push {E : EH} {h : Heap} (R : Repr P E h) {o : EO} (ho : o.ok P) : Repr P (E.push o) (h ++ [o.o]) := by
  refine ⟨by simp [EH.push, R.size], fun i => ?_, fun i o' hi => ?_⟩
  · simp only [EH.push, Zt.get_set]
    by_cases hi : i = E.size
    · rw [if_pos hi, hi, R.size]; simp
    · rw [if_neg hi, R.get]
      rw [R.size] at hi
      by_cases hlt : i < h.length
      · rw [List.getElem?_append_left hlt]
      · rw [List.getElem?_eq_none (by omega), List.getElem?_eq_none (by simp; omega)]
  · simp only [EH.push, Zt.get_set] at hi
    split at hi
    · cases hi; exact ho
    · exact R.ok i o' hi
theorem Repr.put {E : EH} {h : Heap} (R : Repr P E h) {o o₀ : EO} {i : Nat} (hi : E.objs.get i = some o₀) (ho : o.ok P) : Repr P (E.put i o) (h.set i o.o) := by
  have hlt : i < h.length := by
    have := R.get i
    rw [hi] at this
    exact (List.getElem?_eq_some_iff.1 this.symm).1
  refine ⟨by simp [EH.put, R.size], fun j => ?_, fun j o' hj => ?_⟩
  · simp only [EH.put, Zt.get_set]
    by_cases hj : j = i
    · rw [if_pos hj, hj, List.getElem?_set_self hlt]; rfl
    · rw [if_neg hj, R.get, List.getElem?_set_ne (Ne.symm hj)]
  · simp only [EH.put, Zt.get_set] at hj
    split at hj
    · cases hj; exact ho
    · exact R.ok j o' hj
theorem Repr.blk {E : EH} {h : Heap} (R : Repr P E h) {i : Nat} {c : Ct} {n : Nat} {el : TypeId} {lo : Nat} {own : Bool} (hi : E.objs.get i = some (.blk c n el lo own)) : h[i]? = some (.blk ⟨cRow c n 0, el, lo, own⟩) :=
  by rw [← R.get, hi]; rfl
theorem Repr.loop {E : EH} {h : Heap} (R : Repr P E h) {i : Nat} {F st pe N ps a b x y} (hi : E.objs.get i = some (.loop F st pe N ps a b x y)) : h[i]? = some (.loop ⟨st, pe, N, F.fr, ps, a, b⟩) ∧ com P N a = x ∧ com P N b = y :=
  ⟨by rw [← R.get, hi]; rfl, R.ok i _ hi⟩

/-! ### Reading -/
def eRow (E : EH) (a : Addr) (n : Nat) : Option (List Value) := match a.spot with
  | none => none
  | some e => match E.objs.get a.block with
    | some (.blk c len el lo own) => bif Nat.ble lo e && (Nat.ble e len && Nat.ble (a.off + n) e) then some (cRow c n a.off) else none
    | _ => none
theorem eRow_sound {E : EH} {h : Heap} (R : Repr P E h) {a : Addr} {n : Nat} {cs : List Value} (hr : eRow E a n = some cs) : rowAt h a n = some cs := by
  unfold eRow at hr
  unfold rowAt
  split at hr
  · cases hr
  · rename_i e he
    split at hr <;> (try (cases hr; done))
    rename_i c len el lo own hb
    have h1 := R.blk hb
    obtain ⟨hc, hr⟩ := bif_some hr
    simp only [Bool.and_eq_true, Nat.ble_eq] at hc
    rw [he, h1]
    simp only
    rw [if_pos ⟨hc.1, by rw [cRow_length]; exact hc.2.1, hc.2.2⟩, cRow_sub c (by omega)]
    exact hr

def eLoad (P : Program) (E : EH) (t : TypeId) (a : Addr) : Option Value :=
  bif (P.underlying t).isSome && (P.info? t).isSome then
    bif isAggT P t then (eRow E a (P.cellsOf t)).map (fun cs => .agg cs.toArray)
    else match eRow E a 1 with
      | some [v] => some v
      | _ => none
  else none
theorem eLoad_sound {E : EH} {h : Heap} (R : Repr P E h) {t : TypeId} {a : Addr} {v : Value} (hl : eLoad P E t a = some v) : aLoad P h t a = some v := by
  unfold eLoad at hl
  obtain ⟨hc, hl⟩ := bif_some hl
  simp only [Bool.and_eq_true] at hc
  unfold aLoad
  rw [if_pos hc]
  cases hg : isAggT P t with
  | true =>
    rw [hg, cond_true] at hl
    obtain ⟨cs, h1, h2⟩ := Option.map_eq_some_iff.1 hl
    rw [if_pos rfl, eRow_sound R h1]
    exact congrArg some h2
  | false =>
    rw [hg, cond_false] at hl
    rw [if_neg (by simp)]
    split at hl <;> (try (cases hl; done))
    rename_i u hu
    rw [eRow_sound R hu]
    exact hl

def eStrOf (P : Program) (E : EH) (s d : TypeId) (x : Value) : Option Value :=
  match P.underlying s, P.underlying d with
  | some (.slice e), some .string => bif isByteT P e then (match x with
      | .slice none _ _ => some (.string ByteArray.empty)
      | .slice (some a) n _ => bif Nat.beq n 0 then some (.string ByteArray.empty) else (match eRow E a n with
        | some cs => (asBytes cs).map fun bs => .string ⟨bs.toArray⟩
        | none => none)
      | _ => none) else none
  | _, _ => none
theorem eStrOf_sound {E : EH} {h : Heap} (R : Repr P E h) {s d : TypeId} {x v : Value} (hl : eStrOf P E s d x = some v) : aStrOf P h s d x = some v := by
  unfold eStrOf at hl
  unfold aStrOf
  split at hl <;> (try (cases hl; done))
  rename_i e₁ he1 he2
  obtain ⟨hc, hl⟩ := bif_some hl
  simp only [he1, he2]
  rw [if_pos hc]
  split at hl <;> (try (cases hl; done))
  · exact hl
  · rename_i a n cap _
    by_cases h0 : n = 0
    · rw [beqN_true h0, cond_true] at hl
      simp only [h0, if_true]
      exact hl
    · rw [beqN_false h0, cond_false] at hl
      simp only [h0, if_false]
      split at hl <;> (try (cases hl; done))
      rename_i cs hcs
      rw [eRow_sound R hcs]
      exact hl

/-! ### What changes memory -/
def eNew (E : EH) (cells : List Value) (t : TypeId) (n : Nat) : EH := E.push (.blk (cOf cells) n t 0 true)
theorem eNew_sound {E : EH} {h : Heap} (R : Repr P E h) {cells : List Value} {t : TypeId} {n : Nat} (hn : cells.length = n) : Repr P (eNew E cells t n) (aNew h cells t) := by
  have := R.push (o := .blk (cOf cells) n t 0 true) trivial
  simp only [EO.o] at this
  subst hn
  rw [cRow_cOf] at this
  exact this

def eAlloc (P : Program) (E : EH) (t : TypeId) : Option (Value × EH) := match aZero P t with
  | some z => some (aPtr E.size (vcells z).length, eNew E (vcells z) t (vcells z).length)
  | none => none
def eBox (E : EH) (t : TypeId) (v : Value) : Option (Value × EH) :=
  bif isTup v then none else some (aPtr E.size (vcells v).length, eNew E (vcells v) t (vcells v).length)
def eBuildSlice (P : Program) (E : EH) (t : TypeId) (len : Nat) (parts : List (Nat × Value)) : Option (Value × EH) :=
  match P.underlying t with
  | some (.slice el) => match aZero P el with
    | some z =>
      bif Nat.ble (len * P.cellsOf el) 16777216 && Nat.beq (vcells z).length (P.cellsOf el) then
        match aFill (fun i => some (i * P.cellsOf el, P.cellsOf el)) (zrow (vcells z) len) parts with
        | some cells => some (.slice (some ⟨E.size, 0, some cells.length⟩) len len, eNew E cells el cells.length)
        | none => none
      else none
    | none => none
  | _ => none
def eStore (P : Program) (E : EH) (t : TypeId) (a : Addr) (v : Value) : Option EH :=
  match a.spot with
  | none => none
  | some e => match E.objs.get a.block with
    | some (.blk c len el lo own) =>
      bif own && (Nat.beq e len && (!(isTup v) && (Nat.beq (vcells v).length (P.cellsOf t) && ((P.info? t).isSome && Nat.ble (a.off + (vcells v).length) len)))) then
        some (E.put a.block (.blk (cSet c (vcells v) a.off) len el len true))
      else none
    | _ => none
def eMakeSlice (P : Program) (E : EH) (t : TypeId) : Value → Value → Option (Value × EH)
  | .int _ l, .int _ c => match P.underlying t with
    | some (.slice el) => match aZero P el with
      | some z =>
        if 0 ≤ l ∧ l ≤ c ∧ c * P.bytesOf el ≤ 1099511627776 ∧ c ≤ 1099511627776 ∧ (vcells z).length = P.cellsOf el then
          some (.slice (some ⟨E.size, 0, some (l.toNat * P.cellsOf el)⟩) l.toNat (if c = l then l.toNat else l.toNat + 1), eNew E (zrow (vcells z) l.toNat) el (l.toNat * P.cellsOf el))
        else none
      | none => none
    | _ => none
  | _, _ => none
def eBytes (P : Program) (E : EH) (s d : TypeId) (x : Value) : Option (Value × EH) :=
  match P.underlying s, P.underlying d, x with
  | some _, some (.slice e), .string str =>
    bif isByteT P e && Nat.beq (P.cellsOf e) 1 then some (.slice (some ⟨E.size, 0, some (bytesV str).length⟩) str.size (str.size + 1), eNew E (bytesV str) e (bytesV str).length) else none
  | _, _, _ => none
def eAppCells (E : EH) (sz : Nat) : Value → Option (List Value × Nat)
  | .slice none _ _ => some ([], 0)
  | .slice (some a) n _ => bif Nat.beq n 0 then some ([], 0) else (eRow E a (n * sz)).map fun cs => (cs, n)
  | .string s => bif Nat.beq sz 1 then some (bytesV s, s.size) else none
  | _ => none
def eAppArg (P : Program) (E : EH) (el xt : TypeId) (x : Value) : Option (List Value × Nat) :=
  bif isSeqT P xt then eAppCells E (P.cellsOf el) x else
  match P.underlying xt, x, aZero P el with
  | some (.int _), .int _ m, some z => if 0 ≤ m ∧ m ≤ 1099511627776 ∧ m.toNat * P.bytesOf el ≤ 1099511627776 ∧ (vcells z).length = P.cellsOf el then some (zrow (vcells z) m.toNat, m.toNat) else none
  | _, _, _ => none
def eAppend (P : Program) (E : EH) (st xt : TypeId) (s x : Value) : Option (Value × EH) :=
  match P.underlying st with
  | some (.slice el) =>
    bif !((P.info? el).isSome) then none else
    match eAppArg P E el xt x with
    | none => none
    | some (new, n) =>
      bif Nat.beq n 0 then (match s with
        | .slice a l c => some (.slice a l c, E)
        | _ => none)
      else bif !(zeroOk P el) then none
      else match s with
        | .slice none _ _ => bif Nat.ble (n * P.bytesOf el) 1099511627776 then some (.slice (some ⟨E.size, 0, some new.length⟩) n (n + 1), eNew E new el new.length) else none
        | .slice (some a) len cap =>
          bif Nat.ble ((len + n) * P.bytesOf el) 1099511627776 then
            bif Nat.beq cap len then (match eRow E a (len * P.cellsOf el) with
              | some old => some (.slice (some ⟨E.size, 0, some (old ++ new).length⟩) (len + n) (len + n + 1), eNew E (old ++ new) el (old ++ new).length)
              | none => none)
            else (match a.spot with
              | none => none
              | some e => match E.objs.get a.block with
                | some (.blk c bl el' lo own) =>
                  bif own && (Nat.beq el' el && (Nat.beq a.off 0 && (Nat.beq e bl && Nat.beq (len * P.cellsOf el) bl))) then
                    some (.slice (some ⟨a.block, 0, some (bl + new.length)⟩) (len + n) (len + n + 1), E.put a.block (.blk (cSet c new bl) (bl + new.length) el' lo true))
                  else none
                | _ => none)
          else none
        | _ => none
  | _ => none
def eCopy (P : Program) (E : EH) (dt : TypeId) : Value → Value → Option (Value × EH)
  | .slice d dl _, .slice s sl _ => match P.underlying dt with
    | some (.slice el) =>
      bif !((P.info? el).isSome) then none else
      bif Nat.beq (min sl dl) 0 then some (.int .i64 0, E) else
      match d, s with
      | some d, some s => match eRow E s (min sl dl * P.cellsOf el), d.spot with
        | some cells, some e => match E.objs.get d.block with
          | some (.blk c len el' lo own) =>
            bif own && (Nat.beq e len && Nat.ble (d.off + cells.length) len) then
              some (.int .i64 (min sl dl : Nat), E.put d.block (.blk (cSet c cells d.off) len el' len true))
            else none
          | _ => none
        | _, _ => none
      | _, _ => none
    | _ => none
  | _, _ => none

/-- Operations that change memory. -/
def eEff (P : Program) (F : FT) (E : EH) : Op → Option (Value × EH)
  | .alloc t => eAlloc P E t
  | .box t x => (ev F.fr x).bind (eBox E t)
  | .buildSlice t len ps => (aParts F.fr ps.toList).bind (eBuildSlice P E t len)
  | .store t x y => match ev F.fr x, ev F.fr y with
    | some (.pointer (some a)), some v => (eStore P E t a v).map fun h' => (undef, h')
    | _, _ => none
  | .makeSlice t l c => match ev F.fr l, ev F.fr c with
    | some u, some v => eMakeSlice P E t u v
    | _, _ => none
  | .convert s d x => (ev F.fr x).bind (eBytes P E s d)
  | .call c => match c.callee with
    | .builtin .append => match evl F.fr c.args.toList, c.argTypes.toList with
      | some [s, x], [st, xt] => eAppend P E st xt s x
      | _, _ => none
    | .builtin .copy => match evl F.fr c.args.toList, c.argTypes.toList with
      | some [d, s], [dt, _] => eCopy P E dt d s
      | _, _ => none
    | _ => none
  | _ => none

section
variable {E E' : EH} {h : Heap} (R : Repr P E h)
include R

theorem eAlloc_sound {t : TypeId} {v : Value} (hm : eAlloc P E t = some (v, E')) : ∃ h', aAlloc P h t = some (v, h') ∧ Repr P E' h' := by
  unfold eAlloc at hm
  unfold aAlloc
  split at hm <;> (try (cases hm; done))
  rename_i z hz
  cases hm
  exact ⟨_, by rw [← R.size]; simp only [hz], eNew_sound R rfl⟩
theorem eBox_sound {t : TypeId} {u v : Value} (hm : eBox E t u = some (v, E')) : ∃ h', aBox h t u = some (v, h') ∧ Repr P E' h' := by
  unfold eBox at hm
  unfold aBox
  cases ht : isTup u with
  | true => rw [ht] at hm; cases hm
  | false =>
    rw [ht, cond_false] at hm
    cases hm
    rw [if_neg (by simp)]
    exact ⟨_, by rw [← R.size], eNew_sound R rfl⟩
theorem eBuildSlice_sound {t : TypeId} {len : Nat} {ps : List (Nat × Value)} {v : Value} (hm : eBuildSlice P E t len ps = some (v, E')) : ∃ h', aBuildSlice P h t len ps = some (v, h') ∧ Repr P E' h' := by
  unfold eBuildSlice at hm
  unfold aBuildSlice
  split at hm <;> (try (cases hm; done))
  rename_i el hu
  split at hm <;> (try (cases hm; done))
  rename_i z hz
  obtain ⟨hc, hm⟩ := bif_some hm
  simp only [Bool.and_eq_true, Nat.ble_eq, Nat.beq_eq] at hc
  simp only [hu, hz]
  rw [if_pos hc]
  split at hm <;> (try (cases hm; done))
  rename_i cells hcells
  cases hm
  simp only [hcells]
  exact ⟨_, by rw [← R.size], eNew_sound R rfl⟩
theorem eStore_sound {t : TypeId} {a : Addr} {v : Value} (hm : eStore P E t a v = some E') : ∃ h', aStore P h t a v = some h' ∧ Repr P E' h' := by
  unfold eStore at hm
  unfold aStore
  split at hm <;> (try (cases hm; done))
  rename_i e he
  split at hm <;> (try (cases hm; done))
  rename_i c len el lo own hb
  have h1 := R.blk hb
  obtain ⟨hc, hm⟩ := bif_some hm
  simp only [Bool.and_eq_true, Nat.ble_eq, Nat.beq_eq, Bool.not_eq_true'] at hc
  cases hm
  rw [he, h1]
  simp only
  rw [if_pos (by rw [cRow_length]; exact hc)]
  refine ⟨_, rfl, ?_⟩
  have := R.put hb (o := .blk (cSet c (vcells v) a.off) len el len true) trivial
  simp only [EO.o] at this
  rw [cRow_cSet c hc.2.2.2.2.2] at this
  rw [cRow_length]
  exact this
theorem eMakeSlice_sound {t : TypeId} {u u' v : Value} (hm : eMakeSlice P E t u u' = some (v, E')) : ∃ h', aMakeSlice P h t u u' = some (v, h') ∧ Repr P E' h' := by
  unfold eMakeSlice at hm
  split at hm <;> (try (cases hm; done))
  rename_i k l k' c
  unfold aMakeSlice
  split at hm <;> (try (cases hm; done))
  rename_i el hu
  split at hm <;> (try (cases hm; done))
  rename_i z hz
  split at hm <;> (try (cases hm; done))
  rename_i hc
  cases hm
  simp only [hu, hz]
  rw [if_pos hc]
  exact ⟨_, by rw [← R.size], eNew_sound R (by rw [zrow_length, hc.2.2.2.2])⟩
theorem eBytes_sound {s d : TypeId} {x v : Value} (hm : eBytes P E s d x = some (v, E')) : ∃ h', aBytes P h s d x = some (v, h') ∧ Repr P E' h' := by
  unfold eBytes at hm
  split at hm <;> (try (cases hm; done))
  rename_i u e str hs hd
  obtain ⟨hc, hm⟩ := bif_some hm
  simp only [Bool.and_eq_true, Nat.beq_eq] at hc
  cases hm
  unfold aBytes
  simp only [hs, hd]
  rw [if_pos hc]
  exact ⟨_, by rw [← R.size], eNew_sound R rfl⟩
theorem eAppCells_sound {sz : Nat} {x : Value} {r : List Value × Nat} (hm : eAppCells E sz x = some r) : appCells h sz x = some r := by
  unfold eAppCells at hm
  unfold appCells
  split at hm <;> (try (cases hm; done))
  · exact hm
  · rename_i a n cap
    by_cases h0 : n = 0
    · rw [beqN_true h0, cond_true] at hm
      simp only [h0, if_true]; exact hm
    · rw [beqN_false h0, cond_false] at hm
      simp only [h0, if_false]
      obtain ⟨cs, h1, h2⟩ := Option.map_eq_some_iff.1 hm
      rw [eRow_sound R h1]
      exact congrArg some h2
  · obtain ⟨hc, hm⟩ := bif_some hm
    rw [Nat.beq_eq] at hc
    simp only [hc, if_true]
    exact hm
theorem eAppArg_sound {el xt : TypeId} {x : Value} {r : List Value × Nat} (hm : eAppArg P E el xt x = some r) : appArg P h el xt x = some r := by
  unfold eAppArg at hm
  unfold appArg
  cases hq : isSeqT P xt with
  | true =>
    rw [hq, cond_true] at hm
    rw [if_pos rfl]
    exact eAppCells_sound R hm
  | false =>
    rw [hq, cond_false] at hm
    rw [if_neg (by simp)]
    exact hm
theorem eAppend_sound {st xt : TypeId} {s x v : Value} (hm : eAppend P E st xt s x = some (v, E')) : ∃ h', aAppend P h st xt s x = some (v, h') ∧ Repr P E' h' := by
  unfold eAppend at hm
  split at hm <;> (try (cases hm; done))
  rename_i el hu
  unfold aAppend
  simp only [hu]
  cases hq : (P.info? el).isSome with
  | false => rw [hq] at hm; cases hm
  | true =>
    rw [hq] at hm
    simp only [Bool.not_true, cond_false] at hm
    rw [if_neg (by simp)]
    split at hm <;> (try (cases hm; done))
    rename_i new n ha
    rw [eAppArg_sound R ha]
    simp only
    by_cases h0 : n = 0
    · rw [beqN_true h0, cond_true] at hm
      rw [if_pos h0]
      split at hm <;> (try (cases hm; done))
      cases hm
      exact ⟨_, rfl, R⟩
    · rw [beqN_false h0, cond_false] at hm
      rw [if_neg h0]
      cases hz : zeroOk P el with
      | false => rw [hz] at hm; cases hm
      | true =>
        rw [hz] at hm
        simp only [Bool.not_true, cond_false] at hm
        rw [if_neg (by simp)]
        split at hm <;> (try (cases hm; done))
        · obtain ⟨hc, hm⟩ := bif_some hm
          rw [Nat.ble_eq] at hc
          cases hm
          simp only
          rw [if_pos hc]
          exact ⟨_, by rw [← R.size], eNew_sound R rfl⟩
        · rename_i a len cap
          obtain ⟨hc, hm⟩ := bif_some hm
          rw [Nat.ble_eq] at hc
          simp only
          rw [if_pos hc]
          by_cases hcl : cap = len
          · rw [beqN_true hcl, cond_true] at hm
            rw [if_pos hcl]
            split at hm <;> (try (cases hm; done))
            rename_i old ho
            cases hm
            rw [eRow_sound R ho]
            exact ⟨_, by rw [← R.size], eNew_sound R rfl⟩
          · rw [beqN_false hcl, cond_false] at hm
            rw [if_neg hcl]
            split at hm <;> (try (cases hm; done))
            rename_i e he
            split at hm <;> (try (cases hm; done))
            rename_i c bl el' lo own hb
            have h1 := R.blk hb
            obtain ⟨hc, hm⟩ := bif_some hm
            simp only [Bool.and_eq_true, Nat.beq_eq] at hc
            cases hm
            rw [he, h1]
            simp only
            rw [if_pos (by rw [cRow_length]; exact hc)]
            have := R.put hb (o := .blk (cSet c new bl) (bl + new.length) el' lo true) trivial
            simp only [EO.o] at this
            rw [cRow_app] at this
            exact ⟨_, by rw [List.length_append, cRow_length], this⟩
theorem eCopy_sound {dt : TypeId} {d s v : Value} (hm : eCopy P E dt d s = some (v, E')) : ∃ h', aCopy P h dt d s = some (v, h') ∧ Repr P E' h' := by
  unfold eCopy at hm
  split at hm <;> (try (cases hm; done))
  rename_i d dl dc s sl sc
  unfold aCopy
  split at hm <;> (try (cases hm; done))
  rename_i el hu
  simp only [hu]
  cases hq : (P.info? el).isSome with
  | false => rw [hq] at hm; cases hm
  | true =>
    rw [hq] at hm
    simp only [Bool.not_true, cond_false] at hm
    rw [if_neg (by simp)]
    by_cases h0 : min sl dl = 0
    · rw [beqN_true h0, cond_true] at hm
      rw [if_pos h0]
      cases hm
      exact ⟨_, rfl, R⟩
    · rw [beqN_false h0, cond_false] at hm
      rw [if_neg h0]
      split at hm <;> (try (cases hm; done))
      rename_i d s
      split at hm <;> (try (cases hm; done))
      rename_i cells e hr he
      split at hm <;> (try (cases hm; done))
      rename_i c len el' lo own hb
      have h1 := R.blk hb
      obtain ⟨hc, hm⟩ := bif_some hm
      simp only [Bool.and_eq_true, Nat.ble_eq, Nat.beq_eq] at hc
      cases hm
      simp only
      rw [eRow_sound R hr, he, h1]
      simp only
      rw [if_pos (by rw [cRow_length]; exact hc)]
      refine ⟨_, rfl, ?_⟩
      have := R.put hb (o := .blk (cSet c cells d.off) len el' len true) trivial
      simp only [EO.o] at this
      rw [cRow_cSet c hc.2.2] at this
      rw [cRow_length]
      exact this

theorem eEff_sound {F : FT} {op : Op} {v : Value} (hm : eEff P F E op = some (v, E')) : ∃ h', effOp P F.fr h op = some (v, h') ∧ Repr P E' h' := by
  cases op <;> simp only [eEff, reduceCtorEq] at hm
  case alloc t => exact eAlloc_sound R hm
  case box t x =>
    obtain ⟨u, hu, hm⟩ := Option.bind_eq_some_iff.1 hm
    obtain ⟨h', h1, h2⟩ := eBox_sound R hm
    exact ⟨h', by simp only [effOp, hu, Option.bind_some, h1], h2⟩
  case buildSlice t l ps =>
    obtain ⟨u, hu, hm⟩ := Option.bind_eq_some_iff.1 hm
    obtain ⟨h', h1, h2⟩ := eBuildSlice_sound R hm
    exact ⟨h', by simp only [effOp, hu, Option.bind_some, h1], h2⟩
  case store t x y =>
    split at hm <;> (try (cases hm; done))
    rename_i a u hx hy
    obtain ⟨E₁, h1, h2⟩ := Option.map_eq_some_iff.1 hm
    cases h2
    obtain ⟨h', h3, h4⟩ := eStore_sound R h1
    exact ⟨h', by simp only [effOp, hx, hy, h3, Option.map_some], h4⟩
  case makeSlice t l c =>
    split at hm <;> (try (cases hm; done))
    rename_i u u' hx hy
    obtain ⟨h', h3, h4⟩ := eMakeSlice_sound R hm
    exact ⟨h', by simp only [effOp, hx, hy, h3], h4⟩
  case convert s d x =>
    obtain ⟨u, hu, hm⟩ := Option.bind_eq_some_iff.1 hm
    obtain ⟨h', h1, h2⟩ := eBytes_sound R hm
    exact ⟨h', by simp only [effOp, hu, Option.bind_some, h1], h2⟩
  case call c =>
    obtain ⟨callee, args, ts⟩ := c
    simp only at hm
    cases callee with
    | value f => simp at hm
    | invoke r m => simp at hm
    | builtin b =>
      cases b <;> simp only [reduceCtorEq] at hm
      · split at hm <;> (try (cases hm; done))
        rename_i s x st xt h1 h2
        obtain ⟨h', h3, h4⟩ := eAppend_sound R hm
        exact ⟨h', by simp only [effOp, h1, h2, h3], h4⟩
      · split at hm <;> (try (cases hm; done))
        rename_i s x st xt h1 h2
        obtain ⟨h', h3, h4⟩ := eCopy_sound R hm
        exact ⟨h', by simp only [effOp, h1, h2, h3], h4⟩
end
end
end Go.Am
