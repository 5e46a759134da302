/- What the walks use: loads and stores through values, rows of one-cell elements as slices, what a call leaves of the heap. -/
import Derived.Test.YtodmfjhjaegoeaaGreatDoorAmTop
import Derived.IntWalk
set_option linter.unusedVariables false
set_option linter.unusedSimpArgs false
namespace Go.Am
variable {P : Program}

def aLoadV (P : Program) (h : Heap) (t : TypeId) : Value → Option Value
  | .pointer (some a) => aLoad P h t a
  | _ => none
theorem readOp_load (fr : Fr) (h : Heap) (t : TypeId) (x : Operand) : readOp P fr h (.load t x) = (ev fr x).bind (aLoadV P h t) := by
  simp only [readOp]
  cases ev fr x with
  | none => rfl
  | some v =>
    simp only [Option.bind_some]
    cases v <;> try rfl
    rename_i p
    cases p <;> rfl
theorem readOp_convert (fr : Fr) (h : Heap) (s d : TypeId) (x : Operand) : readOp P fr h (.convert s d x) = (ev fr x).bind (aStrOf P h s d) := rfl

def aStoreV (P : Program) (h : Heap) (t : TypeId) (x v : Value) : Option Heap := match x with
  | .pointer (some a) => aStore P h t a v
  | _ => none
theorem effOp_store (fr : Fr) (h : Heap) (t : TypeId) (x y : Operand) : effOp P fr h (.store t x y) = (ev fr x).bind fun a => (ev fr y).bind fun v => (aStoreV P h t a v).map fun h' => (undef, h') := by
  simp only [effOp]
  cases ev fr x with
  | none => rfl
  | some a =>
    cases ev fr y with
    | none => cases a <;> try rfl
              rename_i p; cases p <;> rfl
    | some v =>
      simp only [Option.bind_some]
      cases a <;> try rfl
      rename_i p
      cases p <;> rfl

/-- A type whose values take one cell. -/
def oneT (P : Program) (t : TypeId) : Bool := (P.underlying t).isSome && (P.info? t).isSome && !isAggT P t

theorem rowAt_eq {h : Heap} {id off e n : Nat} {b : Blk} (hb : h[id]? = some (.blk b)) (h1 : b.lo ≤ e) (h2 : e ≤ b.cells.length) (h3 : off + n ≤ e) : rowAt h ⟨id, off, some e⟩ n = some ((b.cells.drop off).take n) := by
  simp only [rowAt, hb]; rw [if_pos ⟨h1, h2, h3⟩]

theorem rowAt_inv {h : Heap} {a : Addr} {n : Nat} {vs : List Value} (hr : rowAt h a n = some vs) : ∃ id off e b, a = ⟨id, off, some e⟩ ∧ h[id]? = some (.blk b) ∧ b.lo ≤ e ∧ e ≤ b.cells.length ∧ off + n ≤ e ∧ vs = (b.cells.drop off).take n ∧ vs.length = n := by
  obtain ⟨id, off, sp⟩ := a
  unfold rowAt at hr
  split at hr <;> (try (cases hr; done))
  rename_i e b he hb
  split at hr <;> (try (cases hr; done))
  rename_i hc
  cases hr
  simp only at he hb hc
  exact ⟨id, off, e, b, by rw [he], hb, hc.1, hc.2.1, hc.2.2, rfl, by simp; omega⟩

theorem rowAt_sub {h : Heap} {id off e n : Nat} {vs : List Value} (hr : rowAt h ⟨id, off, some e⟩ n = some vs) {i m : Nat} (hi : i + m ≤ n) : rowAt h ⟨id, off + i, some e⟩ m = some ((vs.drop i).take m) := by
  obtain ⟨id', off', e', b, ha, hb, h1, h2, h3, rfl, _⟩ := rowAt_inv hr
  cases ha
  rw [rowAt_eq hb h1 h2 (by omega)]
  congr 1
  rw [List.drop_take, List.drop_drop, List.take_take]
  congr 1
  omega

theorem aLoad_row {h : Heap} {a : Addr} {v : Value} {t : TypeId} (ht : oneT P t = true) (hr : rowAt h a 1 = some [v]) : aLoad P h t a = some v := by
  simp only [oneT, Bool.and_eq_true, Bool.not_eq_true'] at ht
  unfold aLoad
  rw [if_pos ⟨ht.1.1, ht.1.2⟩, ht.2, hr]
  rfl

theorem aLoad_cell {h : Heap} {id off e : Nat} {b : Blk} {t : TypeId} (ht : oneT P t = true) (hb : h[id]? = some (.blk b)) (h1 : b.lo ≤ e) (h2 : e ≤ b.cells.length) (h3 : off < e) : aLoad P h t ⟨id, off, some e⟩ = some (b.cells.getD off undef) := by
  refine aLoad_row ht ?_
  rw [rowAt_eq hb h1 h2 (by omega)]
  congr 1
  apply List.ext_getElem?
  intro i
  rw [List.getElem?_take, List.getElem?_drop]
  cases i with
  | zero => simp [List.getD_eq_getElem?_getD, List.getElem?_eq_getElem (show off < b.cells.length by omega)]
  | succ i => simp

theorem aStore_cell {h : Heap} {id off : Nat} {b : Blk} {t : TypeId} {v : Value} (hc : P.cellsOf t = 1) (hi : (P.info? t).isSome = true) (hb : h[id]? = some (.blk b)) (how : b.own = true) (ho : off < b.cells.length) (hv : vcells v = [v]) (ht : isTup v = false) :
    aStore P h t ⟨id, off, some b.cells.length⟩ v = some (h.set id (.blk ⟨b.cells.set off v, b.elem, b.cells.length, true⟩)) := by
  unfold aStore
  simp only [hb, hv]
  rw [if_pos ⟨how, trivial, ht, by simp [hc], hi, by simp; omega⟩]
  congr 3
  rw [List.set_eq_take_append_cons_drop, if_pos ho]
  simp

/-! ### Slices of one-cell elements -/
/-- The value is a slice; its elements are vs, each of one cell. -/
def SliceOf (h : Heap) (el : TypeId) (v : Value) (vs : List Value) : Prop :=
  (v = .slice none 0 0 ∧ vs = []) ∨ (∃ a c, v = .slice (some a) 0 c ∧ vs = []) ∨
  ∃ id off e c b, v = .slice (some ⟨id, off, some e⟩) vs.length c ∧ rowAt h ⟨id, off, some e⟩ vs.length = some vs ∧ h[id]? = some (.blk b) ∧ b.elem = el

def elemAt : Value → Nat → Value
  | .slice (some ⟨id, off, some e⟩) _ _, i => .pointer (some ⟨id, off + i, some e⟩)
  | _, _ => undef

theorem SliceOf.nil (h : Heap) (el : TypeId) : SliceOf h el (.slice none 0 0) [] := .inl ⟨rfl, rfl⟩

theorem SliceOf.len {h : Heap} {el t : TypeId} {v : Value} {vs : List Value} (hs : SliceOf h el v vs) (hu : P.underlying t = some (.slice el)) : aLen P t v = some (.int .i64 vs.length) := by
  rcases hs with ⟨rfl, rfl⟩ | ⟨a, c, rfl, rfl⟩ | ⟨id, off, e, c, b, rfl, _⟩ <;> simp [aLen, hu]

theorem SliceOf.idx {h : Heap} {el t : TypeId} {v : Value} {vs : List Value} (hs : SliceOf h el v vs) (hu : P.underlying t = some (.slice el)) (hc : P.cellsOf el = 1) {k : IntKind} {i : Int} (h0 : 0 ≤ i) (h1 : i < vs.length) :
    aIndexAddr P t v (.int k i) = some (elemAt v i.toNat) := by
  rcases hs with ⟨rfl, rfl⟩ | ⟨a, c, rfl, rfl⟩ | ⟨id, off, e, c, b, rfl, _⟩
  · simp at h1; omega
  · simp at h1; omega
  · simp [aIndexAddr, hu, hc, h0, h1, elemAt]

theorem SliceOf.load {h : Heap} {el : TypeId} {v : Value} {vs : List Value} (hs : SliceOf h el v vs) (ht : oneT P el = true) {i : Nat} (h1 : i < vs.length) : aLoadV P h el (elemAt v i) = some (vs.getD i undef) := by
  rcases hs with ⟨rfl, rfl⟩ | ⟨a, c, rfl, rfl⟩ | ⟨id, off, e, c, b, rfl, hr, _⟩
  · simp at h1
  · simp at h1
  · simp only [elemAt, aLoadV]
    refine aLoad_row ht ?_
    rw [rowAt_sub hr (by omega : i + 1 ≤ vs.length)]
    congr 1
    rw [List.getD_eq_getElem?_getD, List.getElem?_eq_getElem h1, Option.getD_some]
    rw [List.drop_eq_getElem_cons h1]
    rfl

theorem bnd_nn (y d : Nat) : bnd y none d = some d := rfl
/-- s[lo:hi] -/
theorem SliceOf.slice {h : Heap} {el t : TypeId} {v : Value} {vs : List Value} (hs : SliceOf h el v vs) (hu : P.underlying t = some (.slice el)) (hc : P.cellsOf el = 1) (hi : (P.info? el).isSome = true) {lo hi' : Option Value} {l m : Nat}
    (h1 : bnd vs.length hi' vs.length = some m) (h2 : bnd m lo 0 = some l) (hm : m ≤ vs.length) (hl : l ≤ m) : ∃ v', aSlice P t v lo hi' none = some v' ∧ SliceOf h el v' ((vs.take m).drop l) := by
  rcases hs with ⟨rfl, rfl⟩ | ⟨a, c, rfl, rfl⟩ | ⟨id, off, e, c, b, rfl, hr, hb, he⟩
  · simp only [List.length_nil] at h1 hm
    have hm0 : m = 0 := by omega
    subst hm0
    have hl0 : l = 0 := by omega
    subst hl0
    refine ⟨.slice none 0 0, ?_, .inl ⟨rfl, by simp⟩⟩
    simp [aSlice, hu, hi, aSliceV, bnd_nn, h1, h2]
  · simp only [List.length_nil] at h1 hm
    have hm0 : m = 0 := by omega
    subst hm0
    have hl0 : l = 0 := by omega
    subst hl0
    refine ⟨.slice (some ⟨0, 0, none⟩) 0 1, ?_, .inr (.inl ⟨_, _, rfl, by simp⟩)⟩
    simp [aSlice, hu, hi, aSliceV, h1, h2, bnd_nn]
  · by_cases hlm : l = m
    · subst hlm
      refine ⟨.slice (some ⟨0, 0, none⟩) 0 1, ?_, .inr (.inl ⟨_, _, rfl, by simp⟩)⟩
      simp [aSlice, hu, hi, aSliceV, h1, h2, bnd_nn]
      try omega
    · refine ⟨.slice (some ⟨id, off + l, some e⟩) (m - l) (if c = vs.length ∧ m = vs.length then m - l else m - l + 1), ?_, .inr (.inr ⟨id, off + l, e, (if c = vs.length ∧ m = vs.length then m - l else m - l + 1), b, ?_, ?_, hb, he⟩)⟩
      · simp [aSlice, hu, hi, aSliceV, h1, h2, bnd_nn, hc, hlm]
        try omega
      · simp; omega
      · have hlen : ((vs.take m).drop l).length = m - l := by simp; omega
        rw [hlen, rowAt_sub hr (by omega)]
        rw [List.drop_take]

theorem SliceOf.app {h : Heap} {el : TypeId} {v : Value} {vs : List Value} (hs : SliceOf h el v vs) : appCells h 1 v = some (vs, vs.length) := by
  rcases hs with ⟨rfl, rfl⟩ | ⟨a, c, rfl, rfl⟩ | ⟨id, off, e, c, b, rfl, hr, _⟩
  · simp [appCells]
  · simp [appCells]
  · simp only [appCells]
    split
    · rename_i h0; rw [List.length_eq_zero_iff.1 h0]; rfl
    · rw [Nat.mul_one, hr]; rfl

/-! ### What stays of a heap -/
structure Keeps (h h' : Heap) (S : List Nat) : Prop where
  len : h.length ≤ h'.length
  get : ∀ id, id < h.length → id ∉ S → h'[id]? = h[id]?

theorem Keeps.refl (h : Heap) (S : List Nat) : Keeps h h S := ⟨Nat.le_refl _, fun _ _ _ => rfl⟩
theorem Keeps.trans {a b c : Heap} {S : List Nat} (p : Keeps a b S) (q : Keeps b c S) : Keeps a c S :=
  ⟨Nat.le_trans p.len q.len, fun id h1 h2 => (q.get id (Nat.lt_of_lt_of_le h1 p.len) h2).trans (p.get id h1 h2)⟩
theorem Keeps.mono {a b : Heap} {S T : List Nat} (p : Keeps a b S) (h : ∀ x ∈ S, x ∈ T) : Keeps a b T := ⟨p.len, fun id h1 h2 => p.get id h1 fun q => h2 (h id q)⟩
theorem Keeps.nil {a b : Heap} {T : List Nat} (p : Keeps a b []) : Keeps a b T := p.mono (fun x h => by cases h)
theorem Keeps.add (h : Heap) (l : List AObj) : Keeps h (h ++ l) [] := ⟨by simp, fun id h1 _ => List.getElem?_append_left h1⟩
theorem Keeps.set (h : Heap) (id : Nat) (o : AObj) : Keeps h (h.set id o) [id] := ⟨by simp, fun i h1 h2 => List.getElem?_set_ne (fun q => h2 (by simp [q]))⟩
theorem lt_of_get {h : Heap} {id : Nat} {o : AObj} (hb : h[id]? = some o) : id < h.length := (List.getElem?_eq_some_iff.1 hb).1
theorem Keeps.obj {a b : Heap} {S : List Nat} (p : Keeps a b S) {id : Nat} {o : AObj} (hb : a[id]? = some o) (hn : id ∉ S) : b[id]? = some o := (p.get id (lt_of_get hb) hn).trans hb

/-- The block of a slice's elements isn't among these. -/
def Apart (v : Value) (S : List Nat) : Prop := match v with
  | .slice (some ⟨id, _, some _⟩) _ _ => id ∉ S
  | _ => True

theorem rowAt_keeps {a b : Heap} {S : List Nat} (p : Keeps a b S) {id off e n : Nat} {vs : List Value} (hr : rowAt a ⟨id, off, some e⟩ n = some vs) (hn : id ∉ S) : rowAt b ⟨id, off, some e⟩ n = some vs := by
  obtain ⟨id', off', e', bl, ha, hb, h1, h2, h3, rfl, _⟩ := rowAt_inv hr
  cases ha
  exact rowAt_eq (p.obj hb hn) h1 h2 h3

theorem SliceOf.keeps {a b : Heap} {S : List Nat} (p : Keeps a b S) {el : TypeId} {v : Value} {vs : List Value} (hs : SliceOf a el v vs) (hn : Apart v S) : SliceOf b el v vs := by
  rcases hs with h1 | h1 | ⟨id, off, e, c, bl, rfl, hr, hb, he⟩
  · exact .inl h1
  · exact .inr (.inl h1)
  · exact .inr (.inr ⟨id, off, e, c, bl, rfl, rowAt_keeps p hr hn, p.obj hb hn, he⟩)

theorem Apart.nil (v : Value) : Apart v [] := by unfold Apart; split <;> simp

theorem SliceOf.apart {h : Heap} {el : TypeId} {v : Value} {vs : List Value} (hs : SliceOf h el v vs) {r : Nat} {b : Blk} (hr : h[r]? = some (.blk b)) (hne : b.elem ≠ el) (h0 : vs ≠ []) : Apart v [r] := by
  rcases hs with ⟨rfl, rfl⟩ | ⟨a, c, rfl, rfl⟩ | ⟨id, off, e, c, bl, rfl, _, hb, he⟩
  · exact absurd rfl h0
  · exact absurd rfl h0
  · simp only [Apart, List.mem_singleton]
    rintro rfl
    rw [hb] at hr
    cases hr
    exact hne he

def ints (k : IntKind) (l : List Int) : List Value := l.map (.int k)
@[simp] theorem ints_length (k : IntKind) (l : List Int) : (ints k l).length = l.length := by simp [ints]
theorem ints_get (k : IntKind) (l : List Int) {i : Nat} (h : i < l.length) : (ints k l).getD i undef = .int k (l.getD i 0) := by
  simp [ints, List.getD_eq_getElem?_getD, h]
theorem ints_take (k : IntKind) (l : List Int) (n : Nat) : (ints k l).take n = ints k (l.take n) := by simp [ints]
theorem ints_drop (k : IntKind) (l : List Int) (n : Nat) : (ints k l).drop n = ints k (l.drop n) := by simp [ints]
theorem ints_append (k : IntKind) (l m : List Int) : ints k l ++ ints k m = ints k (l ++ m) := by simp [ints]
end Go.Am
