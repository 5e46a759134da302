/- The abstract memory of the proofs over this seat's program, and the relation that ties it to the model's memory. Nothing here speaks of the program itself. -/
import Derived.RangeFuncLeaves
import Derived.RangeFuncCalls
import Derived.RangeFuncRecord
import Derived.OrdersIn
import Derived.Below
import Derived.Wp
set_option linter.unusedVariables false
set_option linter.unusedSimpArgs false
namespace Go.Am

/-- Where an abstract block of an epoch lies in the model's memory: block, shift, how many cells it has, how many cells an element takes. -/
structure Ent where
  cb : Nat
  d : Nat
  sz : Nat
  es : Nat

abbrev Gh := Nat → Nat → Option Ent

def le (G G' : Gh) : Prop := ∀ id e x, G id e = some x → G' id e = some x
theorem le_refl (G : Gh) : le G G := fun _ _ _ h => h
theorem le_trans {A B C : Gh} (h : le A B) (h' : le B C) : le A C := fun id e x q => h' id e x (h id e x q)

def plainAtom : Value → Bool
  | .bool _ | .int _ _ | .float _ _ | .complex _ _ _ | .string _ | .pointer none | .map none | .chan none | .nilFunc | .nilIface => true
  | .slice none n c => n == 0 && c == 0
  | _ => false

/-- Values with nothing of memory in them: plain atoms, and structs of these. -/
def plainC : Value → Bool
  | .agg xs => xs.toList.all plainAtom
  | v => plainAtom v

/-- Pointers and slices. -/
def refLike : Value → Bool
  | .pointer _ => true
  | .slice _ _ _ => true
  | _ => false

inductive VR (G : Gh) : Value → Value → Prop
  | plain {v : Value} (h : plainAtom v = true) : VR G v v
  | ptr {id off e : Nat} {x : Ent} (h : G id e = some x) : VR G (.pointer (some ⟨id, off, some e⟩)) (.pointer (some ⟨x.cb, x.d + off, none⟩))
  | slice {id off e : Nat} {x : Ent} {len capA capC : Nat} (h : G id e = some x) (h1 : len ≤ capC) (h2 : capA = len → capC = len)
      (h3 : off = 0 → x.d + capC * x.es ≤ x.sz) : VR G (.slice (some ⟨id, off, some e⟩) len capA) (.slice (some ⟨x.cb, x.d + off, none⟩) len capC)
  | empty {c : Addr} {capC : Nat} : VR G (.slice (some ⟨0, 0, none⟩) 0 1) (.slice (some c) 0 capC)
  | iface {t : TypeId} {v v' : Value} (h : VR G v v') : VR G (.iface t v) (.iface t v')
  | func {f : FuncId} {xs ys us vs : Array Value} (h1 : xs.size = ys.size) (h2 : ∀ i, i < xs.size → VR G (xs.getD i undef) (ys.getD i undef))
      (h3 : us.size = vs.size) (h4 : ∀ i, i < us.size → VR G (us.getD i undef) (vs.getD i undef)) : VR G (.func (.func f) xs us) (.func (.func f) ys vs)
  | yield {id : Nat} {x : Ent} (h : G id 0 = some x) : VR G (.func (.yield id) #[] #[]) (.func (.yield x.cb) #[] #[])
  | map {id : Nat} {x : Ent} (h : G id 0 = some x) : VR G (.map (some id)) (.map (some x.cb))
  | agg {xs ys : Array Value} (h1 : xs.size = ys.size) (h0 : ∀ i, i < xs.size → (xs.getD i undef).oneCell = true)
      (h2 : ∀ i, i < xs.size → VR G (xs.getD i undef) (ys.getD i undef)) : VR G (.agg xs) (.agg ys)
  | tuple {xs ys : Array Value} (h1 : xs.size = ys.size) (h2 : ∀ i, i < xs.size → VR G (xs.getD i undef) (ys.getD i undef)) : VR G (.tuple xs) (.tuple ys)
  | top {v' : Value} (h : refLike v' = true) : VR G (.chan (some 0)) v'

theorem VR.mono {G G' : Gh} (hl : le G G') {v v' : Value} (h : VR G v v') : VR G' v v' := by
  induction h with
  | plain h => exact .plain h
  | ptr h => exact .ptr (hl _ _ _ h)
  | slice h h1 h2 h3 => exact .slice (hl _ _ _ h) h1 h2 h3
  | empty => exact .empty
  | iface _ ih => exact .iface ih
  | func h1 _ h3 _ i2 i4 => exact .func h1 i2 h3 i4
  | yield h => exact .yield (hl _ _ _ h)
  | map h => exact .map (hl _ _ _ h)
  | agg h1 h0 _ ih => exact .agg h1 h0 ih
  | tuple h1 _ ih => exact .tuple h1 ih
  | top h => exact .top h

theorem VR.undef (G : Gh) : VR G Go.undef Go.undef := .tuple rfl (fun i h => by simp at h)

theorem VR.oneCell {G : Gh} {v v' : Value} (h : VR G v v') : v'.oneCell = v.oneCell := by cases h <;> first | rfl | (rename_i h; cases v' <;> simp [refLike] at h <;> rfl)

def AR (xs ys : Array Value) (G : Gh) : Prop := xs.size = ys.size ∧ ∀ i, i < xs.size → VR G (xs.getD i Go.undef) (ys.getD i Go.undef)

def VL (G : Gh) (xs ys : List Value) : Prop := xs.length = ys.length ∧ ∀ i, i < xs.length → VR G (xs.getD i Go.undef) (ys.getD i Go.undef)

theorem VL.mono {G G' : Gh} (hl : le G G') {xs ys : List Value} (h : VL G xs ys) : VL G' xs ys := ⟨h.1, fun i hi => (h.2 i hi).mono hl⟩
theorem VL.nil (G : Gh) : VL G [] [] := ⟨rfl, fun i h => by simp at h⟩
theorem VL.cons {G : Gh} {x y : Value} {xs ys : List Value} (h : VR G x y) (hs : VL G xs ys) : VL G (x :: xs) (y :: ys) :=
  ⟨by simp [hs.1], fun i hi => by
    cases i with
    | zero => simpa using h
    | succ i => simpa using hs.2 i (by simpa using hi)⟩
theorem VL.head {G : Gh} {x : Value} {xs ys : List Value} (h : VL G (x :: xs) ys) : ∃ y zs, ys = y :: zs ∧ VR G x y ∧ VL G xs zs := by
  cases ys with
  | nil => exact absurd h.1 (by simp)
  | cons y zs =>
    refine ⟨y, zs, rfl, by simpa using h.2 0 (by simp), by simpa using h.1, fun i hi => ?_⟩
    simpa using h.2 (i + 1) (by simpa using hi)
theorem VL.of_nil {G : Gh} {ys : List Value} (h : VL G [] ys) : ys = [] := by
  have := h.1
  exact List.length_eq_zero_iff.1 (by simpa using this.symm)
theorem VL.append {G : Gh} {xs ys us vs : List Value} (h : VL G xs ys) (h' : VL G us vs) : VL G (xs ++ us) (ys ++ vs) := by
  refine ⟨by simp [h.1, h'.1], fun i hi => ?_⟩
  by_cases hx : i < xs.length
  · have hy : i < ys.length := h.1 ▸ hx
    simpa [List.getElem?_append_left hx, List.getElem?_append_left hy, List.getD_eq_getElem?_getD] using h.2 i hx
  · have hy : ¬ i < ys.length := h.1 ▸ hx
    have h2 := h'.2 (i - xs.length) (by simp at hi; omega)
    rw [List.getD_eq_getElem?_getD, List.getD_eq_getElem?_getD] at h2 ⊢
    rw [List.getElem?_append_right (by omega), List.getElem?_append_right (by omega), ← h.1]
    exact h2

/-- The way to read an array's relation as the lists'. -/
theorem vl_of_arrays {G : Gh} {xs ys : Array Value} (h1 : xs.size = ys.size) (h2 : ∀ i, i < xs.size → VR G (xs.getD i Go.undef) (ys.getD i Go.undef)) : VL G xs.toList ys.toList :=
  ⟨by simpa using h1, fun i hi => by
    have := h2 i (by simpa using hi)
    simpa [List.getD_eq_getElem?_getD, Array.getD_eq_getD_getElem?] using this⟩
theorem arrays_of_vl {G : Gh} {xs ys : Array Value} (h : VL G xs.toList ys.toList) : xs.size = ys.size ∧ ∀ i, i < xs.size → VR G (xs.getD i Go.undef) (ys.getD i Go.undef) :=
  ⟨by simpa using h.1, fun i hi => by
    have := h.2 i (by simpa using hi)
    simpa [List.getD_eq_getElem?_getD, Array.getD_eq_getD_getElem?] using this⟩

theorem VR.agg_list {G : Gh} {xs : Array Value} {v : Value} (h : VR G (.agg xs) v) : ∃ ys, v = .agg ys ∧ VL G xs.toList ys.toList ∧ ∀ i, i < xs.size → (xs.getD i Go.undef).oneCell = true := by
  cases h with
  | plain h => simp [plainAtom] at h
  | agg h1 h0 h2 => exact ⟨_, rfl, vl_of_arrays h1 h2, h0⟩
theorem VR.tuple_list {G : Gh} {xs : Array Value} {v : Value} (h : VR G (.tuple xs) v) : ∃ ys, v = .tuple ys ∧ VL G xs.toList ys.toList := by
  cases h with
  | plain h => simp [plainAtom] at h
  | tuple h1 h2 => exact ⟨_, rfl, vl_of_arrays h1 h2⟩

theorem VR.plainC {G : Gh} {v : Value} (h : Am.plainC v = true) : VR G v v := by
  cases v <;> try (exact .plain h)
  rename_i xs
  simp only [Am.plainC, List.all_eq_true] at h
  have hx : ∀ i, i < xs.size → Am.plainAtom (xs.getD i Go.undef) = true := fun i hi => h _ (by
    rw [Array.getD_eq_getD_getElem?, Array.getElem?_eq_getElem hi]; simp)
  refine .agg rfl (fun i hi => ?_) (fun i hi => .plain (hx i hi))
  have := hx i hi
  revert this
  cases xs.getD i Go.undef <;> simp [Am.plainAtom, Value.oneCell]

theorem VR.of_plainAtom {G : Gh} {v v' : Value} (h : VR G v v') (hp : Am.plainAtom v = true) : v' = v := by
  cases h <;> simp_all [Am.plainAtom]

/-! ### The abstract heap -/
structure Blk where
  cells : List Value
  elem : TypeId
  lo : Nat
  own : Bool

structure LoopA where
  state : LoopState
  pending : Option Code
  N : Nat
  tmps : Nat → Value
  params : Array Tmp
  assign : Code
  body : Code

inductive AObj where
  | blk (b : Blk)
  | loop (r : LoopA)
  | map (es : List (Value × Value))
  | siter (s : ByteArray) (pos : Nat)

abbrev Heap := List AObj

def Ext (h : Heap) (id : Nat) : Prop := ∃ b, h[id]? = some (.blk b) ∧ b.own = false

def EOk (P : Program) (e : Nat) (x : Ent) : AObj → Prop
  | .blk b => e ≤ b.cells.length ∧ x.es = P.cellsOf b.elem ∧ (b.own = true → x.d = 0)
  | _ => e = 0 ∧ x.d = 0

def FR (G : Gh) (N : Nat) (fr : Nat → Value) (tmps : Array Value) : Prop := tmps.size = N ∧ ∀ t, t < N → VR G (fr t) (tmps.getD t Go.undef)

theorem FR.mono {G G' : Gh} (hl : le G G') {N : Nat} {fr : Nat → Value} {tmps : Array Value} (h : FR G N fr tmps) : FR G' N fr tmps := ⟨h.1, fun t ht => (h.2 t ht).mono hl⟩

/-- A loop's record, as the model keeps it. -/
def LoopR (G : Gh) (r : LoopA) (r' : Loop) : Prop :=
  r'.state = r.state ∧ r'.pending = r.pending ∧ FR G r.N r.tmps r'.tmps ∧ r'.params = r.params ∧ r'.assign = r.assign ∧ r'.body = r.body

def ObjR (G : Gh) : AObj → Obj → Prop
  | .loop r, .loop r' => LoopR G r r'
  | .map es, .map es' _ => VL G (es.map (·.1)) (es'.toList.map (·.key)) ∧ VL G (es.map (·.2)) (es'.toList.map (·.val))
  | .siter s n, .stringIter s' n' => s' = s ∧ n' = n
  | _, _ => False

theorem LoopR.mono {G G' : Gh} (hl : le G G') {r : LoopA} {r' : Loop} (h : LoopR G r r') : LoopR G' r r' := ⟨h.1, h.2.1, h.2.2.1.mono hl, h.2.2.2⟩
theorem ObjR.mono {G G' : Gh} (hl : le G G') {o : AObj} {o' : Obj} (h : ObjR G o o') : ObjR G' o o' := by
  cases o <;> cases o' <;> simp only [ObjR] at h ⊢
  · exact h.mono hl
  · exact ⟨h.1.mono hl, h.2.mono hl⟩
  · exact h

def isBlk : AObj → Bool
  | .blk _ => true
  | _ => false

/-- None of the first n cells is frozen. -/
def NFr (n : Nat) (fr : Nat × Nat) : Prop := fr.1 = fr.2 ∨ n ≤ fr.1
theorem NFr.not {n : Nat} {fr : Nat × Nat} (h : NFr n fr) : ∀ i, i < n → ¬ (fr.1 ≤ i ∧ i < fr.2) := fun i hi ⟨h1, h2⟩ => by rcases h with h | h <;> omega
def NF (H : Array Obj) (cb : Nat) : Prop := ∃ cs t fr, H[cb]? = some (.cells cs t fr) ∧ NFr cs.size fr

structure Rel (P : Program) (G : Gh) (h : Heap) (H : Array Obj) : Prop where
  dom : ∀ id e x, G id e = some x → ∃ o, h[id]? = some o ∧ EOk P e x o
  bnd : ∀ id e x, G id e = some x → x.cb < H.size
  blk : ∀ (id : Nat) (b : Blk), h[id]? = some (.blk b) → ∀ e x, G id e = some x → b.lo ≤ e →
      ∃ cs fr, H[x.cb]? = some (.cells cs b.elem fr) ∧ cs.size = x.sz ∧ x.d + e ≤ x.sz ∧ ∀ i, i < e → VR G (b.cells.getD i Go.undef) (cs.getD (x.d + i) Go.undef)
  own : ∀ (id : Nat) (b : Blk), h[id]? = some (.blk b) → b.own = true → b.lo ≤ b.cells.length ∧ ∃ x, G id b.cells.length = some x ∧ NF H x.cb
  one : ∀ (id : Nat) (b : Blk), h[id]? = some (.blk b) → ∀ i, i < b.cells.length → (b.cells.getD i Go.undef).oneCell = true
  obj : ∀ (id : Nat) (o : AObj), h[id]? = some o → isBlk o = false → ∃ x o', G id 0 = some x ∧ H[x.cb]? = some o' ∧ ObjR G o o'
  disj : ∀ id id' e e' x x', G id e = some x → G id' e' = some x' → x.cb = x'.cb → id = id' ∨ (Ext h id ∧ Ext h id')

/-- How the model's memory goes on beside the abstract one: what is none of the abstract heap's own stays. -/
structure Ev (G : Gh) (h : Heap) (H : Array Obj) (G' : Gh) (h' : Heap) (H' : Array Obj) : Prop where
  le : le G G'
  size : H.size ≤ H'.size
  keep : ∀ b, b < H.size → (∀ id e x, G id e = some x → x.cb = b → Ext h id) → H'[b]? = H[b]?
  new : ∀ id e x, G' id e = some x → (∃ e₀ x₀, G id e₀ = some x₀ ∧ x₀.cb = x.cb) ∨ H.size ≤ x.cb
  ext : ∀ id e x, G id e = some x → (Ext h id ↔ Ext h' id)
  loops : ∀ (id : Nat) (r : LoopA), h[id]? = some (.loop r) → ∃ r' : LoopA, h'[id]? = some (.loop r')

theorem Ev.refl (G : Gh) (h : Heap) (H : Array Obj) : Ev G h H G h H :=
  ⟨le_refl G, Nat.le_refl _, fun _ _ _ => rfl, fun _ _ _ q => .inl ⟨_, _, q, rfl⟩, fun _ _ _ _ => Iff.rfl, fun _ r q => ⟨r, q⟩⟩

theorem Ev.trans {G₁ G₂ G₃ : Gh} {h₁ h₂ h₃ : Heap} {H₁ H₂ H₃ : Array Obj} (p : Ev G₁ h₁ H₁ G₂ h₂ H₂) (q : Ev G₂ h₂ H₂ G₃ h₃ H₃) : Ev G₁ h₁ H₁ G₃ h₃ H₃ := by
  refine ⟨le_trans p.le q.le, Nat.le_trans p.size q.size, fun b hb hk => ?_, fun id e x hx => ?_, fun id e x hx => (p.ext id e x hx).trans (q.ext id e x (p.le _ _ _ hx)), fun id r hr => let ⟨r', hr'⟩ := p.loops id r hr; q.loops id r' hr'⟩
  · rw [q.keep b (Nat.lt_of_lt_of_le hb p.size) ?_, p.keep b hb hk]
    intro id e x hx hxb
    rcases p.new id e x hx with ⟨e₀, x₀, h0, hc⟩ | hge
    · exact (p.ext id e₀ x₀ h0).1 (hk id e₀ x₀ h0 (hc.trans hxb))
    · omega
  · rcases q.new id e x hx with ⟨e₀, x₀, h0, hc⟩ | hge
    · rcases p.new id e₀ x₀ h0 with ⟨e₁, x₁, h1, hc1⟩ | hge1
      · exact .inl ⟨e₁, x₁, h1, hc1.trans hc⟩
      · exact .inr (by omega)
    · exact .inr (Nat.le_trans p.size hge)


/-- And what is no memory: the outer world, what was printed. -/
structure EvW (G : Gh) (h : Heap) (w : World) (G' : Gh) (h' : Heap) (w' : World) : Prop extends Ev G h w.heap G' h' w'.heap where
  os : w'.os = w.os
  tape : w'.tape = w.tape
  output : w'.output = w.output

theorem EvW.refl (G : Gh) (h : Heap) (w : World) : EvW G h w G h w := ⟨Ev.refl _ _ _, rfl, rfl, rfl⟩
theorem EvW.trans {G₁ G₂ G₃ : Gh} {h₁ h₂ h₃ : Heap} {w₁ w₂ w₃ : World} (p : EvW G₁ h₁ w₁ G₂ h₂ w₂) (q : EvW G₂ h₂ w₂ G₃ h₃ w₃) : EvW G₁ h₁ w₁ G₃ h₃ w₃ :=
  ⟨p.toEv.trans q.toEv, q.os.trans p.os, q.tape.trans p.tape, q.output.trans p.output⟩

end Go.Am
