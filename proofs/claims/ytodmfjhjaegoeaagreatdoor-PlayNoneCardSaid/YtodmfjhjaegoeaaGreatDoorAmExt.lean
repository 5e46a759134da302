/- Functions without a body: the library's entries that the machine is told. -/
import Derived.Test.YtodmfjhjaegoeaaGreatDoorAmZ4
import Derived.Laws.Externs
import Derived.Lib.Bytealg
set_option linter.unusedVariables false
set_option linter.unusedSimpArgs false
namespace Go.Am
variable {P : Program}
noncomputable section

def extern (P : Program) (f : FuncId) : Option (Array Value → Sem Value) := match P.funcs[f]? with
  | some fn => if (fn.name == "runtime.NumGoroutine") = false ∧ fn.body.isNone = true then (match Extern.findNext fn with
    | none => Extern.find fn
    | some _ => none) else none
  | none => none
/-- That a function is the library's entry e. -/
structure IsExtern (P : Program) (f : FuncId) (e : Array Value → Sem Value) : Prop where
  ex : ∃ fn, P.funcs[f]? = some fn ∧ (fn.name == "runtime.NumGoroutine") = false ∧ fn.body.isNone = true ∧ Extern.findNext fn = none ∧ Extern.find fn = some e

theorem ACall_extern {f : FuncId} {e : Array Value → Sem Value} (he : IsExtern P f e) {args : List Value} {h : Heap} {R : Value → Heap → Prop} (hi : ∃ v h', R v h')
    (q : ∀ (G : Gh) (w : World) (cargs : Array Value), Rel P G h w.heap → VL G args cargs.toList → ∃ v' w', (e cargs).run P w = .ok v' w' ∧ CallPost P G h w R v' w') : ACall P f args h R := by
  refine ⟨hi, fun n G w cargs hR hA => ?_⟩
  obtain ⟨fn, h1, h2, h3, h4, h5⟩ := he.ex
  obtain ⟨v', w', hr, hp⟩ := q G w cargs hR hA
  rw [run_callFunc_extern h1 h2 h3 h4 h5, hr]
  exact hp

theorem VL.two {G : Gh} {a b : Value} {ys : Array Value} (h : VL G [a, b] ys.toList) : ∃ a' b', ys = #[a', b'] ∧ VR G a a' ∧ VR G b b' := by
  obtain ⟨a', zs, e1, h1, h2⟩ := h.head
  obtain ⟨b', us, e2, h3, h4⟩ := h2.head
  have := h4.of_nil; subst this
  subst e2
  exact ⟨a', b', by apply Array.toList_inj.1; rw [e1], h1, h3⟩
theorem VL.single {G : Gh} {a : Value} {ys : Array Value} (h : VL G [a] ys.toList) : ∃ a', ys = #[a'] ∧ VR G a a' := by
  obtain ⟨a', zs, e1, h1, h2⟩ := h.head
  have := h2.of_nil; subst this
  exact ⟨a', by apply Array.toList_inj.1; rw [e1], h1⟩

/-- The first place of a byte, counted from i. -/
def idxB (c : UInt8) : List UInt8 → Nat → Option Nat
  | [], _ => none
  | b :: l, i => match Nat.beq b.toNat c.toNat with
    | true => some i
    | false => idxB c l (i + 1)
theorem idxB_eq (c : UInt8) : ∀ (l : List UInt8) (i : Nat), (match idxB c l i with | some j => ((j : Int) - i) | none => -1) = Lib.indexByte l c
  | [], i => rfl
  | b :: l, i => by
    unfold idxB Lib.indexByte
    by_cases hb : b = c
    · subst hb
      rw [beqN_true rfl, if_pos (by simp)]
      simp
    · rw [beqN_false (fun q => hb (UInt8.toNat_inj.1 q)), if_neg (by simpa using hb)]
      have ih := idxB_eq c l (i + 1)
      simp only
      rw [← ih]
      cases h : idxB c l (i + 1) with
      | none => rfl
      | some j =>
        have hle : ∀ (l : List UInt8) (i j : Nat), idxB c l i = some j → i ≤ j := by
          intro l
          induction l with
          | nil => intro i j h; cases h
          | cons b l ih =>
            intro i j h
            unfold idxB at h
            split at h
            · cases h; exact Nat.le_refl _
            · have := ih _ _ h; omega
        have := hle _ _ _ h
        simp only
        rw [if_neg (by simp; omega)]
        omega
def indexX : FX := ⟨fun _ args k E => match args with
  | [s, c] => (match s with
    | .string s => (match c with
      | .int .u8 z => (match idxB z.toNat.toUInt8 s.data.toList 0 with
        | some i => fN i fun i => k (.int .i64 (.ofNat i)) E
        | none => k (.int .i64 (.negSucc 0)) E)
      | _ => false)
    | _ => false)
  | _ => false⟩
theorem indexX_sat {f : FuncId} (he : IsExtern P f Extern.BytealgIndexByte.indexByte) : FSat P f indexX := by
  intro C hC args k R E h hk hm Rh
  simp only [indexX] at hm
  split at hm <;> (try (cases hm; done))
  split at hm <;> (try (cases hm; done))
  rename_i s
  split at hm <;> (try (cases hm; done))
  rename_i z
  have hm' : k (.int .i64 (Lib.indexByte s.data.toList z.toNat.toUInt8)) E = true := by
    rw [← idxB_eq z.toNat.toUInt8 s.data.toList 0]
    split at hm
    · rename_i i hi
      rw [fN_eq] at hm
      simpa using hm
    · rename_i hi
      exact hm
  have hR := hk _ _ _ hm' Rh
  refine ACall_extern he ⟨_, _, hR⟩ fun G w cargs hr hA => ?_
  obtain ⟨a', b', rfl, h1, h2⟩ := hA.two
  have e1 := h1.of_plainAtom rfl; have e2 := h2.of_plainAtom rfl
  subst e1 e2
  exact ⟨_, w, Lib.run_indexByteString s z w, G, _, h, hR, hr, .plain rfl, EvW.refl _ _ _⟩

def cntB (c : UInt8) : List UInt8 → Nat → Nat
  | [], n => n
  | b :: l, n => match Nat.beq b.toNat c.toNat with
    | true => cntB c l (n + 1)
    | false => cntB c l n
theorem cntB_eq (c : UInt8) : ∀ (l : List UInt8) (n : Nat), cntB c l n = n + Lib.countByte l c
  | [], n => by simp [cntB, Lib.countByte]
  | b :: l, n => by
    unfold cntB Lib.countByte
    rw [List.count_cons]
    by_cases hb : b = c
    · subst hb
      rw [beqN_true rfl, cntB_eq, if_pos (by simp)]
      unfold Lib.countByte; simp only; omega
    · rw [beqN_false (fun q => hb (UInt8.toNat_inj.1 q)), cntB_eq c l n, if_neg (by simpa using hb)]
      unfold Lib.countByte; simp only; omega
def countX : FX := ⟨fun _ args k E => match args with
  | [s, c] => (match s with
    | .string s => (match c with
      | .int .u8 z => fN (cntB z.toNat.toUInt8 s.data.toList 0) fun n => k (.int .i64 (.ofNat n)) E
      | _ => false)
    | _ => false)
  | _ => false⟩
theorem countX_sat {f : FuncId} (he : IsExtern P f Extern.BytealgCount.count) : FSat P f countX := by
  intro C hC args k R E h hk hm Rh
  simp only [countX] at hm
  split at hm <;> (try (cases hm; done))
  split at hm <;> (try (cases hm; done))
  rename_i s
  split at hm <;> (try (cases hm; done))
  rename_i z
  rw [fN_eq, cntB_eq, Nat.zero_add] at hm
  have hR := hk _ _ _ hm Rh
  refine ACall_extern he ⟨_, _, hR⟩ fun G w cargs hr hA => ?_
  obtain ⟨a', b', rfl, h1, h2⟩ := hA.two
  have e1 := h1.of_plainAtom rfl; have e2 := h2.of_plainAtom rfl
  subst e1 e2
  exact ⟨_, w, Lib.run_countString s z w, G, _, h, hR, hr, .plain rfl, EvW.refl _ _ _⟩

def cloneX : FX := ⟨fun _ args k E => match args with
  | [v] => (match v with
    | .iface t m => (match m with
      | .map (some id) => (match E.objs.get id with
        | some o => (match o with
          | .map es => fN E.size fun l => k (.iface t (.map (some l))) (E.push (.map es))
          | _ => false)
        | none => false)
      | _ => false)
    | _ => false)
  | _ => false⟩
theorem cloneX_sat {f : FuncId} (he : IsExtern P f Extern.MapsClone.clone) : FSat P f cloneX := by
  intro C hC args k R E h hk hm Rh
  simp only [cloneX] at hm
  split at hm <;> (try (cases hm; done))
  split at hm <;> (try (cases hm; done))
  rename_i t m
  split at hm <;> (try (cases hm; done))
  rename_i id
  split at hm <;> (try (cases hm; done))
  rename_i o ho
  split at hm <;> (try (cases hm; done))
  rename_i es
  rw [fN_eq] at hm
  have ho' := Rh.map ho
  have hR := hk _ _ _ hm (Rh.push (o := .map es) trivial)
  rw [Rh.size] at hR
  refine ACall_extern he ⟨_, _, hR⟩ fun G w cargs hr hA => ?_
  obtain ⟨a', rfl, h1⟩ := hA.single
  cases h1 with
  | plain hp => simp [plainAtom] at hp
  | iface h1 =>
    rename_i v'
    rcases h1.map_inv with ⟨q, _⟩ | ⟨id', x, q, hx, rfl⟩
    · cases q
    · cases q
      obtain ⟨x', o', g1, g2, g3⟩ := hr.obj id _ ho' rfl
      rw [hx] at g1; cases g1
      cases o' <;> simp only [ObjR] at g3
      rename_i es' clock
      have hnew : ObjR (gput G h.length 0 ⟨w.heap.size, 0, 0, 0⟩) (.map es) (.map es' clock) := by
        have hl : le G (gput G h.length 0 ⟨w.heap.size, 0, 0, 0⟩) := by
          intro i e y hy
          unfold gput
          rw [if_neg]
          · exact hy
          · rintro ⟨rfl, rfl⟩
            obtain ⟨o, p1, _⟩ := hr.dom _ _ _ hy
            rw [List.getElem?_eq_none (Nat.le_refl _)] at p1
            cases p1
        exact ⟨g3.1.mono hl, g3.2.mono hl⟩
      obtain ⟨R', E'⟩ := hr.addNB (o1 := .map es) rfl hnew
      refine ⟨.iface t (.map (some w.heap.size)), w.alloc (.map es' clock), ?_, _, _, _, hR, R', .iface (.map (gput_same _ _ _ _)), E'⟩
      have e : Extern.MapsClone.clone #[.iface t (.map (some x.cb))] = (getObj x.cb >>= fun o => match o with
          | .map entries clock => (newObj (.map entries clock) >>= fun n => pure (.iface t (.map (some n))))
          | _ => stuck "maps.clone: a map expected") := rfl
      rw [e]
      simp [run_getMap g2, Result.andThen]

/-- A told table of a few functions. -/
def told1 (f : FuncId) (x : FX) (r : Told) : Told := fun g => match Nat.beq g f with
  | true => some x
  | false => r g
theorem told0_ok : ToldOk P (fun _ => none) := fun f x h => by cases h
theorem told1_ok {f : FuncId} {x : FX} {r : Told} (h : FSat P f x) (hr : ToldOk P r) : ToldOk P (told1 f x r) := by
  intro g y hg
  unfold told1 at hg
  split at hg
  · rename_i hq
    rw [Nat.beq_eq] at hq
    cases hg
    subst hq
    exact h
  · exact hr g y hg
end
end Go.Am
