/- Maps by strings, iterators over strings, types asserted. -/
import Derived.Test.YtodmfjhjaegoeaaGreatDoorAmStore
set_option linter.unusedVariables false
set_option linter.unusedSimpArgs false
namespace Go.Am

def aFind (s : ByteArray) : List (Value × Value) → Nat → Option (Option (Nat × Value))
  | [], _ => some none
  | (.string k, v) :: r, i => if (s.data.toList == k.data.toList) = true then some (some (i, v)) else aFind s r (i + 1)
  | _, _ => none

theorem bytes_beq (a b : ByteArray) : (a == b) = (a.data.toList == b.data.toList) := by
  have e : (a == b) = (a.data == b.data) := by cases a; cases b; rfl
  rw [e]
  have h1 : (a.data == b.data) = true ↔ a.data = b.data := beq_iff_eq
  have h2 : (a.data.toList == b.data.toList) = true ↔ a.data = b.data := by
    rw [beq_iff_eq]
    exact ⟨fun h => Array.toList_inj.1 h, fun h => by rw [h]⟩
  cases hq : (a.data == b.data) <;> cases hp : (a.data.toList == b.data.toList) <;> simp_all
theorem bytes_beq_eq {a b : ByteArray} (h : (a.data.toList == b.data.toList) = true) : a = b := by
  apply ByteArray.ext
  exact Array.toList_inj.1 (beq_iff_eq.1 h)

theorem aFind_sound {G : Gh} {s : ByteArray} : ∀ {es : List (Value × Value)} {es' : List MapEntry} {i : Nat} {r : Option (Nat × Value)}, VL G (es.map (·.1)) (es'.map (·.key)) → VL G (es.map (·.2)) (es'.map (·.val)) → aFind s es i = some r →
    (r = none ∧ Instr.findNow .string (.string s) es' i = some none) ∨ ∃ j v v', r = some (j, v) ∧ Instr.findNow .string (.string s) es' i = some (some (j, v')) ∧ VR G v v'
  | [], es', i, r, h1, h2, h => by
    cases h
    have : es' = [] := by have := h1.1; simpa using this.symm
    subst this
    exact .inl ⟨rfl, rfl⟩
  | (k, v) :: es, es', i, r, h1, h2, h => by
    cases es' with
    | nil => have := h1.1; simp at this
    | cons e es' =>
      obtain ⟨k', ks, e1, hk, h1'⟩ := h1.head
      obtain ⟨v', vs, e2, hv, h2'⟩ := h2.head
      simp only [List.map_cons, List.cons.injEq] at e1 e2
      obtain ⟨rfl, rfl⟩ := e1
      obtain ⟨rfl, rfl⟩ := e2
      cases k <;> simp only [aFind, reduceCtorEq] at h
      rename_i k
      have ek := hk.of_plainAtom rfl
      simp only [Instr.findNow, ek, Instr.sameNow, bytes_beq]
      cases hq : (s.data.toList == k.data.toList) with
      | true =>
        rw [hq] at h
        simp only [if_true, Option.some.injEq] at h
        subst h
        exact .inr ⟨i, v, e.val, rfl, rfl, hv⟩
      | false =>
        rw [hq] at h
        simp only [Bool.false_eq_true, if_false] at h
        exact aFind_sound h1' h2' h

def isStrT (P : Program) (t : TypeId) : Bool := match P.underlying t with | some .string => true | _ => false
theorem isStrT_spec {P : Program} {t : TypeId} (h : isStrT P t = true) : P.underlying t = some .string := by
  unfold isStrT at h
  split at h
  · assumption
  · cases h

theorem run_checkKey {P : Program} {t : TypeId} (h : P.underlying t = some .string) (b : Bool) (n : Nat) (s : ByteArray) (w : World) : (Instr.checkKey b (n + 1) t (.string s)).run P w = .ok () w := by
  simp [Instr.checkKey, run_underlying h]
theorem run_findKey {P : Program} {t : TypeId} (h : P.underlying t = some .string) {s : ByteArray} {es : List MapEntry} {r : Option (Nat × Value)} (hr : Instr.findNow .string (.string s) es 0 = some r) (w : World) :
    (Instr.findKey t (.string s) es).run P w = .ok r w := by
  simp [Instr.findKey, run_underlying h, hr]

theorem run_getMap {P : Program} {w : World} {r : Nat} {es : Array MapEntry} {c : Nat} (h : w.heap[r]? = some (.map es c)) : (getObj r).run P w = .ok (.map es c) w := by simp [getObj, Sem.run, h]
theorem run_setMap {P : Program} {w : World} {r : Nat} {es : Array MapEntry} {c : Nat} (o' : Obj) (h : w.heap[r]? = some (.map es c)) : (setObj r o').run P w = .ok () (w.putObj r o') := by simp [setObj, Sem.run, h, World.putObj]
theorem run_getIter {P : Program} {w : World} {r : Nat} {s : ByteArray} {c : Nat} (h : w.heap[r]? = some (.stringIter s c)) : (getObj r).run P w = .ok (.stringIter s c) w := by simp [getObj, Sem.run, h]
theorem run_setIter {P : Program} {w : World} {r : Nat} {s : ByteArray} {c : Nat} (o' : Obj) (h : w.heap[r]? = some (.stringIter s c)) : (setObj r o').run P w = .ok () (w.putObj r o') := by simp [setObj, Sem.run, h, World.putObj]

/-- A change of an object that is no block. -/
theorem Rel.setNB {P : Program} {G : Gh} {h : Heap} {w : World} (R : Rel P G h w.heap) {id : Nat} {o o1 : AObj} (ho : h[id]? = some o) (hb : isBlk o = false) (hb1 : isBlk o1 = false) (hl : ∀ r, o = .loop r → ∃ r', o1 = .loop r')
    {x : Ent} (hx : G id 0 = some x) {O1 : Obj} (hr : ObjR G o1 O1) : Rel P G (h.set id o1) (w.putObj x.cb O1).heap ∧ EvW G h w G (h.set id o1) (w.putObj x.cb O1) := by
  have hlt := R.bnd _ _ _ hx
  have hek : ∀ e x, EOk P e x o → EOk P e x o1 := fun e x q => by
    cases o <;> simp only [isBlk, reduceCtorEq] at hb <;> cases o1 <;> simp only [isBlk, reduceCtorEq] at hb1 <;> exact q
  obtain ⟨R', E'⟩ := R.upd (H' := (w.putObj x.cb O1).heap) (o' := o1) ho (fun ⟨b, hq, _⟩ => by rw [ho] at hq; cases hq; cases hb) (fun b hq => by subst hq; cases hb1) hl (le_refl G) (fun _ _ _ => rfl) (by simp)
    (fun c _ hne => World.putObj_heap_other (fun q => hne 0 x hx q.symm))
    (fun e y hy => by
      obtain ⟨o', h1, h2⟩ := R.dom _ _ _ hy
      rw [ho] at h1; cases h1
      exact ⟨hek _ _ h2, by simpa using R.bnd _ _ _ hy, .inl ⟨_, _, hy, rfl⟩⟩)
    ⟨fun b hq => (by subst hq; cases hb1), fun b hq => (by subst hq; cases hb1), fun b hq => (by subst hq; cases hb1), fun _ => ⟨x, _, hx, World.putObj_heap_same hlt, hr⟩⟩
  exact ⟨R', E', rfl, rfl, rfl⟩

theorem Rel.addNB {P : Program} {G : Gh} {h : Heap} {w : World} (R : Rel P G h w.heap) {o1 : AObj} (hb1 : isBlk o1 = false) {O1 : Obj} (hr : ObjR (gput G h.length 0 ⟨w.heap.size, 0, 0, 0⟩) o1 O1) :
    Rel P (gput G h.length 0 ⟨w.heap.size, 0, 0, 0⟩) (h ++ [o1]) (w.alloc O1).heap ∧ EvW G h w (gput G h.length 0 ⟨w.heap.size, 0, 0, 0⟩) (h ++ [o1]) (w.alloc O1) := by
  obtain ⟨R', E'⟩ := R.add o1 O1 0 ⟨w.heap.size, 0, 0, 0⟩ rfl (by cases o1 <;> simp only [isBlk, reduceCtorEq] at hb1 <;> exact ⟨rfl, rfl⟩)
    ⟨fun b hq => (by subst hq; cases hb1), fun b hq => (by subst hq; cases hb1), fun b hq => (by subst hq; cases hb1), fun _ => ⟨_, O1, gput_same _ _ _ _, by simp, hr⟩⟩
  exact ⟨R', E', rfl, rfl, rfl⟩

theorem VR.map_inv {G : Gh} {m : Option Nat} {v : Value} (h : VR G (.map m) v) : (m = none ∧ v = .map none) ∨ ∃ id x, m = some id ∧ G id 0 = some x ∧ v = .map (some x.cb) := by
  cases h with
  | plain hp => cases m with
    | none => exact .inl ⟨rfl, rfl⟩
    | some m => simp [plainAtom] at hp
  | map h => exact .inr ⟨_, _, rfl, h, rfl⟩

theorem VR.pair {G : Gh} {a b a' b' : Value} (h1 : VR G a a') (h2 : VR G b b') : VR G (.tuple #[a, b]) (.tuple #[a', b']) := by
  obtain ⟨k1, k2⟩ := arrays_of_vl (xs := #[a, b]) (ys := #[a', b']) (VL.cons h1 (VL.cons h2 (VL.nil G)))
  exact .tuple k1 k2

/-- What a map holds. -/
def aEntries (h : Heap) : Value → Option (List (Value × Value))
  | .map none => some []
  | .map (some id) => match h[id]? with
    | some (.map es) => some es
    | _ => none
  | _ => none

def aLookup (P : Program) (h : Heap) (t : TypeId) (m k : Value) (ok : Bool) : Option Value :=
  match P.underlying t, k with
  | some (.map kt el), .string s => if isStrT P kt = true then
      (match aEntries h m with
      | some es => match aFind s es 0 with
        | some (some (_, v)) => some (if ok = true then .tuple #[v, .bool true] else v)
        | some none => match aZero P el with
          | some z => some (if ok = true then .tuple #[z, .bool false] else z)
          | none => none
        | none => none
      | none => none) else none
  | _, _ => none

theorem aEntries_sound {P : Program} {G : Gh} {h : Heap} {w : World} (R : Rel P G h w.heap) {m m' : Value} {es : List (Value × Value)} (he : aEntries h m = some es) (hm : VR G m m') :
    (m' = .map none ∧ es = []) ∨ ∃ id x es' c, m = .map (some id) ∧ h[id]? = some (.map es) ∧ G id 0 = some x ∧ m' = .map (some x.cb) ∧ w.heap[x.cb]? = some (.map es' c) ∧ VL G (es.map (·.1)) (es'.toList.map (·.key)) ∧ VL G (es.map (·.2)) (es'.toList.map (·.val)) := by
  unfold aEntries at he
  split at he <;> (try (cases he; done))
  · cases he
    rcases hm.map_inv with ⟨_, rfl⟩ | ⟨id, x, h1, _⟩
    · exact .inl ⟨rfl, rfl⟩
    · cases h1
  · rename_i id
    split at he <;> (try (cases he; done))
    rename_i es₀ ho
    cases he
    rcases hm.map_inv with ⟨h1, _⟩ | ⟨id', x, h1, h2, rfl⟩
    · cases h1
    · cases h1
      obtain ⟨x', o', k1, k2, k3⟩ := R.obj id _ ho rfl
      rw [h2] at k1; cases k1
      cases o' <;> simp only [ObjR] at k3
      exact .inr ⟨id, x, _, _, rfl, ho, h2, rfl, k2, k3.1, k3.2⟩

theorem aLookup_sound {P : Program} {G : Gh} {h : Heap} {w : World} (R : Rel P G h w.heap) {t : TypeId} {m k m' k' v : Value} {ok : Bool} (hl : aLookup P h t m k ok = some v) (hm : VR G m m') (hk : VR G k k') :
    ∃ v', (Instr.lookup t m' k' ok).run P w = .ok v' w ∧ VR G v v' := by
  unfold aLookup at hl
  split at hl <;> (try (cases hl; done))
  rename_i kt el s hu
  split at hl <;> (try (cases hl; done))
  rename_i hs
  have hs := isStrT_spec hs
  split at hl <;> (try (cases hl; done))
  rename_i es hes
  have ek := hk.of_plainAtom rfl; subst ek
  have hck : ∀ b w, (Instr.checkKey b 10000 kt (.string s)).run P w = .ok () w := fun b w => by rw [show (10000 : Nat) = 9999 + 1 from rfl, run_checkKey hs]
  have fin : ∀ es' : Array MapEntry, VL G (es.map (·.1)) (es'.toList.map (·.key)) → VL G (es.map (·.2)) (es'.toList.map (·.val)) →
      (∀ r, (Instr.findKey kt (.string s) es'.toList).run P w = .ok r w → (Instr.lookup t m' (.string s) ok).run P w = (match r with
        | some (_, v) => .ok (if ok = true then .tuple #[v, .bool true] else v) w
        | none => ((zeroValue el).run P w).andThen fun z w => .ok (if ok = true then .tuple #[z, .bool false] else z) w)) → ∃ v', (Instr.lookup t m' (.string s) ok).run P w = .ok v' w ∧ VR G v v' := by
    intro es' h1 h2 hrun
    split at hl <;> (try (cases hl; done))
    · rename_i j v₀ hf
      cases hl
      rcases aFind_sound h1 h2 hf with ⟨h3, _⟩ | ⟨j', u, v', h3, h4, h5⟩
      · cases h3
      · cases h3
        refine ⟨if ok = true then .tuple #[v', .bool true] else v', hrun _ (run_findKey hs h4 w), ?_⟩
        cases ok
        · simpa using h5
        · simpa using h5.pair (.plain rfl)
    · rename_i hf
      split at hl <;> (try (cases hl; done))
      rename_i z hz
      cases hl
      rcases aFind_sound h1 h2 hf with ⟨_, h4⟩ | ⟨j', u, v', h3, _⟩
      · obtain ⟨z1, z2⟩ := aZero_sound hz
        refine ⟨if ok = true then .tuple #[z, .bool false] else z, ?_, ?_⟩
        · rw [hrun _ (run_findKey hs h4 w)]; simp only [z1, Result.andThen_ok]
        · cases ok
          · simpa using VR.plainC z2
          · simpa using (VR.plainC z2).pair (.plain rfl)
      · cases h3
  rcases aEntries_sound R hes hm with ⟨rfl, rfl⟩ | ⟨id, x, es', c, _, _, _, rfl, k1, k2, k3⟩
  · refine fin #[] (VL.nil G) (VL.nil G) fun r hr => ?_
    have hr' : (Instr.findKey kt (.string s) []).run P w = .ok r w := hr
    cases r with
    | none => simp [Instr.lookup, run_underlying hu, hck, hr']
    | some r => simp [Instr.lookup, run_underlying hu, hck, hr']
  · refine fin es' k2 k3 fun r hr => ?_
    cases r with
    | none => simp [Instr.lookup, run_underlying hu, hck, hr, run_getMap k1]
    | some r => simp [Instr.lookup, run_underlying hu, hck, hr, run_getMap k1]

/-- How many entries a map has. -/
def aLenMap (P : Program) (h : Heap) (t : TypeId) (m : Value) : Option Value := if isMapT P t = true then (aEntries h m).map fun es => .int .i64 es.length else none

theorem aLenMap_sound {P : Program} {G : Gh} {h : Heap} {w : World} (R : Rel P G h w.heap) {t ty : TypeId} {m m' v : Value} (hl : aLenMap P h t m = some v) (hm : VR G m m') : (Builtin.len_ #[t] ty #[m']).run P w = .ok v w ∧ plainAtom v = true := by
  unfold aLenMap at hl
  split at hl <;> (try (cases hl; done))
  rename_i ht
  have hu : ∃ kt el, P.underlying t = some (.map kt el) := by
    unfold isMapT at ht
    split at ht
    · exact ⟨_, _, ‹_›⟩
    · cases ht
  obtain ⟨kt, el, hu⟩ := hu
  obtain ⟨es, hes, rfl⟩ := Option.map_eq_some_iff.1 hl
  rcases aEntries_sound R hes hm with ⟨rfl, rfl⟩ | ⟨id, x, es', c, _, _, _, rfl, k1, k2, k3⟩
  · exact ⟨by simp [Builtin.len_, run_underlying hu, goInt], rfl⟩
  · have := k2.1
    simp only [List.length_map, Array.length_toList] at this
    exact ⟨by simp [Builtin.len_, run_underlying hu, run_getMap k1, goInt, this], rfl⟩

def aMapUpdate (P : Program) (h : Heap) (t : TypeId) (m k v : Value) : Option Heap :=
  match P.underlying t, m, k with
  | some (.map kt _), .map (some id), .string s => if isStrT P kt = true then
      (match h[id]? with
      | some (.map es) => match aFind s es 0 with
        | some (some (i, _)) => some (h.set id (.map (es.set i (.string s, v))))
        | some none => some (h.set id (.map (es ++ [(.string s, v)])))
        | none => none
      | _ => none) else none
  | _, _, _ => none

theorem aFind_lt {s : ByteArray} : ∀ {es : List (Value × Value)} {i j : Nat} {v : Value}, aFind s es i = some (some (j, v)) → i ≤ j ∧ ∃ k, es[j - i]? = some (.string k, v) ∧ k = s
  | [], i, j, v, h => by cases h
  | (k, u) :: es, i, j, v, h => by
    cases k <;> simp only [aFind, reduceCtorEq] at h
    rename_i k
    split at h
    · rename_i hq
      cases h
      refine ⟨Nat.le_refl _, k, by simp, ?_⟩
      exact (bytes_beq_eq hq).symm
    · obtain ⟨h1, k', h2, h3⟩ := aFind_lt h
      refine ⟨by omega, k', ?_, h3⟩
      have : j - i = (j - (i + 1)) + 1 := by omega
      rw [this]; simpa using h2

theorem VL.set {G : Gh} {xs ys : List Value} (h : VL G xs ys) (i : Nat) {v v' : Value} (hv : VR G v v') : VL G (xs.set i v) (ys.set i v') := by
  refine ⟨by simp [h.1], fun j hj => ?_⟩
  have hj' : j < xs.length := by simpa using hj
  have := h.2 j hj'
  simp only [List.getD_eq_getElem?_getD, List.getElem?_set] at this ⊢
  by_cases hi : i = j
  · subst hi
    simp [hj', ← h.1]
    exact hv
  · simpa [hi] using this

theorem VL.eraseIdx {G : Gh} {xs ys : List Value} (h : VL G xs ys) (i : Nat) : VL G (xs.eraseIdx i) (ys.eraseIdx i) := by
  refine ⟨by simp [List.length_eraseIdx, h.1], fun j hj => ?_⟩
  have hlen : (xs.eraseIdx i).length ≤ xs.length := by rw [List.length_eraseIdx]; split <;> omega
  simp only [List.getD_eq_getElem?_getD, List.getElem?_eraseIdx]
  split
  · have := h.2 j (by omega)
    simpa [List.getD_eq_getElem?_getD] using this
  · have hj2 : j + 1 < xs.length := by
      rw [List.length_eraseIdx] at hj
      split at hj <;> omega
    have := h.2 (j + 1) hj2
    simpa [List.getD_eq_getElem?_getD] using this

theorem aMapUpdate_sound {P : Program} {G : Gh} {h h' : Heap} {w : World} (R : Rel P G h w.heap) {t : TypeId} {m k v m' k' v' : Value} (hl : aMapUpdate P h t m k v = some h') (hm : VR G m m') (hk : VR G k k') (hv : VR G v v') :
    ∃ w', (Instr.mapUpdate t m' k' v').run P w = .ok () w' ∧ Rel P G h' w'.heap ∧ EvW G h w G h' w' := by
  unfold aMapUpdate at hl
  split at hl <;> (try (cases hl; done))
  rename_i kt el id s hu
  split at hl <;> (try (cases hl; done))
  rename_i hs
  have hs := isStrT_spec hs
  split at hl <;> (try (cases hl; done))
  rename_i es ho
  have ek := hk.of_plainAtom rfl; subst ek
  rcases hm.map_inv with ⟨h1, _⟩ | ⟨id', x, h1, hx, rfl⟩
  · cases h1
  cases h1
  obtain ⟨x', o', k1, k2, k3⟩ := R.obj id _ ho rfl
  rw [hx] at k1; cases k1
  cases o' <;> simp only [ObjR] at k3
  rename_i es' c
  have run : (Instr.mapUpdate t (.map (some x.cb)) (.string s) v').run P w = ((do
      match ← Instr.findKey kt (.string s) es'.toList with
      | some (i, _) => do
        let key ← Instr.keyThatStays (((es'[i]?).map (·.key)).getD (.string s)) (.string s)
        setObj x.cb (.map (es'.modify i fun e => { e with key, val := v' }) c)
      | none => setObj x.cb (.map (es'.push { key := .string s, val := v', born := c }) (c + 1)) : Sem Unit)).run P w := by
    unfold Instr.mapUpdate
    simp only [Sem.run_bind, run_underlying hu, Result.andThen_ok, run_getMap k2]
    rw [show (10000 : Nat) = 9999 + 1 from rfl, run_checkKey hs, Result.andThen_ok]
    rfl
  rw [run]
  split at hl <;> (try (cases hl; done))
  · rename_i i v₀ hf
    cases hl
    rcases aFind_sound k3.1 k3.2 hf with ⟨h3, _⟩ | ⟨j, u, u', h3, h4, h5⟩
    · cases h3
    · cases h3
      obtain ⟨_, ks, hks, rfl⟩ := aFind_lt hf
      simp only [Nat.sub_zero] at hks
      have hil : i < es.length := (List.getElem?_eq_some_iff.1 hks).1
      have hlen : es.length = es'.size := by have := k3.1.1; simpa using this
      have hkey : ((es'[i]?).map (·.key)).getD (.string ks) = .string ks := by
        have := k3.1.2 i (by simpa using hil)
        have e1 : (es.map (·.1)).getD i Go.undef = .string ks := by simp [List.getD_eq_getElem?_getD, hks]
        rw [e1] at this
        have e2 := this.of_plainAtom rfl
        rw [Array.getElem?_eq_getElem (by omega)]
        rw [List.getD_eq_getElem?_getD, List.getElem?_map, List.getElem?_eq_getElem (by simp; omega)] at e2
        simpa using e2
      have hstay : (Instr.keyThatStays (.string ks) (.string ks)).run P w = .ok (.string ks) w := by
        have : Instr.sameBits 10000 (.string ks) (.string ks) = true := by
          rw [show (10000 : Nat) = 9999 + 1 from rfl]
          simp [Instr.sameBits, bytes_beq]
        simp [Instr.keyThatStays, this]
      have hO : ObjR G (.map (es.set i (.string ks, v))) (.map (es'.modify i fun e => { e with key := .string ks, val := v' }) c) := by
        have e1 : (es'.modify i fun e => { e with key := .string ks, val := v' }).toList = es'.toList.modify i (fun e => { e with key := .string ks, val := v' }) := by simp
        have m1 : (es'.toList.modify i (fun e => { e with key := .string ks, val := v' })).map (·.key) = (es'.toList.map (·.key)).set i (.string ks) := by
          apply List.ext_getElem?
          intro n
          simp only [List.getElem?_map, List.getElem?_modify, List.getElem?_set, List.length_map]
          by_cases hn : i = n
          · subst hn; simp; rw [Array.getElem?_eq_getElem (by omega)]; simp; omega
          · simp [hn]
        have m2 : (es'.toList.modify i (fun e => { e with key := .string ks, val := v' })).map (·.val) = (es'.toList.map (·.val)).set i v' := by
          apply List.ext_getElem?
          intro n
          simp only [List.getElem?_map, List.getElem?_modify, List.getElem?_set, List.length_map]
          by_cases hn : i = n
          · subst hn; simp; rw [Array.getElem?_eq_getElem (by omega)]; simp; omega
          · simp [hn]
        simp only [ObjR, e1, m1, m2, List.map_set]
        exact ⟨k3.1.set i (.plain rfl), k3.2.set i hv⟩
      obtain ⟨R', E'⟩ := R.setNB ho rfl (o1 := .map _) rfl (fun r q => by cases q) hx hO
      refine ⟨_, ?_, R', E'⟩
      simp only [Sem.run_bind, run_findKey hs h4, Result.andThen_ok, hkey, hstay, run_setMap _ k2]
  · rename_i hf
    cases hl
    rcases aFind_sound k3.1 k3.2 hf with ⟨_, h4⟩ | ⟨j, u, u', h3, _⟩
    · have hO : ObjR G (.map (es ++ [(.string s, v)])) (.map (es'.push { key := .string s, val := v', born := c }) (c + 1)) := by
        simp only [ObjR, List.map_append, List.map_cons, List.map_nil, Array.toList_push]
        exact ⟨k3.1.append (VL.cons (.plain rfl) (VL.nil G)), k3.2.append (VL.cons hv (VL.nil G))⟩
      obtain ⟨R', E'⟩ := R.setNB ho rfl (o1 := .map _) rfl (fun r q => by cases q) hx hO
      refine ⟨_, ?_, R', E'⟩
      simp only [Sem.run_bind, run_findKey hs h4, Result.andThen_ok, run_setMap _ k2]
    · cases h3

def aDelete (P : Program) (h : Heap) (t : TypeId) (m k : Value) : Option Heap :=
  match P.underlying t, k with
  | some (.map kt _), .string s => if isStrT P kt = true then
      (match m with
      | .map none => some h
      | .map (some id) => match h[id]? with
        | some (.map es) => match aFind s es 0 with
          | some (some (i, _)) => some (h.set id (.map (es.eraseIdx i)))
          | some none => some (h.set id (.map es))
          | none => none
        | _ => none
      | _ => none) else none
  | _, _ => none

theorem aDelete_sound {P : Program} {G : Gh} {h h' : Heap} {w : World} (R : Rel P G h w.heap) {t kt₀ ty : TypeId} {m k m' k' : Value} (hl : aDelete P h t m k = some h') (hm : VR G m m') (hk : VR G k k') :
    ∃ w', (Builtin.delete_ #[t, kt₀] ty #[m', k']).run P w = .ok (.tuple #[]) w' ∧ Rel P G h' w'.heap ∧ EvW G h w G h' w' := by
  unfold aDelete at hl
  split at hl <;> (try (cases hl; done))
  rename_i kt el s hu
  split at hl <;> (try (cases hl; done))
  rename_i hs
  have hs := isStrT_spec hs
  have ek := hk.of_plainAtom rfl; subst ek
  have hck : ∀ b w, (Instr.checkKey b 10000 kt (.string s)).run P w = .ok () w := fun b w => by rw [show (10000 : Nat) = 9999 + 1 from rfl, run_checkKey hs]
  split at hl <;> (try (cases hl; done))
  · cases hl
    rcases hm.map_inv with ⟨_, rfl⟩ | ⟨id', x, h1, _⟩
    · exact ⟨w, by simp [Builtin.delete_, run_underlying hu, hck], R, EvW.refl _ _ _⟩
    · cases h1
  · rename_i id
    rcases hm.map_inv with ⟨h1, _⟩ | ⟨id', x, h1, hx, rfl⟩
    · cases h1
    cases h1
    split at hl <;> (try (cases hl; done))
    rename_i es ho
    obtain ⟨x', o', k1, k2, k3⟩ := R.obj id _ ho rfl
    rw [hx] at k1; cases k1
    cases o' <;> simp only [ObjR] at k3
    rename_i es' c
    split at hl <;> (try (cases hl; done))
    · rename_i i v₀ hf
      cases hl
      rcases aFind_sound k3.1 k3.2 hf with ⟨h3, _⟩ | ⟨j, u, u', h3, h4, h5⟩
      · cases h3
      · cases h3
        have hO : ObjR G (.map (es.eraseIdx i)) (.map (es'.eraseIdxIfInBounds i) c) := by
          have e1 : (es'.eraseIdxIfInBounds i).toList = es'.toList.eraseIdx i := by simp
          have emap : ∀ {α β : Type} (f : α → β) (l : List α) (i : Nat), (l.eraseIdx i).map f = (l.map f).eraseIdx i := by
            intro α β f l
            induction l with
            | nil => intro i; simp
            | cons a l ih => intro i; cases i <;> simp [ih]
          simp only [ObjR, e1, emap]
          exact ⟨k3.1.eraseIdx i, k3.2.eraseIdx i⟩
        obtain ⟨R', E'⟩ := R.setNB ho rfl (o1 := .map _) rfl (fun r q => by cases q) hx hO
        refine ⟨_, ?_, R', E'⟩
        simp [Builtin.delete_, run_underlying hu, run_getMap k2, hck, run_findKey hs h4, run_setMap _ k2]
    · rename_i hf
      cases hl
      rcases aFind_sound k3.1 k3.2 hf with ⟨_, h4⟩ | ⟨j, u, u', h3, _⟩
      · have hO : ObjR G (.map es) (.map es' c) := k3
        obtain ⟨R', E'⟩ := R.setNB ho rfl (o1 := .map _) rfl (fun r q => by cases q) hx hO
        refine ⟨_, ?_, R', E'⟩
        simp [Builtin.delete_, run_underlying hu, run_getMap k2, hck, run_findKey hs h4, run_setMap _ k2]
      · cases h3

theorem aMakeMap_sound {P : Program} {G : Gh} {h : Heap} {w : World} (R : Rel P G h w.heap) (t : TypeId) :
    ∃ G' w' v', (Instr.makeMap t none).run P w = .ok v' w' ∧ Rel P G' (h ++ [.map []]) w'.heap ∧ EvW G h w G' (h ++ [.map []]) w' ∧ VR G' (.map (some h.length)) v' := by
  obtain ⟨R', E'⟩ := R.addNB (o1 := .map []) rfl (O1 := .map #[] 0) (by simp only [ObjR]; exact ⟨VL.nil _, VL.nil _⟩)
  refine ⟨_, _, .map (some w.heap.size), ?_, R', E', .map (gput_same _ _ _ _)⟩
  simp [Instr.makeMap, run_newObj_alloc]

/-- A range over a string begins. -/
def aRangeS (P : Program) (h : Heap) (t : TypeId) (x : Value) : Option (Value × Heap) := if isStrT P t = true then (match x with
  | .string s => some (.pointer (some ⟨h.length, 0, some 0⟩), h ++ [.siter s 0])
  | _ => none) else none

theorem aRangeS_sound {P : Program} {G : Gh} {h h' : Heap} {w : World} (R : Rel P G h w.heap) {t : TypeId} {x x' v : Value} (hl : aRangeS P h t x = some (v, h')) (hx : VR G x x') :
    ∃ G' w' v', (Instr.range t x').run P w = .ok v' w' ∧ Rel P G' h' w'.heap ∧ EvW G h w G' h' w' ∧ VR G' v v' := by
  unfold aRangeS at hl
  split at hl <;> (try (cases hl; done))
  rename_i hs
  have hs := isStrT_spec hs
  split at hl <;> (try (cases hl; done))
  rename_i s
  cases hl
  have ex := hx.of_plainAtom rfl; subst ex
  obtain ⟨R', E'⟩ := R.addNB (o1 := .siter s 0) rfl (O1 := .stringIter s 0) ⟨rfl, rfl⟩
  refine ⟨_, _, .pointer (some ⟨w.heap.size, 0, none⟩), ?_, R', E', ?_⟩
  · simp [Instr.range, run_underlying hs, run_newObj_alloc]
  · have := VR.ptr (off := 0) (gput_same G h.length 0 ⟨w.heap.size, 0, 0, 0⟩)
    simpa using this

def aNextS (h : Heap) (x : Value) : Option (Value × Heap) := match x with
  | .pointer (some ⟨id, 0, some 0⟩) => match h[id]? with
    | some (.siter s pos) => if pos < s.size then some (.tuple #[.bool true, .int .i64 pos, .int .i32 (Utf8.decode s pos).1], h.set id (.siter s (pos + (Utf8.decode s pos).2))) else some (.tuple #[.bool false], h)
    | _ => none
  | _ => none

theorem aNextS_sound {P : Program} {G : Gh} {h h' : Heap} {w : World} (R : Rel P G h w.heap) {ty : TypeId} {x x' v : Value} (hl : aNextS h x = some (v, h')) (hx : VR G x x') :
    ∃ w', (Instr.next x' true ty).run P w = .ok v w' ∧ Rel P G h' w'.heap ∧ EvW G h w G h' w' ∧ VR G v v := by
  unfold aNextS at hl
  split at hl <;> (try (cases hl; done))
  rename_i id
  split at hl <;> (try (cases hl; done))
  rename_i s pos ho
  cases hx with
  | plain hp => simp [plainAtom] at hp
  | ptr hg =>
    rename_i x
    obtain ⟨x', o', k1, k2, k3⟩ := R.obj id _ ho rfl
    rw [hg] at k1; cases k1
    cases o' <;> simp only [ObjR] at k3
    rename_i s' pos'
    obtain ⟨rfl, rfl⟩ := k3
    have hd : x.d = 0 := by
      obtain ⟨o, h1, h2⟩ := R.dom _ _ _ hg
      rw [ho] at h1; cases h1
      exact h2.2
    split at hl
    · rename_i hlt
      cases hl
      obtain ⟨R', E'⟩ := R.setNB ho rfl (o1 := .siter s' (pos' + (Utf8.decode s' pos').2)) rfl (fun r q => by cases q) hg (O1 := .stringIter s' (pos' + (Utf8.decode s' pos').2)) ⟨rfl, rfl⟩
      refine ⟨_, ?_, R', E', ?_⟩
      · simp [Instr.next, hd, run_getIter k2, hlt, run_setIter _ k2, goInt]
      · obtain ⟨a1, a2⟩ := arrays_of_vl (G := G) (xs := #[.bool true, .int .i64 pos', .int .i32 (Utf8.decode s' pos').1]) (ys := #[.bool true, .int .i64 pos', .int .i32 (Utf8.decode s' pos').1]) (VL.cons (.plain rfl) (VL.cons (.plain rfl) (VL.cons (.plain rfl) (VL.nil G))))
        exact .tuple a1 a2
    · rename_i hlt
      cases hl
      refine ⟨w, ?_, R, EvW.refl _ _ _, ?_⟩
      · simp [Instr.next, hd, run_getIter k2, hlt]
      · obtain ⟨a1, a2⟩ := arrays_of_vl (G := G) (xs := #[.bool false]) (ys := #[.bool false]) (VL.cons (.plain rfl) (VL.nil G))
        exact .tuple a1 a2

def isIfaceT (P : Program) (t : TypeId) : Bool := match P.underlying t with | some (.interface _) => true | _ => false

def aAssert (P : Program) (x : Value) (asserted : TypeId) (ok : Bool) : Option Value := match x with
  | .iface t v => if t = asserted ∧ (P.underlying asserted).isSome = true ∧ isIfaceT P asserted = false then some (if ok = true then .tuple #[v, .bool true] else v) else none
  | _ => none

theorem aAssert_sound {P : Program} {G : Gh} {x x' v : Value} {xt asserted : TypeId} {ok : Bool} (hl : aAssert P x asserted ok = some v) (hx : VR G x x') :
    ∃ v', (∀ w, (Instr.typeAssert x' xt asserted ok).run P w = .ok v' w) ∧ VR G v v' := by
  unfold aAssert at hl
  split at hl <;> (try (cases hl; done))
  rename_i t u
  split at hl <;> (try (cases hl; done))
  rename_i hc
  obtain ⟨rfl, h1, h2⟩ := hc
  cases hl
  cases hx with
  | plain hp => simp [plainAtom] at hp
  | iface hv =>
    rename_i u'
    obtain ⟨d, hd⟩ := Option.isSome_iff_exists.1 h1
    refine ⟨if ok = true then .tuple #[u', .bool true] else u', fun w => ?_, ?_⟩
    · unfold isIfaceT at h2
      rw [hd] at h2
      cases d <;> first | (simp at h2; done) | simp [Instr.typeAssert, run_underlying hd]
    · cases ok
      · simpa using hv
      · simpa using hv.pair (.plain rfl)
end Go.Am
