/- The operations that ask nothing of memory, third part, and all of them together. -/
import Derived.Test.YtodmfjhjaegoeaaGreatDoorAmPure2
set_option linter.unusedVariables false
set_option linter.unusedSimpArgs false
namespace Go.Am

theorem add_addr (cb o n : Nat) : (⟨cb, o, none⟩ : Addr).add n = ⟨cb, o + n, none⟩ := by
  unfold Addr.add; split <;> simp_all

/-! ### Places -/
def aFieldAddr (P : Program) (s : TypeId) (x : Value) (f : Nat) : Option Value :=
  match P.underlying s, x with
  | some (.struct fields), .pointer (some ⟨id, off, some e⟩) => match fields[f]? with
    | some fd => if P.cellsOf fd.type = 0 then none else some (.pointer (some ⟨id, off + fd.offset, some e⟩))
    | none => none
  | _, _ => none

theorem info_of_cells {P : Program} {t : TypeId} (h : P.cellsOf t ≠ 0) : (P.info? t).isSome = true := by
  unfold Program.cellsOf at h
  cases hi : P.info? t with
  | none => simp [hi] at h
  | some i => rfl

theorem aFieldAddr_sound {P : Program} {G : Gh} {s : TypeId} {x x' r : Value} {f : Nat} (h : aFieldAddr P s x f = some r) (hx : VR G x x') :
    ∃ r', (∀ w, (Instr.fieldAt s x' f).run P w = .ok r' w) ∧ VR G r r' := by
  unfold aFieldAddr at h
  split at h <;> (try (cases h; done))
  rename_i fields id off e hu
  split at h <;> (try (cases h; done))
  rename_i fd hf
  split at h
  · cases h
  rename_i hc
  simp only [Option.some.injEq] at h; subst h
  cases hx with
  | plain hp => simp [plainAtom] at hp
  | ptr hg =>
    rename_i x
    refine ⟨.pointer (some ⟨x.cb, x.d + (off + fd.offset), none⟩), fun w => ?_, .ptr hg⟩
    have hz := run_sizeOf (info_of_cells hc)
    simp [Instr.fieldAt, run_underlying hu, hf, Instr.sureAddr, fieldPlace, hz, hc, add_addr, Nat.add_assoc]

def aIndexAddr (P : Program) (t : TypeId) (x i : Value) : Option Value :=
  match P.underlying t, x, i with
  | some (.array n el), .pointer (some ⟨id, off, some e⟩), .int _ i =>
    if P.cellsOf el = 0 then none else if 0 ≤ i ∧ i < n then some (.pointer (some ⟨id, off + i.toNat * P.cellsOf el, some e⟩)) else none
  | some (.slice el), .slice (some ⟨id, off, some e⟩) n _, .int _ i =>
    if P.cellsOf el = 0 then none else if 0 ≤ i ∧ i < n then some (.pointer (some ⟨id, off + i.toNat * P.cellsOf el, some e⟩)) else none
  | _, _, _ => none

theorem aIndexAddr_sound {P : Program} {G : Gh} {t : TypeId} {x x' i i' r : Value} (h : aIndexAddr P t x i = some r) (hx : VR G x x') (hi : VR G i i') :
    ∃ r', (∀ w, (Instr.indexAt t x' i').run P w = .ok r' w) ∧ VR G r r' := by
  unfold aIndexAddr at h
  split at h <;> (try (cases h; done))
  · rename_i n el id off e k i hu
    have ei := hi.of_plainAtom rfl; subst ei
    split at h
    · cases h
    rename_i hc
    split at h
    · rename_i hb
      simp only [Option.some.injEq] at h; subst h
      cases hx with
      | plain hp => simp [plainAtom] at hp
      | ptr hg =>
        rename_i x
        refine ⟨.pointer (some ⟨x.cb, x.d + (off + i.toNat * P.cellsOf el), none⟩), fun w => ?_, .ptr hg⟩
        have hz := run_sizeOf (info_of_cells hc)
        simp [Instr.indexAt, run_underlying hu, asIntOf, Instr.sureAddr, hz, hb, add_addr, Nat.add_assoc]
    · cases h
  · rename_i el id off e n c k i hu
    have ei := hi.of_plainAtom rfl; subst ei
    split at h
    · cases h
    rename_i hc
    split at h
    · rename_i hb
      simp only [Option.some.injEq] at h; subst h
      cases hx with
      | plain hp => simp [plainAtom] at hp
      | slice hg q1 q2 q3 =>
        rename_i x capC
        refine ⟨.pointer (some ⟨x.cb, x.d + (off + i.toNat * P.cellsOf el), none⟩), fun w => ?_, .ptr hg⟩
        have hz := run_sizeOf (info_of_cells hc)
        simp [Instr.indexAt, run_underlying hu, asIntOf, hz, hb, add_addr, Nat.add_assoc]
    · cases h

/-! ### Parts of values -/
def isAggT (P : Program) (t : TypeId) : Bool := match P.underlying t with | some (.struct _) => true | some (.array _ _) => true | _ => false

theorem run_isAgg {P : Program} {t : TypeId} (h : (P.underlying t).isSome = true) (w : World) : (isAgg t).run P w = .ok (isAggT P t) w := by
  obtain ⟨d, hd⟩ := Option.isSome_iff_exists.1 h
  cases d <;> simp [isAgg, run_underlying hd, isAggT, hd]

def aPart (P : Program) (t : TypeId) (cs : List Value) (off : Nat) : Option Value :=
  if (P.underlying t).isSome = true ∧ (P.info? t).isSome = true then
    if isAggT P t = true then (if off + P.cellsOf t ≤ cs.length then some (.agg ((cs.drop off).take (P.cellsOf t)).toArray) else none)
    else (if off < cs.length then some (cs.getD off undef) else none)
  else none

theorem VL.get {G : Gh} {xs ys : List Value} (h : VL G xs ys) {i : Nat} (hi : i < xs.length) : ∃ y, ys[i]? = some y ∧ VR G (xs.getD i Go.undef) y := by
  have hy : i < ys.length := h.1 ▸ hi
  refine ⟨ys[i], List.getElem?_eq_getElem hy, ?_⟩
  have := h.2 i hi
  simpa [List.getD_eq_getElem?_getD, hy] using this

theorem VL.drop {G : Gh} {xs ys : List Value} (h : VL G xs ys) (n : Nat) : VL G (xs.drop n) (ys.drop n) :=
  ⟨by simp [h.1], fun i hi => by
    have h2 := h.2 (n + i) (by simp at hi; omega)
    simpa [List.getD_eq_getElem?_getD] using h2⟩
theorem VL.take {G : Gh} {xs ys : List Value} (h : VL G xs ys) (n : Nat) : VL G (xs.take n) (ys.take n) :=
  ⟨by simp [h.1], fun i hi => by
    have hn : i < n := by simp at hi; omega
    have h2 := h.2 i (by simp at hi; omega)
    simpa [List.getD_eq_getElem?_getD, List.getElem?_take, hn] using h2⟩

theorem VR.agg_of {G : Gh} {xs : List Value} {ys : List Value} (h : VL G xs ys) (h0 : ∀ i, i < xs.length → (xs.getD i Go.undef).oneCell = true) : VR G (.agg xs.toArray) (.agg ys.toArray) := by
  obtain ⟨a, b⟩ := arrays_of_vl (xs := xs.toArray) (ys := ys.toArray) (by simpa using h)
  exact .agg a (fun i hi => by have := h0 i (by simpa using hi); simpa [Array.getD_eq_getD_getElem?, List.getD_eq_getElem?_getD] using this) b

theorem getD_drop_take {xs : List Value} {o n i : Nat} (hi : i < n) : ((xs.drop o).take n).getD i Go.undef = xs.getD (o + i) Go.undef := by
  simp [List.getD_eq_getElem?_getD, hi]

theorem aPart_sound {P : Program} {G : Gh} {t : TypeId} {cs : List Value} {ys : Array Value} {off : Nat} {r : Value} (h : aPart P t cs off = some r) (hc : VL G cs ys.toList)
    (h0 : ∀ i, i < cs.length → (cs.getD i Go.undef).oneCell = true) : ∃ r', (∀ w, (part t ys off).run P w = .ok r' w) ∧ VR G r r' := by
  unfold aPart at h
  split at h
  rename_i hi
  split at h
  · rename_i ha
    split at h
    · rename_i hle
      simp only [Option.some.injEq] at h; subst h
      have hv := (hc.drop off).take (P.cellsOf t)
      refine ⟨.agg ((ys.toList.drop off).take (P.cellsOf t)).toArray, fun w => ?_, VR.agg_of hv (fun i hi => ?_)⟩
      · simp only [part, Sem.run_bind, run_isAgg hi.1, Result.andThen_ok, ha, if_true, run_sizeOf hi.2, Sem.run_pure]
        congr 2
        apply Array.toList_inj.1
        simp [List.extract_eq_take_drop]
      · have hlt : i < P.cellsOf t := by simp at hi; omega
        rw [getD_drop_take hlt]
        exact h0 _ (by omega)
    · cases h
  · rename_i ha
    split at h
    · rename_i hlt
      simp only [Option.some.injEq] at h; subst h
      obtain ⟨y, hy, hv⟩ := hc.get hlt
      refine ⟨y, fun w => ?_, hv⟩
      have hy' : ys[off]? = some y := by rw [← Array.getElem?_toList]; exact hy
      simp [part, run_isAgg hi.1, ha, hy']
    · cases h
  · cases h

def aField (P : Program) (s : TypeId) (x : Value) (f : Nat) : Option Value :=
  match P.underlying s, x with
  | some (.struct fields), .agg cs => match fields[f]? with
    | some fd => aPart P fd.type cs.toList fd.offset
    | none => none
  | _, _ => none

theorem aField_sound {P : Program} {G : Gh} {s : TypeId} {x x' r : Value} {f : Nat} (h : aField P s x f = some r) (hx : VR G x x') :
    ∃ r', (∀ w, (Instr.field s x' f).run P w = .ok r' w) ∧ VR G r r' := by
  unfold aField at h
  split at h <;> (try (cases h; done))
  rename_i fields cs hu
  split at h <;> (try (cases h; done))
  rename_i fd hf
  obtain ⟨ys, rfl, hv, h0⟩ := hx.agg_list
  obtain ⟨r', hr, hvr⟩ := aPart_sound h hv (fun i hi => by have := h0 i (by simpa using hi); simpa [Array.getD_eq_getD_getElem?, List.getD_eq_getElem?_getD] using this)
  exact ⟨r', fun w => by simp [Instr.field, run_underlying hu, hf, asAgg, hr], hvr⟩

def aIndex (P : Program) (t : TypeId) (x i : Value) : Option Value :=
  match P.underlying t, x, i with
  | some (.array n el), .agg cs, .int _ i => if (P.info? el).isSome = true ∧ 0 ≤ i ∧ i < n then aPart P el cs.toList (i.toNat * P.cellsOf el) else none
  | some .string, .string s, .int _ i => if 0 ≤ i then (match s[i.toNat]? with | some b => some (.int .u8 b.toNat) | none => none) else none
  | _, _, _ => none

theorem aIndex_sound {P : Program} {G : Gh} {t : TypeId} {x x' i i' r : Value} (h : aIndex P t x i = some r) (hx : VR G x x') (hi : VR G i i') :
    ∃ r', (∀ w, (Instr.index t x' i').run P w = .ok r' w) ∧ VR G r r' := by
  unfold aIndex at h
  split at h <;> (try (cases h; done))
  · rename_i n el cs k i hu
    have ei := hi.of_plainAtom rfl; subst ei
    split at h <;> (try (cases h; done))
    rename_i hb
    obtain ⟨ys, rfl, hv, h0⟩ := hx.agg_list
    obtain ⟨r', hr, hvr⟩ := aPart_sound h hv (fun i hi => by have := h0 i (by simpa using hi); simpa [Array.getD_eq_getD_getElem?, List.getD_eq_getElem?_getD] using this)
    exact ⟨r', fun w => by simp [Instr.index, run_underlying hu, asIntOf, hb.2, run_sizeOf hb.1, hr], hvr⟩
  · rename_i s k i hu
    have ei := hi.of_plainAtom rfl; subst ei
    have ex := hx.of_plainAtom rfl; subst ex
    split at h <;> (try (cases h; done))
    rename_i h0
    split at h <;> (try (cases h; done))
    rename_i b hb
    simp only [Option.some.injEq] at h; subst h
    exact ⟨_, fun w => by simp [Instr.index, run_underlying hu, asIntOf, h0, hb], .plain rfl⟩

def aExtract (x : Value) (i : Nat) : Option Value :=
  match x with
  | .tuple vs => vs.toList[i]?
  | _ => none

theorem aExtract_sound {P : Program} {G : Gh} {x x' r : Value} {i : Nat} (h : aExtract x i = some r) (hx : VR G x x') :
    ∃ r', (∀ w, (Instr.extract x' i).run P w = .ok r' w) ∧ VR G r r' := by
  unfold aExtract at h
  split at h <;> (try (cases h; done))
  rename_i vs
  obtain ⟨ys, rfl, hv⟩ := hx.tuple_list
  obtain ⟨hlt, he⟩ := List.getElem?_eq_some_iff.1 h
  obtain ⟨y, hy, hvy⟩ := hv.get hlt
  have e2 : vs.toList.getD i Go.undef = r := by rw [List.getD_eq_getElem?_getD, h]; rfl
  rw [e2] at hvy
  rw [Array.getElem?_toList] at hy
  exact ⟨y, fun w => by simp [Instr.extract, hy], hvy⟩

/-! ### Structs and arrays that are built -/
def vcells : Value → List Value
  | .agg cs => cs.toList
  | v => [v]

def aFill (place : Nat → Option (Nat × Nat)) (cells : List Value) : List (Nat × Value) → Option (List Value)
  | [] => some cells
  | (i, v) :: rest => match place i with
    | none => none
    | some (off, size) =>
      if isTup v = true ∨ (vcells v).length ≠ size ∨ off + (vcells v).length > cells.length then none
      else aFill place (cells.take off ++ (vcells v ++ cells.drop (off + (vcells v).length))) rest

theorem vcells_sound {G : Gh} {v v' : Value} (h : VR G v v') (ht : isTup v = false) : VL G (vcells v) v'.cells.toList ∧ ∀ i, i < (vcells v).length → ((vcells v).getD i Go.undef).oneCell = true := by
  have one : ∀ {u u' : Value}, VR G u u' → u.oneCell = true → VL G [u] [u'] ∧ ∀ i, i < [u].length → ([u].getD i Go.undef).oneCell = true := fun hu ho =>
    ⟨VL.cons hu (VL.nil G), fun i hi => by have : i = 0 := by simpa using hi
                                           subst this; simpa using ho⟩
  cases h with
  | plain hp =>
    cases v <;> simp [plainAtom] at hp <;> exact one (.plain (by simp [plainAtom, *])) rfl
  | agg h1 h0 h2 =>
    refine ⟨vl_of_arrays h1 h2, fun i hi => ?_⟩
    have := h0 i (by simpa [vcells] using hi)
    simpa [vcells, Array.getD_eq_getD_getElem?, List.getD_eq_getElem?_getD] using this
  | tuple _ _ => simp [isTup] at ht
  | top hq =>
    have e : v'.cells.toList = [v'] := by cases v' <;> first | rfl | simp [refLike] at hq
    have := one (.top (G := G) hq) rfl
    rw [e]
    exact this
  | ptr hg => exact one (.ptr hg) rfl
  | slice hg a b c => exact one (.slice hg a b c) rfl
  | empty => exact one .empty rfl
  | iface hv => exact one (.iface hv) rfl
  | func a b c d => exact one (.func a b c d) rfl
  | yield hg => exact one (.yield hg) rfl
  | map hg => exact one (.map hg) rfl

theorem foldl_set (vs : List Value) : ∀ (off k : Nat) (cs : List Value), off + k + vs.length ≤ cs.length →
    (vs.zipIdx k).foldl (fun (cs : List Value) (x : Value × Nat) => cs.set (off + x.2) x.1) cs = cs.take (off + k) ++ (vs ++ cs.drop (off + k + vs.length)) := by
  induction vs with
  | nil => intro off k cs _; simp
  | cons v vs ih =>
    intro off k cs hle
    simp only [List.length_cons] at hle
    simp only [List.zipIdx_cons, List.foldl_cons]
    rw [ih off (k + 1) _ (by simp; omega)]
    have e1 : (cs.set (off + k) v).take (off + (k + 1)) = cs.take (off + k) ++ [v] := by
      rw [List.set_eq_take_append_cons_drop, if_pos (by omega), List.take_append]
      simp only [List.length_take, Nat.min_eq_left (show off + k ≤ cs.length by omega), List.take_take, show off + (k + 1) - (off + k) = 1 by omega, List.take_succ_cons, List.take_zero]
      rw [Nat.min_eq_right (by omega)]
    have e2 : (cs.set (off + k) v).drop (off + (k + 1) + vs.length) = cs.drop (off + k + (vs.length + 1)) := by
      rw [List.drop_set]
      rw [if_pos (by omega)]
      congr 1
      omega
    rw [e1, e2]
    simp

theorem foldl_put (vs : List Value) (off k : Nat) : ∀ (cs : Array Value),
    ((vs.zipIdx k).foldl (fun (cs : Array Value) (x : Value × Nat) => cs.setIfInBounds (off + x.2) x.1) cs).toList =
      (vs.zipIdx k).foldl (fun (cs : List Value) (x : Value × Nat) => cs.set (off + x.2) x.1) cs.toList := by
  generalize vs.zipIdx k = l
  induction l with
  | nil => intro cs; rfl
  | cons x l ih => intro cs; simp only [List.foldl_cons]; rw [ih]; simp

theorem foldl_cells (vs : Array Value) (off : Nat) (cs : Array Value) (hle : off + vs.size ≤ cs.size) :
    (vs.zipIdx.foldl (fun (cs : Array Value) (x : Value × Nat) => cs.setIfInBounds (off + x.2) x.1) cs).toList = cs.toList.take off ++ (vs.toList ++ cs.toList.drop (off + vs.size)) := by
  have h := foldl_set vs.toList off 0 cs.toList (by simpa using hle)
  have h2 := foldl_put vs.toList off 0 cs
  rw [h] at h2
  simp only [Nat.add_zero, Array.length_toList] at h2
  rw [← h2, ← Array.foldl_toList, Array.toList_zipIdx]

theorem aFill_sound {G : Gh} {place : Nat → Option (Nat × Nat)} : ∀ (parts parts' : List (Nat × Value)) (cells : List Value) (cells' : Array Value) (r : List Value),
    parts'.map (·.1) = parts.map (·.1) → VL G (parts.map (·.2)) (parts'.map (·.2)) → VL G cells cells'.toList → (∀ i, i < cells.length → (cells.getD i Go.undef).oneCell = true) →
    aFill place cells parts = some r → ∃ r', Instr.fill place cells' parts' = some r' ∧ VL G r r'.toList ∧ (∀ i, i < r.length → (r.getD i Go.undef).oneCell = true)
  | [], parts', cells, cells', r, hp, _, hc, h0, h => by
    cases parts' with
    | nil => simp only [aFill, Option.some.injEq] at h; subst h; exact ⟨cells', rfl, hc, h0⟩
    | cons _ _ => simp at hp
  | (i, v) :: rest, parts', cells, cells', r, hp, hv, hc, h0, h => by
    cases parts' with
    | nil => simp at hp
    | cons p rest' =>
      obtain ⟨i', v'⟩ := p
      simp only [List.map_cons, List.cons.injEq] at hp
      obtain ⟨rfl, hp⟩ := hp
      simp only [List.map_cons] at hv
      obtain ⟨y, zs, hy, hvy, hvs⟩ := hv.head
      simp only [List.cons.injEq] at hy
      obtain ⟨rfl, rfl⟩ := hy
      simp only [aFill] at h
      cases hpl : place i' with
      | none => simp [hpl] at h
      | some q =>
        obtain ⟨off, size⟩ := q
        simp only [hpl] at h
        split at h
        · cases h
        rename_i hcond
        have htup : isTup v = false := by cases hq : isTup v <;> simp_all
        obtain ⟨hvc, hone⟩ := vcells_sound hvy htup
        have hl : v'.cells.size = (vcells v).length := by have := hvc.1; simp at this; omega
        have hl2 : cells'.size = cells.length := by have := hc.1; simp at this; omega
        have hsz : (vcells v).length = size := by
          by_cases hq : (vcells v).length = size
          · exact hq
          · exact absurd (.inr (.inl hq)) hcond
        have hle : off + (vcells v).length ≤ cells.length := by
          by_cases hq : off + (vcells v).length > cells.length
          · exact absurd (.inr (.inr hq)) hcond
          · omega
        have hf := foldl_cells v'.cells off cells' (by omega)
        have hnew : VL G (cells.take off ++ (vcells v ++ cells.drop (off + (vcells v).length)))
            (v'.cells.zipIdx.foldl (fun (cs : Array Value) (x : Value × Nat) => cs.setIfInBounds (off + x.2) x.1) cells').toList := by
          rw [hf, hl]
          exact (hc.take off).append (hvc.append (hc.drop _))
        have hone2 : ∀ j, j < (cells.take off ++ (vcells v ++ cells.drop (off + (vcells v).length))).length →
            ((cells.take off ++ (vcells v ++ cells.drop (off + (vcells v).length))).getD j Go.undef).oneCell = true := by
          intro j hj
          simp only [List.length_append, List.length_take, List.length_drop] at hj
          rw [List.getD_eq_getElem?_getD]
          by_cases h1 : j < off
          · rw [List.getElem?_append_left (by simp; omega), List.getElem?_take, if_pos h1, ← List.getD_eq_getElem?_getD]
            exact h0 j (by omega)
          · rw [List.getElem?_append_right (by simp; omega)]
            simp only [List.length_take]
            rw [Nat.min_eq_left (by omega)]
            by_cases h2 : j - off < (vcells v).length
            · rw [List.getElem?_append_left h2, ← List.getD_eq_getElem?_getD]; exact hone _ h2
            · rw [List.getElem?_append_right (by omega), List.getElem?_drop, ← List.getD_eq_getElem?_getD]
              exact h0 _ (by omega)
        obtain ⟨r', e1, e2, e3⟩ := aFill_sound rest rest' _ _ r hp hvs hnew hone2 h
        refine ⟨r', ?_, e2, e3⟩
        simp only [Instr.fill, hpl]
        have hnc : ¬ ((decide (v'.cells.size ≠ size) || decide (off + v'.cells.size > cells'.size)) = true) := by simp; omega
        rw [if_neg (by simpa using hnc)]
        exact e1

/-- The zero value of a type, if it has nothing of memory in it. -/
def aZero (P : Program) (t : TypeId) : Option Value :=
  match (P.info? t).bind (·.zero) with
  | some z => if plainC z = true then some z else none
  | none => none

theorem aZero_sound {P : Program} {t : TypeId} {z : Value} (h : aZero P t = some z) : (∀ w, (zeroValue t).run P w = .ok z w) ∧ plainC z = true := by
  unfold aZero at h
  split at h <;> (try (cases h; done))
  rename_i z' hz
  split at h <;> (try (cases h; done))
  simp only [Option.some.injEq] at h; subst h
  refine ⟨fun w => ?_, ‹_›⟩
  cases hi : P.info? t with
  | none => simp [hi] at hz
  | some i =>
    simp only [hi, Option.bind_some] at hz
    simp [zeroValue, typeInfo, hi, hz]

theorem plainC_cells {z : Value} (G : Gh) (h : plainC z = true) : VL G (vcells z) z.cells.toList ∧ ∀ i, i < (vcells z).length → ((vcells z).getD i Go.undef).oneCell = true :=
  vcells_sound (VR.plainC h) (by cases z <;> simp [plainC, plainAtom, isTup] at h ⊢)

def aParts (fr : Nat → Value) : List (Nat × Operand) → Option (List (Nat × Value))
  | [] => some []
  | (i, x) :: r => match ev fr x, aParts fr r with
    | some v, some vs => some ((i, v) :: vs)
    | _, _ => none

theorem aParts_sound {G : Gh} {N : Nat} {fr : Nat → Value} {a : Act} (hf : FR G N fr a.tmps) : ∀ {ps : List (Nat × Operand)} {vs : List (Nat × Value)}, (ps.all fun p => inN N p.2) = true → aParts fr ps = some vs →
    (ps.map fun p => (p.1, a.eval p.2)).map (·.1) = vs.map (·.1) ∧ VL G (vs.map (·.2)) ((ps.map fun p => (p.1, a.eval p.2)).map (·.2))
  | [], vs, _, h => by simp only [aParts, Option.some.injEq] at h; subst h; exact ⟨rfl, VL.nil G⟩
  | (i, x) :: ps, vs, hn, h => by
    simp only [List.all_cons, Bool.and_eq_true] at hn
    simp only [aParts] at h
    cases hx : ev fr x with
    | none => simp [hx] at h
    | some v =>
      cases hxs : aParts fr ps with
      | none => simp [hx, hxs] at h
      | some ws =>
        simp only [hx, hxs, Option.some.injEq] at h; subst h
        obtain ⟨h1, h2⟩ := aParts_sound hf hn.2 hxs
        exact ⟨by simp only [List.map_cons, h1], by simpa using VL.cons (ev_sound hf hn.1 hx) h2⟩

/-- A struct (an array) of parts. -/
def aBuild (P : Program) (t : TypeId) (parts : List (Nat × Value)) : Option Value :=
  match aZero P t, P.underlying t with
  | some z, some (.struct fields) =>
    if fields.all (fun f => (P.info? f.type).isSome) = true then
      (aFill (fun i => (fields.map fun f => (f.offset, P.cellsOf f.type))[i]?) (vcells z) parts).map fun cs => .agg cs.toArray
    else none
  | some z, some (.array _ el) =>
    if (P.info? el).isSome = true then (aFill (fun i => some (i * P.cellsOf el, P.cellsOf el)) (vcells z) parts).map fun cs => .agg cs.toArray else none
  | _, _ => none

theorem run_mapM_places {P : Program} {w : World} : ∀ (l : List Field), (l.all fun f => (P.info? f.type).isSome) = true →
    (l.mapM (fun f => do pure (f.offset, ← sizeOf f.type) : Field → Sem (Nat × Nat))).run P w = .ok (l.map fun f => (f.offset, P.cellsOf f.type)) w
  | [], _ => by simp
  | f :: l, h => by
    simp only [List.all_cons, Bool.and_eq_true] at h
    simp only [List.mapM_cons, Sem.run_bind, run_sizeOf h.1, Result.andThen_ok, Sem.run_pure, run_mapM_places l h.2, List.map_cons]

theorem aBuild_sound {P : Program} {G : Gh} {t : TypeId} {parts parts' : List (Nat × Value)} {r : Value} (h : aBuild P t parts = some r)
    (hp : parts'.map (·.1) = parts.map (·.1)) (hv : VL G (parts.map (·.2)) (parts'.map (·.2))) :
    ∃ r', (∀ w, (Instr.build t parts'.toArray).run P w = .ok r' w) ∧ VR G r r' := by
  unfold aBuild at h
  split at h <;> (try (cases h; done))
  · rename_i z fields hz hu
    obtain ⟨hzr, hzp⟩ := aZero_sound hz
    obtain ⟨hvc, hone⟩ := plainC_cells G hzp
    split at h <;> (try (cases h; done))
    rename_i hall
    obtain ⟨cs, hcs, rfl⟩ := Option.map_eq_some_iff.1 h
    obtain ⟨cs', h1, h2, h3⟩ := aFill_sound parts parts' _ _ _ hp hv hvc hone hcs
    refine ⟨.agg cs', fun w => ?_, by simpa using VR.agg_of h2 h3⟩
    have hm : (fields.mapM (fun f => do pure (f.offset, ← sizeOf f.type) : Field → Sem (Nat × Nat))).run P w = .ok (fields.map fun f => (f.offset, P.cellsOf f.type)) w := by
      rw [Array.mapM_eq_mapM_toList]
      simp only [Sem.run_map, run_mapM_places fields.toList (by simpa using hall), Result.andThen_ok]
      congr 1
      apply Array.ext'
      simp
    simp only [Instr.build, Sem.run_bind, hzr, Result.andThen_ok, run_underlying hu, hm]
    simp only [h1]
    simp
  · rename_i z n el hz hu
    obtain ⟨hzr, hzp⟩ := aZero_sound hz
    obtain ⟨hvc, hone⟩ := plainC_cells G hzp
    split at h <;> (try (cases h; done))
    rename_i hel
    obtain ⟨cs, hcs, rfl⟩ := Option.map_eq_some_iff.1 h
    obtain ⟨cs', h1, h2, h3⟩ := aFill_sound parts parts' _ _ _ hp hv hvc hone hcs
    refine ⟨.agg cs', fun w => ?_, by simpa using VR.agg_of h2 h3⟩
    simp only [Instr.build, Sem.run_bind, hzr, Result.andThen_ok, run_underlying hu, run_sizeOf hel]
    simp only [h1]
    simp

/-! ### len, min, max, nil checks, interfaces, function values -/
def aLen (P : Program) (t : TypeId) (x : Value) : Option Value :=
  match P.underlying t, x with
  | some .string, .string s => some (.int .i64 s.size)
  | some (.slice _), .slice _ n _ => some (.int .i64 n)
  | some (.array n _), _ => some (.int .i64 n)
  | some (.pointer arr), _ => match P.underlying arr with
    | some (.array n _) => some (.int .i64 n)
    | _ => none
  | _, _ => none

theorem aLen_sound {P : Program} {G : Gh} {t ty : TypeId} {x x' r : Value} (h : aLen P t x = some r) (hx : VR G x x') : (∀ w, (Builtin.len_ #[t] ty #[x']).run P w = .ok r w) ∧ plainAtom r = true := by
  unfold aLen at h
  split at h <;> (try (cases h; done))
  · rename_i s hu
    have e := hx.of_plainAtom rfl; subst e
    simp only [Option.some.injEq] at h; subst h
    exact ⟨fun w => by simp [Builtin.len_, run_underlying hu, goInt], rfl⟩
  · rename_i el a n c hu
    simp only [Option.some.injEq] at h; subst h
    refine ⟨fun w => ?_, rfl⟩
    cases hx with
    | plain hp => simp [Builtin.len_, run_underlying hu, goInt]
    | slice _ _ _ _ => simp [Builtin.len_, run_underlying hu, goInt]
    | empty => simp [Builtin.len_, run_underlying hu, goInt]
  · rename_i n el hu
    simp only [Option.some.injEq] at h; subst h
    exact ⟨fun w => by simp [Builtin.len_, run_underlying hu, goInt], rfl⟩
  · rename_i arr hu
    split at h <;> (try (cases h; done))
    rename_i n el hu2
    simp only [Option.some.injEq] at h; subst h
    exact ⟨fun w => by simp [Builtin.len_, run_underlying hu, run_underlying hu2, goInt], rfl⟩

def aMM (mx : Bool) : Int → List Value → Option Int
  | x, [] => some x
  | x, .int _ y :: r => aMM mx (if mx then (if y > x then y else x) else (if y < x then y else x)) r
  | _, _ => none

def aMinMax (mx : Bool) : List Value → Option Value
  | .int k x :: r => (aMM mx x r).map fun z => .int k z
  | _ => none

theorem aMM_sound {P : Program} {G : Gh} {k : IntKind} (w : World) : ∀ (r r' : List Value) (x : Int) (z : Int), VL G r r' →
    (aMM true x r = some z → (r'.foldlM Builtin.max2 (.int k x)).run P w = .ok (.int k z) w) ∧ (aMM false x r = some z → (r'.foldlM Builtin.min2 (.int k x)).run P w = .ok (.int k z) w)
  | [], r', x, z, hv => by
    have := hv.of_nil; subst this
    constructor <;> intro h <;> simp only [aMM, Option.some.injEq] at h <;> subst h <;> rfl
  | v :: r, r', x, z, hv => by
    obtain ⟨y, zs, rfl, hy, hs⟩ := hv.head
    constructor <;> intro h
    · cases v <;> simp only [aMM, reduceCtorEq] at h
      rename_i k' b
      have e := hy.of_plainAtom rfl; subst e
      simp only [if_true] at h
      simp only [List.foldlM_cons, Sem.run_bind, Builtin.max2, Sem.run_pure, Result.andThen_ok]
      exact (aMM_sound w r zs _ z hs).1 h
    · cases v <;> simp only [aMM, reduceCtorEq] at h
      rename_i k' b
      have e := hy.of_plainAtom rfl; subst e
      simp only [if_false] at h
      simp only [List.foldlM_cons, Sem.run_bind, Builtin.min2, Sem.run_pure, Result.andThen_ok]
      exact (aMM_sound w r zs _ z hs).2 h

theorem aMinMax_sound {P : Program} {G : Gh} {mx : Bool} {xs : List Value} {xs' : Array Value} {r : Value} (h : aMinMax mx xs = some r) (hv : VL G xs xs'.toList) (as : Array TypeId) (ty : TypeId) :
    (∀ w, (if mx then Builtin.max_ as ty xs' else Builtin.min_ as ty xs').run P w = .ok r w) ∧ plainAtom r = true := by
  unfold aMinMax at h
  split at h <;> (try (cases h; done))
  rename_i k x rest
  obtain ⟨z, hz, rfl⟩ := Option.map_eq_some_iff.1 h
  obtain ⟨y, zs, hl, hy, hs⟩ := hv.head
  have e := hy.of_plainAtom rfl; subst e
  refine ⟨fun w => ?_, rfl⟩
  cases mx
  · simp only [Bool.false_eq_true, if_false, Builtin.min_, hl]; exact (aMM_sound w rest zs x z hs).2 hz
  · simp only [if_true, Builtin.max_, hl]; exact (aMM_sound w rest zs x z hs).1 hz

def aNilCheck : Value → Option Value
  | .pointer (some a) => some (.pointer (some a))
  | .func (.func f) x y => some (.func (.func f) x y)
  | .func (.yield l) x y => some (.func (.yield l) x y)
  | .iface t v => some (.iface t v)
  | _ => none

def aMakeIface (P : Program) (t : TypeId) (x : Value) : Option Value :=
  match P.underlying t with
  | some (.interface _) => none
  | some _ => some (.iface t x)
  | none => none

theorem aMakeIface_sound {P : Program} {G : Gh} {t : TypeId} {x x' r : Value} (h : aMakeIface P t x = some r) (hx : VR G x x') :
    (∀ w, (Instr.makeInterface t x').run P w = .ok (.iface t x') w) ∧ VR G r (.iface t x') := by
  unfold aMakeIface at h
  split at h <;> (try (cases h; done))
  rename_i d hn hu
  simp only [Option.some.injEq] at h; subst h
  refine ⟨fun w => ?_, .iface hx⟩
  simp only [Instr.makeInterface, Sem.run_bind, run_underlying hu, Result.andThen_ok]
  rfl

end Go.Am
