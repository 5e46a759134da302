/- What changes memory, third part: append, copy, a string's bytes; then all of it together. -/
import Derived.Test.YtodmfjhjaegoeaaGreatDoorAmEff2
import Derived.IntWalk
set_option linter.unusedVariables false
set_option linter.unusedSimpArgs false
namespace Go.Am
open Go.Lib

def bytesV (s : ByteArray) : List Value := s.data.toList.map fun b => .int .u8 b.toNat

theorem bytesV_length (s : ByteArray) : (bytesV s).length = s.size := by rw [bytesV, List.length_map]; rfl
theorem bytesV_atom (s : ByteArray) : ∀ v ∈ bytesV s, plainAtom v = true := by
  intro v hv
  obtain ⟨b, _, rfl⟩ := List.mem_map.1 hv
  rfl
theorem atoms_vl {G : Gh} {l : List Value} (h : ∀ v ∈ l, plainAtom v = true) : VL G l l :=
  ⟨rfl, fun i hi => .plain (h _ (by rw [List.getD_eq_getElem?_getD, List.getElem?_eq_getElem hi]; simp))⟩
theorem atom_one {v : Value} (h : plainAtom v = true) : v.oneCell = true := by cases v <;> simp [plainAtom, Value.oneCell] at h ⊢
theorem atoms_one {l : List Value} (h : ∀ v ∈ l, plainAtom v = true) : ∀ i, i < l.length → (l.getD i Go.undef).oneCell = true := fun i hi =>
  atom_one (h _ (by rw [List.getD_eq_getElem?_getD, List.getElem?_eq_getElem hi]; simp))

/-- []byte(s). -/
def aBytes (P : Program) (h : Heap) (s d : TypeId) (x : Value) : Option (Value × Heap) :=
  match P.underlying s, P.underlying d, x with
  | some _, some (.slice e), .string str =>
    if isByteT P e = true ∧ P.cellsOf e = 1 then some (.slice (some ⟨h.length, 0, some (bytesV str).length⟩) str.size (str.size + 1), aNew h (bytesV str) e) else none
  | _, _, _ => none

theorem grownCap_ge (w : World) (n o : Nat) (e : TypeId) : n ≤ grownCap w n o e := by
  unfold grownCap; simp [Question.cut]

theorem aBytes_sound {P : Program} {G : Gh} {h h' : Heap} {w : World} (R : Rel P G h w.heap) {s d : TypeId} {x x' v : Value} (hm : aBytes P h s d x = some (v, h')) (hx : VR G x x') :
    ∃ G' w' v', (convert s d x').run P w = .ok v' w' ∧ Rel P G' h' w'.heap ∧ EvW G h w G' h' w' ∧ VR G' v v' := by
  unfold aBytes at hm
  split at hm <;> (try (cases hm; done))
  rename_i u e str hs hd
  split at hm <;> (try (cases hm; done))
  rename_i hb
  simp only [Option.some.injEq, Prod.mk.injEq] at hm
  obtain ⟨rfl, rfl⟩ := hm
  have he : P.underlying e = some (.int .u8) := by
    have hb := hb.1
    unfold isByteT at hb
    split at hb
    · assumption
    · cases hb
  have ex := hx.of_plainAtom rfl; subst ex
  have hrun := run_convert_string_bytes (P := P) w s d e str hs hd he
  have hheap : (bytesWorld w e str).heap = w.heap.push (.cells (bytesCells w e str) e ((bytesCells w e str).size, (bytesCells w e str).size + 1)) := by
    apply Array.ext_getElem?
    intro i
    rw [Array.getElem?_push]
    by_cases h1 : i = w.heap.size
    · subst h1; rw [bytesWorld_at_new]; simp
    · rw [if_neg h1]
      by_cases h2 : i < w.heap.size
      · exact bytesWorld_at_old w e str i h2
      · rw [Array.getElem?_eq_none (by rw [bytesWorld_size]; omega), Array.getElem?_eq_none (by omega)]
  have hge := grownCap_ge w str.size 0 e
  have hsz : (bytesCells w e str).size = grownCap w str.size 0 e := by simp [bytesCells]; have : str.data.size = str.size := rfl; omega
  have hsd : str.data.size = str.size := rfl
  obtain ⟨R', E'⟩ := R.new (bytesV str) (bytesCells w e str) e ((bytesCells w e str).size, (bytesCells w e str).size + 1) (by rw [bytesV_length, hsz]; exact hge) (fun i hi => by
    rw [bytesV_length] at hi
    have hq : (bytesCells w e str).getD i Go.undef = (bytesV str).getD i Go.undef := by
      simp [bytesCells, bytesV, Array.getD_eq_getD_getElem?, List.getD_eq_getElem?_getD, Array.getElem?_append, hi, hsd]
    rw [hq]
    exact (atoms_vl (bytesV_atom str)).2 i (by rw [bytesV_length]; exact hi)) (atoms_one (bytesV_atom str)) (.inr (Nat.le_refl _))
  rw [← hheap] at R' E'
  refine ⟨_, _, _, hrun, R', ⟨E', rfl, rfl, rfl⟩, ?_⟩
  have := VR.slice (off := 0) (len := str.size) (capA := str.size + 1) (capC := grownCap w str.size 0 e) (gput_same G h.length (bytesV str).length ⟨w.heap.size, 0, (bytesCells w e str).size, P.cellsOf e⟩) hge (fun q => by omega) (fun _ => by simp [hsz, hb.2])
  simpa using this

/-! ### append -/
def appCells (h : Heap) (sz : Nat) : Value → Option (List Value × Nat)
  | .slice none _ _ => some ([], 0)
  | .slice (some a) n _ => if n = 0 then some ([], 0) else (rowAt h a (n * sz)).map fun cs => (cs, n)
  | .string s => if sz = 1 then some (bytesV s, s.size) else none
  | _ => none

def isSeqT (P : Program) (t : TypeId) : Bool := match P.underlying t with | some (.slice _) => true | some .string => true | _ => false

/-- An element type: its zero value has nothing of memory, and as many cells as it should. -/
def zeroOk (P : Program) (el : TypeId) : Bool := match aZero P el with
  | some z => (vcells z).length == P.cellsOf el && (P.cellsOf el != 0 && P.bytesOf el != 0)
  | none => false

theorem zeroOk_spec {P : Program} {el : TypeId} (h : zeroOk P el = true) : ∃ z i, aZero P el = some z ∧ P.info? el = some i ∧ i.zero = some z ∧ z.cells.size = i.size ∧ 0 < i.size ∧ 0 < i.bytes ∧ P.cellsOf el = i.size ∧ P.bytesOf el = i.bytes := by
  unfold zeroOk at h
  split at h <;> (try (cases h; done))
  rename_i z hz
  simp only [Bool.and_eq_true, beq_iff_eq, bne_iff_ne, ne_eq] at h
  obtain ⟨i, hi, hiz⟩ := aZero_info hz
  obtain ⟨q1, q2⟩ := bytes_of hi
  have hl := (plainC_cells (fun _ _ => none) (aZero_sound hz).2).1.1
  simp only [Array.length_toList] at hl
  exact ⟨z, i, hz, hi, hiz, by omega, by omega, by omega, q2, q1⟩

/-- What is appended: a slice's elements, a string's bytes, or (written 'make') so many zero values. -/
def appArg (P : Program) (h : Heap) (el xt : TypeId) (x : Value) : Option (List Value × Nat) :=
  if isSeqT P xt = true then appCells h (P.cellsOf el) x else
  match P.underlying xt, x, aZero P el with
  | some (.int _), .int _ m, some z => if 0 ≤ m ∧ m ≤ 1099511627776 ∧ m.toNat * P.bytesOf el ≤ 1099511627776 ∧ (vcells z).length = P.cellsOf el then some (zrow (vcells z) m.toNat, m.toNat) else none
  | _, _, _ => none

def aAppend (P : Program) (h : Heap) (st xt : TypeId) (s x : Value) : Option (Value × Heap) :=
  match P.underlying st with
  | some (.slice el) =>
    if (P.info? el).isSome = false then none else
    match appArg P h el xt x with
    | none => none
    | some (new, n) =>
      if n = 0 then (match s with
        | .slice a l c => some (.slice a l c, h)
        | _ => none)
      else if zeroOk P el = false then none
      else match s with
        | .slice none _ _ => if n * P.bytesOf el ≤ 1099511627776 then some (.slice (some ⟨h.length, 0, some new.length⟩) n (n + 1), aNew h new el) else none
        | .slice (some a) len cap =>
          if (len + n) * P.bytesOf el ≤ 1099511627776 then
            if cap = len then (match rowAt h a (len * P.cellsOf el) with
              | some old => some (.slice (some ⟨h.length, 0, some (old ++ new).length⟩) (len + n) (len + n + 1), aNew h (old ++ new) el)
              | none => none)
            else (match a.spot, h[a.block]? with
              | some e, some (.blk b) =>
                if b.own = true ∧ b.elem = el ∧ a.off = 0 ∧ e = b.cells.length ∧ len * P.cellsOf el = b.cells.length then
                  some (.slice (some ⟨a.block, 0, some (b.cells ++ new).length⟩) (len + n) (len + n + 1), h.set a.block (.blk ⟨b.cells ++ new, b.elem, b.lo, true⟩))
                else none
              | _, _ => none)
          else none
        | _ => none
  | _ => none

theorem appCells_sound {P : Program} {G : Gh} {h : Heap} {w : World} (R : Rel P G h w.heap) {sz n : Nat} {x x' : Value} {new : List Value} (ha : appCells h sz x = some (new, n)) (hx : VR G x x') :
    ∃ new' : Array Value, (∀ w', w'.heap = w.heap → (Builtin.lenOf x').run P w' = .ok n w' ∧ (Builtin.firstCells sz n x').run P w' = .ok new' w') ∧ VL G new new'.toList ∧ new.length = n * sz ∧
      (∀ i, i < new.length → (new.getD i Go.undef).oneCell = true) := by
  unfold appCells at ha
  split at ha <;> (try (cases ha; done))
  · simp only [Option.some.injEq, Prod.mk.injEq] at ha
    obtain ⟨rfl, rfl⟩ := ha
    cases hx with
    | plain hp =>
      simp only [plainAtom, Bool.and_eq_true, beq_iff_eq] at hp
      obtain ⟨rfl, rfl⟩ := hp
      exact ⟨#[], fun w' _ => ⟨by simp [Builtin.lenOf], by simp [Builtin.firstCells]⟩, VL.nil G, by simp, fun i hi => by simp at hi⟩
  · rename_i a m c
    split at ha
    · rename_i h0
      subst h0
      simp only [Option.some.injEq, Prod.mk.injEq] at ha
      obtain ⟨rfl, rfl⟩ := ha
      refine ⟨#[], fun w' _ => ?_, VL.nil G, by simp, fun i hi => by simp at hi⟩
      cases hx with
      | plain hp => simp [plainAtom] at hp
      | slice _ _ _ _ => exact ⟨by simp [Builtin.lenOf], by simp [Builtin.firstCells, loadCells, loadCellsFrom]⟩
      | empty => exact ⟨by simp [Builtin.lenOf], by simp [Builtin.firstCells, loadCells, loadCellsFrom]⟩
    · obtain ⟨cs, hr, hq⟩ := Option.map_eq_some_iff.1 ha
      simp only [Prod.mk.injEq] at hq
      obtain ⟨rfl, rfl⟩ := hq
      cases hx with
      | plain hp => simp [plainAtom] at hp
      | empty => contradiction
      | slice hg q1 q2 q3 =>
        obtain ⟨cs', ty, fr, h1, h2, h3, h4, h5⟩ := rowAt_sound R hg hr
        refine ⟨_, fun w' hw => ⟨by simp [Builtin.lenOf], ?_⟩, by simpa using h3, h4, h5⟩
        have := run_loadRow (P := P) (w := w') (by rw [hw]; exact h1) h2
        simpa [Builtin.firstCells] using this
  · rename_i s
    split at ha <;> (try (cases ha; done))
    rename_i h1
    simp only [Option.some.injEq, Prod.mk.injEq] at ha
    obtain ⟨rfl, rfl⟩ := ha
    have e := hx.of_plainAtom rfl; subst e
    refine ⟨(bytesV s).toArray, fun w' _ => ⟨by simp [Builtin.lenOf], ?_⟩, by simpa using atoms_vl (bytesV_atom s), by rw [bytesV_length, h1]; simp, atoms_one (bytesV_atom s)⟩
    have hex : s.extract 0 s.size = s := by
      apply ByteArray.ext
      rw [ByteArray.data_extract]
      exact Array.extract_size
    simp only [Builtin.firstCells, Sem.run_pure, hex]
    congr 1
    apply Array.toList_inj.1
    simp [bytesV]

theorem growBy_le (newLen : Nat) : ∀ (r c : Nat), Builtin.growBy newLen r c ≤ max c (newLen + (newLen + 768) / 4)
  | 0, c => by simp [Builtin.growBy]; omega
  | r + 1, c => by
    simp only [Builtin.growBy]
    split
    · omega
    · have := growBy_le newLen r (c + (c + 768) / 4)
      omega

theorem nextcap_le (need old : Nat) (h : old < need) : Builtin.nextslicecap need old ≤ 2 * need + 192 := by
  unfold Builtin.nextslicecap
  split
  · omega
  · split
    · omega
    · have := growBy_le need 4 old
      omega

theorem nextcap_bytes (need old bytes : Nat) (h : old < need) (hb : need * bytes ≤ 1099511627776) : Builtin.nextslicecap need old * bytes ≤ 2 ^ 48 := by
  have h1 : Builtin.nextslicecap need old * bytes ≤ (2 * need + 192) * bytes := Nat.mul_le_mul_right _ (nextcap_le need old h)
  have h2 : (2 * need + 192) * bytes = 2 * (need * bytes) + 192 * bytes := by rw [Nat.add_mul, Nat.mul_assoc]
  have h3 : bytes ≤ need * bytes := Nat.le_mul_of_pos_left _ (by omega)
  omega

section
variable {P : Program} {st xt ty el : TypeId} (hu : P.underlying st = some (.slice el)) (hxt : isSeqT P xt = true) {i : TypeInfo} (hi : P.info? el = some i)
include hu hxt hi

theorem append_fit {w : World} {x' : Value} {n : Nat} {base : Option Addr} {len cap : Nat} {new : Array Value} (hl : (Builtin.lenOf x').run P w = .ok n w) (hfit : len + n ≤ cap)
    (hf : (Builtin.firstCells i.size n x').run P w = .ok new w) :
    (Builtin.append_ #[st, xt] ty #[.slice base len cap, x']).run P w = ((match base with | some a => storeCells (a.add (len * i.size)) new.toList | none => pure ()).run P w).andThen fun _ w' => .ok (.slice base (len + n) cap) w' := by
  unfold isSeqT at hxt
  split at hxt <;> (try (cases hxt; done)) <;> rename_i hd <;> cases base <;> simp [Builtin.append_, run_underlying hu, run_underlying hd, sizeOf, typeInfo, hi, hl, hfit, hf]

theorem append_move {w : World} {x' : Value} {n : Nat} {base : Option Addr} {len cap : Nat} {new old : Array Value} {z : Value} (hz : i.zero = some z) (hl : (Builtin.lenOf x').run P w = .ok n w) (hfit : ¬ (len + n ≤ cap))
    (hf : ∀ w', w'.heap = w.heap → (Builtin.firstCells i.size n x').run P w' = .ok new w') (ho : ∀ w', w'.heap = w.heap → (Builtin.firstCells i.size len (.slice base len cap)).run P w' = .ok old w')
    (hb : (len + n) * i.bytes ≤ 1099511627776) (hp : 0 < i.bytes) :
    ∃ c, len + n ≤ c ∧ (Builtin.append_ #[st, xt] ty #[.slice base len cap, x']).run P w = .ok (.slice (some ⟨w.heap.size, 0, none⟩) (len + n) c)
      { w with drawn := w.drawn + 1, heap := w.heap.push (.cells (old ++ new ++ Builtin.zeroCells z.cells (c - (len + n))) el) } := by
  refine ⟨grownCap w (len + n) cap el, Go.grownCap_ge w _ _ _, ?_⟩
  have h63 : ¬ (IntKind.i64.max < ((len + n : Nat) : Int)) := by
    have : len + n ≤ (len + n) * i.bytes := Nat.le_mul_of_pos_right _ hp
    rw [i64max]; omega
  have h0 : ¬ (i.bytes = 0) := by omega
  have hnc : ¬ (2 ^ 48 < Builtin.nextslicecap (len + n) cap * i.bytes) := by have := nextcap_bytes (len + n) cap i.bytes (by omega) hb; omega
  have hf2 := hf w.drew rfl
  have ho1 := ho { w with drawn := w.drawn + 1 } rfl
  have hask : (choose (.appendCap (len + n) cap el)).run P w = .ok (grownCap w (len + n) cap el) { w with drawn := w.drawn + 1 } := by
    simp [Question.forced, grownCap]
  unfold isSeqT at hxt
  split at hxt <;> (try (cases hxt; done)) <;> rename_i hd <;>
  · simp only [Builtin.append_, List.getElem?_toArray, List.getElem?_cons_zero, List.getElem?_cons_succ, Sem.run_bind, run_underlying hu, run_underlying hd, sizeOf, typeInfo, run_program, hi, Result.andThen_ok, Sem.run_pure,
      Bool.false_eq_true, if_false, hl, if_neg hfit, gt_iff_lt, h63, false_and, if_neg hnc, hask, run_askRoom, ho1]
    simp [zeroValue, typeInfo, hi, hz, newRow, hf2]
    rfl

end

/-- How an append goes, whatever is appended. -/
structure AppOk (P : Program) (st xt ty el : TypeId) (i : TypeInfo) (x' : Value) (n : Nat) (new : Array Value) (w : World) : Prop where
  fit : ∀ (base : Option Addr) (len cap : Nat), len + n ≤ cap → (Builtin.append_ #[st, xt] ty #[.slice base len cap, x']).run P w = ((match base with | some a => storeCells (a.add (len * i.size)) new.toList | none => pure ()).run P w).andThen fun _ w' => .ok (.slice base (len + n) cap) w'
  move : ∀ (base : Option Addr) (len cap : Nat) (old : Array Value) (z : Value), i.zero = some z → ¬ (len + n ≤ cap) → (∀ w', w'.heap = w.heap → (Builtin.firstCells i.size len (.slice base len cap)).run P w' = .ok old w') →
    (len + n) * i.bytes ≤ 1099511627776 → 0 < i.bytes →
    ∃ c, len + n ≤ c ∧ (Builtin.append_ #[st, xt] ty #[.slice base len cap, x']).run P w = .ok (.slice (some ⟨w.heap.size, 0, none⟩) (len + n) c)
      { w with drawn := w.drawn + 1, heap := w.heap.push (.cells (old ++ new ++ Builtin.zeroCells z.cells (c - (len + n))) el) }

theorem zero_len {P : Program} {el : TypeId} {z : Value} {i : TypeInfo} (hz : aZero P el = some z) (_hi : P.info? el = some i) : isTup z = false := by
  have := (aZero_sound hz).2
  cases z <;> simp [plainC, plainAtom, isTup] at this ⊢

theorem zeroCells_toList {z : Value} (hz : isTup z = false) (n : Nat) : (Builtin.zeroCells z.cells n).toList = zrow (vcells z) n := by
  have hv := vcells_cells hz
  apply List.ext_getElem?
  intro i
  have hl : (zrow (vcells z) n).length = n * z.cells.size := by rw [zrow_length, hv]; simp
  by_cases hi : i < n * z.cells.size
  · have h1 := zrow_get (vcells z) n i (by rw [hv]; simpa using hi)
    have h0 : 0 < z.cells.size := by
      rcases Nat.eq_zero_or_pos z.cells.size with h | h
      · rw [h] at hi; simp at hi
      · exact h
    rw [List.getElem?_eq_getElem (by simpa [Builtin.zeroCells] using hi), List.getElem?_eq_getElem (by omega)]
    congr 1
    rw [List.getD_eq_getElem?_getD, List.getElem?_eq_getElem (by omega), Option.getD_some] at h1
    rw [h1, hv]
    simp only [Builtin.zeroCells, Array.toList_map, Array.toList_range, List.getElem_map, List.getElem_range, Array.length_toList]
    have hm : i % z.cells.size < z.cells.size := Nat.mod_lt _ h0
    rw [getElem!_pos z.cells _ hm, List.getD_eq_getElem?_getD, List.getElem?_eq_getElem (by simpa using hm)]
    simp
  · rw [List.getElem?_eq_none (by simp [Builtin.zeroCells]; omega), List.getElem?_eq_none (by omega)]

theorem appArg_sound {P : Program} {G : Gh} {h : Heap} {w : World} (R : Rel P G h w.heap) {st xt ty el : TypeId} (hu : P.underlying st = some (.slice el)) {i : TypeInfo} (hi : P.info? el = some i) {x x' : Value} {new : List Value} {n : Nat}
    (ha : appArg P h el xt x = some (new, n)) (hx : VR G x x') :
    ∃ new' : Array Value, AppOk P st xt ty el i x' n new' w ∧ VL G new new'.toList ∧ new.length = n * i.size ∧ ∀ j, j < new.length → (new.getD j Go.undef).oneCell = true := by
  obtain ⟨q1, q2⟩ := bytes_of hi
  unfold appArg at ha
  split at ha
  · rename_i hxt
    obtain ⟨new', hrun, hvn, hln, h1n⟩ := appCells_sound (P := P) R ha hx
    rw [q2] at hrun hln
    exact ⟨new', ⟨fun base len cap hfit => append_fit hu hxt hi (hrun w rfl).1 hfit (hrun w rfl).2, fun base len cap old z hz hfit ho hb hp => append_move hu hxt hi hz (hrun w rfl).1 hfit (fun w' hw => (hrun w' hw).2) ho hb hp⟩, hvn, hln, h1n⟩
  · rename_i hxt
    split at ha <;> (try (cases ha; done))
    rename_i k k' m z hd hz
    split at ha <;> (try (cases ha; done))
    rename_i hc
    obtain ⟨h0, h1, h2, h3⟩ := hc
    simp only [Option.some.injEq, Prod.mk.injEq] at ha
    obtain ⟨rfl, rfl⟩ := ha
    have ex := hx.of_plainAtom rfl; subst ex
    obtain ⟨i', hi', hiz⟩ := aZero_info hz
    rw [hi] at hi'; cases hi'
    have htup := zero_len hz hi
    have hzl := zeroCells_toList htup m.toNat
    have hw : IntKind.i64.wrap m = m := IntWalk.i64_in m ⟨by omega, by omega⟩
    rw [q1] at h2
    have hbi : ¬ (281474976710656 < m * (i.bytes : Int)) := by
      have e2 : ((m.toNat * i.bytes : Nat) : Int) = m * (i.bytes : Int) := by rw [Int.natCast_mul, Int.toNat_of_nonneg h0]
      omega
    have hneg : ¬ (m < 0) := by omega
    have hvl : VL G (zrow (vcells z) m.toNat) (Builtin.zeroCells z.cells m.toNat).toList := by
      rw [hzl]
      refine ⟨rfl, fun j hj => ?_⟩
      obtain ⟨p1, p2⟩ := plainC_cells G (aZero_sound hz).2
      have hjm : j % (vcells z).length < (vcells z).length := Nat.mod_lt _ (by
        rcases Nat.eq_zero_or_pos (vcells z).length with h | h
        · rw [zrow_length, h] at hj; simp at hj
        · exact h)
      rw [zrow_get _ _ _ (by rw [← zrow_length]; exact hj)]
      have := p1.2 _ hjm
      rw [vcells_cells htup] at this ⊢
      exact this
    refine ⟨Builtin.zeroCells z.cells m.toNat, ⟨?_, ?_⟩, hvl, by rw [zrow_length, h3, q2], fun j hj => ?_⟩
    · intro base len cap hfit
      by_cases hzz : m.toNat * i.size = 0
      · have hnil : (Builtin.zeroCells z.cells m.toNat).toList = [] := by
          rw [hzl]; apply List.length_eq_zero_iff.1; rw [zrow_length, h3, q2]; exact hzz
        cases base <;> simp [Builtin.append_, run_underlying hu, run_underlying hd, sizeOf, typeInfo, hi, hfit, asInt, asIntOf, hw, hneg, hbi, hnil, storeCells] <;> intro hq <;> exact absurd hzz hq
      · cases base <;> simp [Builtin.append_, run_underlying hu, run_underlying hd, sizeOf, typeInfo, hi, hfit, asInt, asIntOf, hw, hneg, hbi, zeroValue, hiz] <;> intro hq <;> exact absurd hq hzz
    · intro base len cap old z' hz' hfit ho hb hp
      rw [hiz] at hz'; cases hz'
      refine ⟨grownCap w (len + m.toNat) cap el, Go.grownCap_ge w _ _ _, ?_⟩
      have h63 : ¬ (IntKind.i64.max < ((len + m.toNat : Nat) : Int)) := by
        have : len + m.toNat ≤ (len + m.toNat) * i.bytes := Nat.le_mul_of_pos_right _ hp
        rw [i64max]; omega
      have hnc : ¬ (2 ^ 48 < Builtin.nextslicecap (len + m.toNat) cap * i.bytes) := by have := nextcap_bytes (len + m.toNat) cap i.bytes (by omega) hb; omega
      have ho1 := ho { w with drawn := w.drawn + 1 } rfl
      have hask : (choose (.appendCap (len + m.toNat) cap el)).run P w = .ok (grownCap w (len + m.toNat) cap el) { w with drawn := w.drawn + 1 } := by
        simp [Question.forced, grownCap]
      simp only [Builtin.append_, List.getElem?_toArray, List.getElem?_cons_zero, List.getElem?_cons_succ, Sem.run_bind, run_underlying hu, run_underlying hd, sizeOf, typeInfo, run_program, hi, Result.andThen_ok, Sem.run_pure,
        if_true, asInt, asIntOf, hw, if_neg hneg, gt_iff_lt, Int.reducePow, hbi, if_false, if_neg hfit, h63, false_and, if_neg hnc, hask, run_askRoom, ho1]
      by_cases hzz : m.toNat * i.size = 0
      · have hnil : (Builtin.zeroCells z.cells m.toNat) = #[] := by
          apply Array.toList_inj.1; rw [hzl]; apply List.length_eq_zero_iff.1; rw [zrow_length, h3, q2]; exact hzz
        simp [zeroValue, typeInfo, hi, hiz, newRow, hzz, hnil]
        rfl
      · simp [zeroValue, typeInfo, hi, hiz, newRow, hzz]
        rfl
    · obtain ⟨_, p2⟩ := plainC_cells G (aZero_sound hz).2
      rw [zrow_get _ _ _ (by rw [← zrow_length]; exact hj)]
      exact p2 _ (Nat.mod_lt _ (by
        rcases Nat.eq_zero_or_pos (vcells z).length with h | h
        · rw [zrow_length, h] at hj; simp at hj
        · exact h))

theorem getD_array {xs : Array Value} {l : List Value} (h : xs.toList = l) (i : Nat) : xs.getD i Go.undef = l.getD i Go.undef := by
  subst h; simp [Array.getD_eq_getD_getElem?, List.getD_eq_getElem?_getD]

theorem size_zero (z : Array Value) (n : Nat) : (Builtin.zeroCells z n).size = n * z.size := by simp [Builtin.zeroCells]

/-- A moved row: the old cells, the new ones, what is left over. -/
theorem moved_row {G : Gh} {old new : List Value} {old' new' rest : Array Value} (h1 : VL G old old'.toList) (h2 : VL G new new'.toList) :
    ∀ i, i < (old ++ new).length → VR G ((old ++ new).getD i Go.undef) ((old' ++ new' ++ rest).getD i Go.undef) := by
  intro i hi
  have h := (h1.append h2).2 i hi
  have hl : i < (old'.toList ++ new'.toList).length := by rw [← (h1.append h2).1]; exact hi
  rw [getD_array (l := old'.toList ++ new'.toList ++ rest.toList) (by simp), List.getD_eq_getElem?_getD (l := old'.toList ++ new'.toList ++ rest.toList), List.getElem?_append_left hl, ← List.getD_eq_getElem?_getD]
  exact h

theorem VR.slice_inv {G : Gh} {a : Option Addr} {len cap : Nat} {v : Value} (h : VR G (.slice a len cap) v) : ∃ c capC, v = .slice c len capC ∧ len ≤ capC ∧ (a = none → c = none ∧ len = 0 ∧ cap = 0 ∧ capC = 0) := by
  cases h with
  | plain hp =>
    cases a with
    | some a => simp [plainAtom] at hp
    | none =>
      simp only [plainAtom, Bool.and_eq_true, beq_iff_eq] at hp
      obtain ⟨rfl, rfl⟩ := hp
      exact ⟨_, _, rfl, Nat.le_refl _, fun _ => ⟨rfl, rfl, rfl, rfl⟩⟩
  | slice _ h1 _ _ => exact ⟨_, _, rfl, h1, fun q => by cases q⟩
  | empty => exact ⟨_, _, rfl, Nat.zero_le _, fun q => by cases q⟩

theorem one_append {xs ys : List Value} (h1 : ∀ i, i < xs.length → (xs.getD i Go.undef).oneCell = true) (h2 : ∀ i, i < ys.length → (ys.getD i Go.undef).oneCell = true) :
    ∀ i, i < (xs ++ ys).length → ((xs ++ ys).getD i Go.undef).oneCell = true := by
  intro i hi
  simp only [List.length_append] at hi
  rw [List.getD_eq_getElem?_getD]
  by_cases hx : i < xs.length
  · rw [List.getElem?_append_left hx, ← List.getD_eq_getElem?_getD]; exact h1 i hx
  · rw [List.getElem?_append_right (by omega), ← List.getD_eq_getElem?_getD]; exact h2 _ (by omega)

theorem restsz {s c m : Nat} (hmc : m ≤ c) : m * s + (c - m) * s = c * s := by rw [← Nat.add_mul]; congr 1; omega

theorem all_one {G : Gh} {new : List Value} {new' : Array Value} (hvn : VL G new new'.toList) (h1n : ∀ j, j < new.length → (new.getD j Go.undef).oneCell = true) : ∀ v ∈ new'.toList, v.oneCell = true := by
  intro v hv
  obtain ⟨j, hj, rfl⟩ := List.getElem_of_mem hv
  have hj' : j < new.length := by rw [hvn.1]; exact hj
  have k1 := (hvn.2 j hj').oneCell
  rw [h1n j hj'] at k1
  have hj2 : j < new'.size := by simpa using hj
  simpa [List.getD_eq_getElem?_getD, hj2] using k1

set_option maxHeartbeats 400000 in
theorem append_full {P : Program} {st xt ty el : TypeId} (hu : P.underlying st = some (.slice el)) {i : TypeInfo} (hi : P.info? el = some i) {z : Value} (hiz : i.zero = some z) (hzl : z.cells.size = i.size)
    (hsz : 0 < i.size) (hby : 0 < i.bytes) (q2 : P.cellsOf el = i.size) {G : Gh} {h : Heap} {w : World} (R : Rel P G h w.heap) {x' : Value} {n : Nat} (hn0 : n ≠ 0) {new : List Value} {new' : Array Value}
    (hrun : AppOk P st xt ty el i x' n new' w) (hvn : VL G new new'.toList)
    (h1n : ∀ j, j < new.length → (new.getD j Go.undef).oneCell = true) (hnl : new'.size = n * i.size) {a : Addr} {len : Nat} {s' : Value} (hs : VR G (.slice (some a) len len) s') (hb : (len + n) * i.bytes ≤ 1099511627776) {old : List Value} (hold : rowAt h a (len * i.size) = some old) :
    ∃ G' w' v', (Builtin.append_ #[st, xt] ty #[s', x']).run P w = .ok v' w' ∧ Rel P G' (aNew h (old ++ new) el) w'.heap ∧ EvW G h w G' (aNew h (old ++ new) el) w' ∧
      VR G' (.slice (some ⟨h.length, 0, some (old ++ new).length⟩) (len + n) (len + n + 1)) v' := by
  cases hs with
  | plain hp => simp [plainAtom] at hp
  | slice hg g1 g2 g3 =>
    rename_i id off e x capC
    have hcc := g2 rfl
    obtain ⟨cs, tt, fr, r1, r2, r3, r4, r5⟩ := rowAt_sound R hg hold
    obtain ⟨old', hold'⟩ : ∃ o, o = ((cs.toList.drop (x.d + off)).take (len * i.size)).toArray := ⟨_, rfl⟩
    have r3' : VL G old old'.toList := by rw [hold']; simpa using r3
    have hol : old'.size = len * i.size := by have := r3'.1; simp at this; omega
    obtain ⟨c, hc1, hc2⟩ := hrun.move (some ⟨x.cb, x.d + off, none⟩) len capC old' _ hiz (by omega)
      (fun w' hw => by rw [hold']; simp only [Builtin.firstCells]; exact run_loadRow (by rw [hw]; exact r1) r2) hb hby
    clear hold' r3
    have h1 := restsz (s := i.size) hc1
    have h2 := Nat.add_mul len n i.size
    have hss : (old' ++ new' ++ Builtin.zeroCells z.cells (c - (len + n))).size = c * i.size := by
      simp only [Array.size_append, hol, size_zero, hzl, hnl]; omega
    have hv := moved_row (rest := Builtin.zeroCells z.cells (c - (len + n))) r3' hvn
    obtain ⟨cs', hcs'⟩ : ∃ o, o = old' ++ new' ++ Builtin.zeroCells z.cells (c - (len + n)) := ⟨_, rfl⟩
    rw [← hcs'] at hv hc2 hss
    have hl1 := r3'.1
    have hl2 := hvn.1
    simp only [Array.length_toList] at hl1 hl2
    obtain ⟨R', E'⟩ := R.new (old ++ new) cs' el (0, 0) (by simp only [List.length_append]; omega) hv (one_append r5 h1n) (.inl rfl)
    refine ⟨_, _, _, hc2, R', ⟨E', rfl, rfl, rfl⟩, ?_⟩
    have := VR.slice (off := 0) (len := len + n) (capA := len + n + 1) (capC := c) (gput_same G h.length (old ++ new).length ⟨w.heap.size, 0, cs'.size, P.cellsOf el⟩) hc1 (fun q => by omega) (fun _ => by simp only [q2]; omega)
    simpa using this

set_option maxHeartbeats 400000 in
theorem grow_fit {P : Program} {st xt ty el : TypeId} (hu : P.underlying st = some (.slice el)) {i : TypeInfo} (hi : P.info? el = some i) {z : Value} (hiz : i.zero = some z) (hzl : z.cells.size = i.size)
    (hsz : 0 < i.size) (hby : 0 < i.bytes) (q2 : P.cellsOf el = i.size) {G : Gh} {h : Heap} {w : World} (R : Rel P G h w.heap) {x' : Value} {n : Nat} (hn0 : n ≠ 0) {new : List Value} {new' : Array Value}
    (hrun : AppOk P st xt ty el i x' n new' w) (hvn : VL G new new'.toList)
    (h1n : ∀ j, j < new.length → (new.getD j Go.undef).oneCell = true) (hnl : new'.size = n * i.size) (hln : new.length = n * i.size) (hnne : new ≠ []) {id len capC : Nat} {x : Ent} {b : Blk} (hbk : h[id]? = some (.blk b)) (hg : G id b.cells.length = some x) (g3 : x.d + capC * x.es ≤ x.sz)
    (how : b.own = true) (hbe : b.elem = el) (hlen : len * i.size = b.cells.length) (hfit : len + n ≤ capC) :
    ∃ G' w' v', (Builtin.append_ #[st, xt] ty #[.slice (some ⟨x.cb, x.d + 0, none⟩) len capC, x']).run P w = .ok v' w' ∧ Rel P G' (h.set id (.blk ⟨b.cells ++ new, b.elem, b.lo, true⟩)) w'.heap ∧
      EvW G h w G' (h.set id (.blk ⟨b.cells ++ new, b.elem, b.lo, true⟩)) w' ∧ VR G' (.slice (some ⟨id, 0, some (b.cells ++ new).length⟩) (len + n) (len + n + 1)) v' := by
  obtain ⟨o, ho, hek⟩ := R.dom _ _ _ hg
  rw [hbk] at ho; cases ho
  obtain ⟨_, hes, hd⟩ := hek
  have hd := hd how
  obtain ⟨hlo, x', hx', hnf⟩ := R.own id b hbk how
  rw [hg] at hx'; cases hx'
  obtain ⟨cs, fr, r1, r2, r3, r4⟩ := R.blk id b hbk _ x hg hlo
  obtain ⟨cs₁, t₁, fr₁, n1, n2⟩ := hnf
  rw [r1] at n1; cases n1
  rw [hbe, q2] at hes
  have hcap : capC * i.size ≤ x.sz := by rw [hd, hes] at g3; omega
  have hxcb := R.bnd _ _ _ hg
  have hroom : (len + n) * i.size ≤ x.sz := Nat.le_trans (Nat.mul_le_mul_right _ hfit) hcap
  rw [Nat.add_mul] at hroom
  have hle : len * i.size + new'.toList.length ≤ cs.size := by simp; omega
  have hstore := run_storeRow (P := P) (w := w) (o := len * i.size) (vs := new'.toList) r1 hle n2.not (all_one hvn h1n)
  have hrow := hrun.fit (some ⟨x.cb, x.d + 0, none⟩) len capC hfit
  simp only [add_addr, hd, Nat.zero_add, hstore, Result.andThen_ok] at hrow
  have hps : (putRow cs (len * i.size) new'.toList).size = cs.size := putRow_size hle
  have hget := putRow_get hle
  have hnl2 : new'.toList.length = n * i.size := by simpa using hnl
  rw [hnl2] at hget
  obtain ⟨row, hrowd⟩ : ∃ o, o = putRow cs (len * i.size) new'.toList := ⟨_, rfl⟩
  rw [← hrowd] at hps hget hrow
  clear hrowd hstore
  have hH : (wcells w x.cb row b.elem fr).heap = w.heap.setIfInBounds x.cb (.cells row b.elem fr) := rfl
  have hsame : (w.heap.setIfInBounds x.cb (.cells row b.elem fr))[x.cb]? = some (.cells row b.elem fr) := by simp [hxcb]
  have hoth : ∀ c, x.cb ≠ c → (w.heap.setIfInBounds x.cb (.cells row b.elem fr))[c]? = w.heap[c]? := fun c hc => by rw [Array.getElem?_setIfInBounds, if_neg hc]
  have hold : ∀ e₁ x₁, G id e₁ = some x₁ → b.lo ≤ e₁ → ∃ cs fr', (w.heap.setIfInBounds x.cb (.cells row b.elem fr))[x₁.cb]? = some (.cells cs b.elem fr') ∧ cs.size = x₁.sz ∧ x₁.d + e₁ ≤ x₁.sz ∧
      ∀ i, i < e₁ → VR G (b.cells.getD i Go.undef) (cs.getD (x₁.d + i) Go.undef) := by
    intro e₁ x₁ h₁ hl₁
    obtain ⟨cs₂, fr₂, k1, k2, k3, k4⟩ := R.blk id b hbk e₁ x₁ h₁ hl₁
    obtain ⟨o₁, ho₁, hek₁⟩ := R.dom _ _ _ h₁
    rw [hbk] at ho₁; cases ho₁
    have hd₁ := hek₁.2.2 how
    by_cases hcc : x.cb = x₁.cb
    · rw [← hcc, r1] at k1; cases k1
      refine ⟨row, fr, by rw [← hcc]; exact hsame, by rw [hps]; exact k2, k3, fun j hj => ?_⟩
      have hjl : j < len * i.size := by have := hek₁.1; omega
      rw [hd₁, Nat.zero_add, hget, if_pos hjl]
      have := k4 j hj
      rw [hd₁, Nat.zero_add] at this
      exact this
    · exact ⟨cs₂, fr₂, by rw [hoth _ hcc]; exact k1, k2, k3, k4⟩
  have hall : ∀ j, j < (b.cells ++ new).length → VR G ((b.cells ++ new).getD j Go.undef) (row.getD j Go.undef) := by
    intro j hj
    simp only [List.length_append] at hj
    rw [hget]
    by_cases hjl : j < len * i.size
    · rw [if_pos hjl, List.getD_eq_getElem?_getD, List.getElem?_append_left (by omega), ← List.getD_eq_getElem?_getD]
      have := r4 j (by omega)
      rw [hd, Nat.zero_add] at this
      exact this
    · rw [if_neg hjl, if_pos (by omega), List.getD_eq_getElem?_getD, List.getElem?_append_right (by omega), ← List.getD_eq_getElem?_getD, ← hlen]
      exact hvn.2 _ (by omega)
  obtain ⟨R', E'⟩ := R.grow hbk how new hnne h1n (y := x) (H' := w.heap.setIfInBounds x.cb (.cells row b.elem fr)) (by simp) (by simpa using hxcb) hd (by rw [hbe, q2]; exact hes)
    (fun c hc hne => hoth c (hne _ _ hg)) hold (.inl ⟨_, _, hg, rfl⟩) (cs := row) (fr := fr) hsame (by rw [hps]; exact r2) (by omega) (by rw [hps]; exact n2) hall
  refine ⟨_, wcells w x.cb row b.elem fr, _, by rw [hd]; exact hrow, R', ⟨E', rfl, rfl, rfl⟩, ?_⟩
  have := VR.slice (off := 0) (len := len + n) (capA := len + n + 1) (capC := capC) (gput_same G id (b.cells ++ new).length x) hfit (fun q => by omega) (fun _ => g3)
  rw [hd] at this
  simpa using this

set_option maxHeartbeats 400000 in
theorem grow_move {len : Nat} {P : Program} {st xt ty el : TypeId} (hu : P.underlying st = some (.slice el)) {i : TypeInfo} (hi : P.info? el = some i) {z : Value} (hiz : i.zero = some z) (hzl : z.cells.size = i.size)
    (hsz : 0 < i.size) (hby : 0 < i.bytes) (q2 : P.cellsOf el = i.size) {G : Gh} {h : Heap} {w : World} (R : Rel P G h w.heap) {x' : Value} {n : Nat} (hn0 : n ≠ 0) {new : List Value} {new' : Array Value}
    (hrun : AppOk P st xt ty el i x' n new' w) (hvn : VL G new new'.toList)
    (h1n : ∀ j, j < new.length → (new.getD j Go.undef).oneCell = true) (hnl : new'.size = n * i.size) (hln : new.length = n * i.size) (hnne : new ≠ []) (hb : (len + n) * i.bytes ≤ 1099511627776) {id capC : Nat} {x : Ent} {b : Blk} (hbk : h[id]? = some (.blk b)) (hg : G id b.cells.length = some x)
    (how : b.own = true) (hbe : b.elem = el) (hlen : len * i.size = b.cells.length) (hfit : ¬ len + n ≤ capC) :
    ∃ G' w' v', (Builtin.append_ #[st, xt] ty #[.slice (some ⟨x.cb, x.d + 0, none⟩) len capC, x']).run P w = .ok v' w' ∧ Rel P G' (h.set id (.blk ⟨b.cells ++ new, b.elem, b.lo, true⟩)) w'.heap ∧
      EvW G h w G' (h.set id (.blk ⟨b.cells ++ new, b.elem, b.lo, true⟩)) w' ∧ VR G' (.slice (some ⟨id, 0, some (b.cells ++ new).length⟩) (len + n) (len + n + 1)) v' := by
  obtain ⟨hlo, x', hx', _⟩ := R.own id b hbk how
  rw [hg] at hx'; cases hx'
  obtain ⟨cs, fr, r1, r2, r3, r4⟩ := R.blk id b hbk _ x hg hlo
  obtain ⟨old', hold'⟩ : ∃ o, o = ((cs.toList.drop (x.d + 0)).take (len * i.size)).toArray := ⟨_, rfl⟩
  have hold : VL G b.cells old'.toList := by
    rw [hold']
    refine ⟨by simp; omega, fun j hj => ?_⟩
    have := r4 j hj
    rw [List.toList_toArray, getD_drop_take (by omega)]
    simpa [List.getD_eq_getElem?_getD, Array.getD_eq_getD_getElem?] using this
  have hol : old'.size = len * i.size := by have := hold.1; simp at this; omega
  obtain ⟨c, hc1, hc2⟩ := hrun.move (some ⟨x.cb, x.d + 0, none⟩) len capC old' _ hiz hfit
    (fun w' hw => by rw [hold']; simp only [Builtin.firstCells]; exact run_loadRow (by rw [hw]; exact r1) (by omega)) hb hby
  clear hold'
  have h1 := restsz (s := i.size) hc1
  have h2 := Nat.add_mul len n i.size
  have hss : (old' ++ new' ++ Builtin.zeroCells z.cells (c - (len + n))).size = c * i.size := by
    simp only [Array.size_append, hol, size_zero, hzl, hnl]; omega
  have hv := moved_row (rest := Builtin.zeroCells z.cells (c - (len + n))) hold hvn
  obtain ⟨cs', hcs'⟩ : ∃ o, o = old' ++ new' ++ Builtin.zeroCells z.cells (c - (len + n)) := ⟨_, rfl⟩
  rw [← hcs'] at hv hc2 hss
  clear hcs'
  have holdp : ∀ e₁ x₁, G id e₁ = some x₁ → b.lo ≤ e₁ → ∃ cs fr', (w.heap.push (.cells cs' b.elem (0, 0)))[x₁.cb]? = some (.cells cs b.elem fr') ∧ cs.size = x₁.sz ∧ x₁.d + e₁ ≤ x₁.sz ∧
      ∀ i, i < e₁ → VR G (b.cells.getD i Go.undef) (cs.getD (x₁.d + i) Go.undef) := by
    intro e₁ x₁ h₁ hl₁
    obtain ⟨cs₂, fr₂, k1, k2, k3, k4⟩ := R.blk id b hbk e₁ x₁ h₁ hl₁
    have hb₁ := R.bnd _ _ _ h₁
    exact ⟨cs₂, fr₂, by rw [Array.getElem?_push, if_neg (by omega)]; exact k1, k2, k3, k4⟩
  have hmul := Nat.mul_le_mul_right i.size hc1
  obtain ⟨R', E'⟩ := R.grow hbk how new hnne h1n (y := ⟨w.heap.size, 0, c * i.size, i.size⟩) (H' := w.heap.push (.cells cs' b.elem (0, 0))) (by simp) (by simp) rfl (by rw [hbe, q2])
    (fun c' hc' _ => by rw [Array.getElem?_push, if_neg (by omega)]) holdp (.inr (Nat.le_refl _)) (fr := (0, 0)) (by simp) hss (by simp only; omega) (.inl rfl) hv
  refine ⟨_, _, _, hc2, by rw [← hbe]; exact R', ⟨by rw [← hbe]; exact E', rfl, rfl, rfl⟩, ?_⟩
  have := VR.slice (off := 0) (len := len + n) (capA := len + n + 1) (capC := c) (gput_same G id (b.cells ++ new).length ⟨w.heap.size, 0, c * i.size, i.size⟩) hc1 (fun q => by omega) (fun _ => by simp)
  simpa using this

set_option maxHeartbeats 400000 in
theorem aAppend_sound {P : Program} {G : Gh} {h h' : Heap} {w : World} (R : Rel P G h w.heap) {st xt ty : TypeId} {s x s' x' v : Value} (hm : aAppend P h st xt s x = some (v, h')) (hs : VR G s s') (hx : VR G x x') :
    ∃ G' w' v', (Builtin.append_ #[st, xt] ty #[s', x']).run P w = .ok v' w' ∧ Rel P G' h' w'.heap ∧ EvW G h w G' h' w' ∧ VR G' v v' := by
  unfold aAppend at hm
  split at hm <;> (try (cases hm; done))
  rename_i el hu
  split at hm <;> (try (cases hm; done))
  rename_i hc
  have hinfo : (P.info? el).isSome = true := by cases hq : (P.info? el).isSome <;> simp_all
  obtain ⟨i, hi⟩ := Option.isSome_iff_exists.1 hinfo
  obtain ⟨q1, q2⟩ := bytes_of hi
  split at hm <;> (try (cases hm; done))
  rename_i new n hnew
  obtain ⟨new', hrun, hvn, hln, h1n⟩ := appArg_sound (st := st) (xt := xt) (ty := ty) R hu hi hnew hx
  split at hm
  · rename_i h0
    subst h0
    split at hm <;> (try (cases hm; done))
    rename_i a l c
    simp only [Option.some.injEq, Prod.mk.injEq] at hm
    obtain ⟨rfl, rfl⟩ := hm
    obtain ⟨ca, capC, rfl, hle, _⟩ := hs.slice_inv
    have hnil : new'.toList = [] := by have := hvn.1; rw [hln] at this; exact List.length_eq_zero_iff.1 (by simpa using this.symm)
    refine ⟨G, w, .slice ca l capC, ?_, R, EvW.refl _ _ _, hs⟩
    rw [hrun.fit _ _ _ (by omega)]
    cases ca with
    | none => simp
    | some ca => rw [hnil]; simp [storeCells]
  rename_i hn0
  split at hm <;> (try (cases hm; done))
  rename_i hz0
  obtain ⟨z, i', hz, hi', hiz, hzl, hsz, hby, _, _⟩ := zeroOk_spec (by simpa using hz0)
  rw [hi] at hi'; cases hi'
  have hnl : new'.size = n * i.size := by have := hvn.1; simp at this; omega
  have hnne : new ≠ [] := by
    intro hq
    rw [hq] at hln
    have : 0 < n * i.size := Nat.mul_pos (by omega) hsz
    simp at hln; omega
  split at hm <;> (try (cases hm; done))
  · rename_i sl sc
    obtain ⟨ca, capC, rfl, hle, hnone⟩ := hs.slice_inv
    obtain ⟨rfl, rfl, rfl, rfl⟩ := hnone rfl
    split at hm <;> (try (cases hm; done))
    rename_i hb
    simp only [Option.some.injEq, Prod.mk.injEq] at hm
    obtain ⟨rfl, rfl⟩ := hm
    rw [q1] at hb
    obtain ⟨c, hc1, hc2⟩ := hrun.move none 0 0 #[] _ hiz (by omega) (fun w' _ => by simp [Builtin.firstCells]) (by simpa using hb) hby
    obtain ⟨R', E'⟩ := R.new new (#[] ++ new' ++ Builtin.zeroCells z.cells (c - (0 + n))) el (0, 0) (by simp; omega)
      (moved_row (old := []) (new := new) (old' := #[]) (VL.nil G) hvn) h1n (.inl rfl)
    refine ⟨_, _, _, hc2, R', ⟨E', rfl, rfl, rfl⟩, ?_⟩
    have := VR.slice (off := 0) (len := 0 + n) (capA := n + 1) (capC := c) (gput_same G h.length new.length ⟨w.heap.size, 0, (#[] ++ new' ++ Builtin.zeroCells z.cells (c - (0 + n))).size, P.cellsOf el⟩) hc1 (fun q => by omega) (fun _ => by
      have := restsz (s := i.size) hc1
      simp [size_zero, hzl, hnl, q2] at this ⊢
      omega)
    simpa using this
  · rename_i a len cap
    split at hm <;> (try (cases hm; done))
    rename_i hb
    rw [q1] at hb
    split at hm
    · rename_i hcl
      subst hcl
      split at hm <;> (try (cases hm; done))
      rename_i old hold
      simp only [Option.some.injEq, Prod.mk.injEq] at hm
      obtain ⟨rfl, rfl⟩ := hm
      rw [q2] at hold
      exact append_full hu hi hiz hzl hsz hby q2 R hn0 hrun hvn h1n hnl hs hb hold
    · rename_i hcl
      split at hm <;> (try (cases hm; done))
      rename_i e b hsp hbk
      split at hm <;> (try (cases hm; done))
      rename_i hcond
      obtain ⟨how, hbe, hoff, hep, hlen⟩ := hcond
      simp only [Option.some.injEq, Prod.mk.injEq] at hm
      obtain ⟨rfl, rfl⟩ := hm
      rw [q2] at hlen
      cases hs with
      | plain hp => simp [plainAtom] at hp
      | empty => cases hsp
      | slice hg g1 g2 g3 =>
        rename_i id off e' x capC
        simp only [Option.some.injEq] at hsp hoff hbk
        subst hsp hoff hep
        by_cases hfit : len + n ≤ capC
        · exact grow_fit hu hi hiz hzl hsz hby q2 R hn0 hrun hvn h1n hnl hln hnne hbk hg (g3 rfl) how hbe hlen hfit
        · exact grow_move hu hi hiz hzl hsz hby q2 R hn0 hrun hvn h1n hnl hln hnne hb hbk hg how hbe hlen hfit

end Go.Am
