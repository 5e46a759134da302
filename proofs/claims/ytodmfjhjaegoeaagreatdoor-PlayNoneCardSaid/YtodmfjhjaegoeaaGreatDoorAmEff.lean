/- The operations that read or change memory: on the abstract heap, and that the model does the like. -/
import Derived.Test.YtodmfjhjaegoeaaGreatDoorAmMap
import Derived.Laws.BytesString
import Derived.Lib.ConvBytes
set_option linter.unusedVariables false
set_option linter.unusedSimpArgs false
namespace Go.Am

def asBytes : List Value → Option (List UInt8)
  | [] => some []
  | .int .u8 n :: r => (asBytes r).map (UInt8.ofNat n.toNat :: ·)
  | _ => none

def aLoad (P : Program) (h : Heap) (t : TypeId) (a : Addr) : Option Value :=
  if (P.underlying t).isSome = true ∧ (P.info? t).isSome = true then
    if isAggT P t = true then (rowAt h a (P.cellsOf t)).map (fun cs => .agg cs.toArray)
    else match rowAt h a 1 with
      | some [v] => some v
      | _ => none
  else none

def isByteT (P : Program) (t : TypeId) : Bool := match P.underlying t with | some (.int .u8) => true | _ => false

/-- []byte as a string. -/
def aStrOf (P : Program) (h : Heap) (s d : TypeId) (x : Value) : Option Value :=
  match P.underlying s, P.underlying d with
  | some (.slice e), some .string => if isByteT P e = true then (match x with
      | .slice none _ _ => some (.string ByteArray.empty)
      | .slice (some a) n _ => if n = 0 then some (.string ByteArray.empty) else (match rowAt h a n with
        | some cs => (asBytes cs).map fun bs => .string ⟨bs.toArray⟩
        | none => none)
      | _ => none) else none
  | _, _ => none

def readOp (P : Program) (fr : Nat → Value) (h : Heap) : Op → Option Value
  | .load t x => match ev fr x with
    | some (.pointer (some a)) => aLoad P h t a
    | _ => none
  | .convert s d x => (ev fr x).bind (aStrOf P h s d)
  | .lookup t m k ok => match ev fr m, ev fr k with
    | some u, some v => aLookup P h t u v ok
    | _, _ => none
  | .typeAssert x _ u ok => (ev fr x).bind fun v => aAssert P v u ok
  | .call c => match c.callee with
    | .builtin .len => match evl fr c.args.toList, c.argTypes.toList with
      | some [x], [t] => aLenMap P h t x
      | _, _ => none
    | _ => none
  | _ => none

theorem rowAt_spot {h : Heap} {a : Addr} {n : Nat} {cs : List Value} (hr : rowAt h a n = some cs) : ∃ e, a.spot = some e := by
  unfold rowAt at hr
  split at hr
  · exact ⟨_, ‹_›⟩
  · cases hr

theorem VR.ptr_inv {G : Gh} {a : Addr} {v : Value} (h : VR G (.pointer (some a)) v) : ∃ e x, a.spot = some e ∧ G a.block e = some x ∧ v = .pointer (some ⟨x.cb, x.d + a.off, none⟩) := by
  cases h with
  | plain hp => simp [plainAtom] at hp
  | ptr hg => exact ⟨_, _, rfl, hg, rfl⟩

theorem aLoad_sound {P : Program} {G : Gh} {h : Heap} {w : World} (R : Rel P G h w.heap) {t : TypeId} {a : Addr} {v x' : Value} (hl : aLoad P h t a = some v) (hx : VR G (.pointer (some a)) x') :
    ∃ v', (Instr.loadAt t x').run P w = .ok v' w ∧ VR G v v' := by
  obtain ⟨e, x, he, hg, rfl⟩ := hx.ptr_inv
  obtain ⟨id, off, sp⟩ := a
  simp only at he hg; subst he
  unfold aLoad at hl
  split at hl <;> (try (cases hl; done))
  rename_i hi
  split at hl
  · rename_i ha
    obtain ⟨cells, hr, rfl⟩ := Option.map_eq_some_iff.1 hl
    obtain ⟨cs, ty, fr, h1, h2, h3, h4, h5⟩ := rowAt_sound R hg hr
    refine ⟨.agg ((cs.toList.drop (x.d + off)).take (P.cellsOf t)).toArray, ?_, VR.agg_of h3 h5⟩
    simp only [Instr.loadAt, Instr.sureAddr, loadVar, Sem.run_bind, Sem.run_pure, Result.andThen_ok, run_isAgg hi.1, ha, if_true, run_sizeOf hi.2, run_loadRow h1 h2]
  · rename_i ha
    split at hl <;> (try (cases hl; done))
    rename_i v0 hr
    simp only [Option.some.injEq] at hl; subst hl
    obtain ⟨cs, ty, fr, h1, h2, h3, h4, h5⟩ := rowAt_sound R hg hr
    have hv := h3.2 0 (by simp)
    simp only [List.getD_eq_getElem?_getD, List.getElem?_cons_zero, Option.getD_some, List.getElem?_take, List.getElem?_drop, Nat.add_zero, Nat.zero_lt_one, if_true] at hv
    refine ⟨cs.getD (x.d + off) Go.undef, ?_, ?_⟩
    · have hc := cell_of h1 (show x.d + off < cs.size by omega)
      have hl1 : (load ⟨x.cb, x.d + off, none⟩).run P w = .ok (cs.getD (x.d + off) Go.undef) w := by simp only [run_load, hc]
      simp only [Instr.loadAt, Instr.sureAddr, loadVar, Sem.run_bind, Sem.run_pure, Result.andThen_ok, run_isAgg hi.1, ha]
      exact hl1
    · rw [Array.getD_eq_getD_getElem?, ← Array.getElem?_toList]; exact hv

theorem asBytes_sound {G : Gh} : ∀ {cs cs' : List Value} {bs : List UInt8}, asBytes cs = some bs → VL G cs cs' → ∃ ns : List Int, cs' = ns.map (Value.int .u8) ∧ bs = ns.map fun n => UInt8.ofNat n.toNat
  | [], cs', bs, h, hv => by
    simp only [asBytes, Option.some.injEq] at h; subst h
    exact ⟨[], hv.of_nil, rfl⟩
  | v :: cs, cs', bs, h, hv => by
    obtain ⟨y, zs, rfl, hy, hs⟩ := hv.head
    unfold asBytes at h
    split at h <;> (try (cases h; done))
    · rename_i heq; cases heq
    · rename_i n r heq
      cases heq
      obtain ⟨bs', h', rfl⟩ := Option.map_eq_some_iff.1 h
      obtain ⟨ns, rfl, rfl⟩ := asBytes_sound h' hs
      have e := hy.of_plainAtom rfl; subst e
      exact ⟨n :: ns, rfl, rfl⟩

theorem push_all : ∀ (ns : List Int) (s : ByteArray), ns.foldl (fun r n => r.push (UInt8.ofNat n.toNat)) s = ⟨s.data ++ (ns.map fun n => UInt8.ofNat n.toNat).toArray⟩
  | [], s => by simp
  | n :: ns, s => by
    rw [List.foldl_cons, push_all ns]
    congr 1
    apply Array.toList_inj.1
    simp [ByteArray.push]

theorem aStrOf_sound {P : Program} {G : Gh} {h : Heap} {w : World} (R : Rel P G h w.heap) {s d : TypeId} {x x' v : Value} (hl : aStrOf P h s d x = some v) (hx : VR G x x') :
    (convert s d x').run P w = .ok v w ∧ plainAtom v = true := by
  unfold aStrOf at hl
  split at hl <;> (try (cases hl; done))
  rename_i e hs hd
  split at hl <;> (try (cases hl; done))
  rename_i hb
  have he : P.underlying e = some (.int .u8) := by
    unfold isByteT at hb
    split at hb
    · assumption
    · cases hb
  have none_ : ∀ l c, (convert s d (.slice none l c)).run P w = .ok (.string ByteArray.empty) w := by
    intro l c
    rw [run_convert_bytes_string w s d e none l c hs he hd]
    simp [Conv.bytesToString]
  have zero_ : ∀ a c, (convert s d (.slice (some a) 0 c)).run P w = .ok (.string ByteArray.empty) w := by
    intro a c
    rw [run_convert_bytes_string w s d e (some a) 0 c hs he hd]
    have := run_bytesToString (P := P) w a 0 c [] (by simp [loadCells, loadCellsFrom])
    simpa using this
  split at hl <;> (try (cases hl; done))
  · simp only [Option.some.injEq] at hl; subst hl
    cases hx with
    | plain hp => exact ⟨none_ _ _, rfl⟩
  · rename_i a n c
    split at hl
    · rename_i hn
      subst hn
      simp only [Option.some.injEq] at hl; subst hl
      cases hx with
      | plain hp => simp [plainAtom] at hp
      | slice _ _ _ _ => exact ⟨zero_ _ _, rfl⟩
      | empty => exact ⟨zero_ _ _, rfl⟩
    · split at hl <;> (try (cases hl; done))
      rename_i cs hr
      obtain ⟨bs, hbs, rfl⟩ := Option.map_eq_some_iff.1 hl
      cases hx with
      | plain hp => simp [plainAtom] at hp
      | empty => contradiction
      | slice hg q1 q2 q3 =>
        obtain ⟨cs', ty, fr, h1, h2, h3, h4, h5⟩ := rowAt_sound R hg hr
        obtain ⟨ns, e1, rfl⟩ := asBytes_sound hbs h3
        rw [run_convert_bytes_string w s d e _ _ _ hs he hd]
        have hrun := run_loadRow (P := P) h1 h2
        rw [e1] at hrun
        rw [run_bytesToString (P := P) w _ n _ ns hrun, push_all]
        exact ⟨by simp, rfl⟩

theorem readOp_sound {P : Program} {G : Gh} {N : Nat} {fr : Nat → Value} {a : Act} {h : Heap} {w : World} (R : Rel P G h w.heap) (hf : FR G N fr a.tmps) {o : Oper} {v : Value}
    (hn : (o.op.operands.toList.all (inN N)) = true) (hr : readOp P fr h o.op = some v) : ∃ v', (execOp a.eval o).run P w = .ok (.value v') w ∧ VR G v v' := by
  cases ho : o.op <;> rw [ho] at hr hn <;> simp only [readOp, reduceCtorEq] at hr
  case load t x =>
    split at hr <;> (try (cases hr; done))
    rename_i ad hx
    obtain ⟨v', h1, h2⟩ := aLoad_sound R hr (ev_sound hf (by simpa [Op.operands] using hn) hx)
    exact ⟨v', by simp [execOp, ho, h1], h2⟩
  case convert s d x =>
    obtain ⟨u, hu, hr⟩ := Option.bind_eq_some_iff.1 hr
    obtain ⟨h1, h2⟩ := aStrOf_sound R hr (ev_sound hf (by simpa [Op.operands] using hn) hu)
    exact ⟨v, by simp [execOp, ho, h1], .plain h2⟩
  case lookup t m k ok =>
    simp only [Op.operands, List.all_cons, List.all_nil, Bool.and_true, Bool.and_eq_true] at hn
    split at hr <;> (try (cases hr; done))
    rename_i u u' hx hy
    obtain ⟨v', h1, h2⟩ := aLookup_sound R hr (ev_sound hf hn.1 hx) (ev_sound hf hn.2 hy)
    exact ⟨v', by simp [execOp, ho, h1], h2⟩
  case typeAssert x xt u ok =>
    obtain ⟨y, hu, hr⟩ := Option.bind_eq_some_iff.1 hr
    obtain ⟨v', h1, h2⟩ := aAssert_sound (xt := xt) hr (ev_sound hf (by simpa [Op.operands] using hn) hu)
    exact ⟨v', by simp [execOp, ho, h1], h2⟩
  case call c =>
    obtain ⟨callee, args, argTypes⟩ := c
    simp only at hr
    cases callee with
    | value f => simp at hr
    | invoke r m => simp at hr
    | builtin b =>
      simp only [Op.operands, Call.operands, Array.toList_append] at hn
      have hn := (all_app hn).2
      cases b <;> simp only [reduceCtorEq] at hr
      split at hr <;> (try (cases hr; done))
      rename_i x t hx ht
      have hv := evl_arr hf hn hx
      obtain ⟨y, zs, e1, hy, hz⟩ := hv.head
      have := hz.of_nil; subst this
      have ea : args.map a.eval = #[y] := by apply Array.toList_inj.1; simpa using e1
      have et : argTypes = #[t] := by apply Array.toList_inj.1; simpa using ht
      obtain ⟨h1, h2⟩ := aLenMap_sound (ty := o.type) R hr hy
      refine ⟨v, ?_, .plain h2⟩
      simp only [execOp, ho, resolve, ea, et, Sem.run_bind, Sem.run_pure, Result.andThen_ok, invoke, builtin]
      simp [h1]

/-! ### What changes memory -/
def aNew (h : Heap) (cells : List Value) (t : TypeId) : Heap := h ++ [.blk ⟨cells, t, 0, true⟩]
def aPtr (id n : Nat) : Value := .pointer (some ⟨id, 0, some n⟩)

def zrow (z : List Value) (n : Nat) : List Value := (List.replicate n z).flatten

theorem zrow_length (z : List Value) (n : Nat) : (zrow z n).length = n * z.length := by
  induction n with
  | zero => simp [zrow]
  | succ n ih => simp only [zrow, List.replicate_succ, List.flatten_cons, List.length_append] at ih ⊢; rw [ih, Nat.succ_mul]; omega

theorem zrow_get (z : List Value) (n i : Nat) (h : i < n * z.length) : (zrow z n).getD i Go.undef = z.getD (i % z.length) Go.undef := by
  induction n generalizing i with
  | zero => simp at h
  | succ n ih =>
    have hz : 0 < z.length := by
      rcases Nat.eq_zero_or_pos z.length with h0 | h0
      · rw [h0] at h; simp at h
      · exact h0
    simp only [zrow, List.replicate_succ, List.flatten_cons]
    rw [List.getD_eq_getElem?_getD]
    by_cases hi : i < z.length
    · rw [List.getElem?_append_left hi, Nat.mod_eq_of_lt hi, List.getD_eq_getElem?_getD]
    · rw [List.getElem?_append_right (by omega), ← List.getD_eq_getElem?_getD]
      have := ih (i - z.length) (by rw [Nat.succ_mul] at h; omega)
      simp only [zrow] at this
      rw [this, Nat.mod_eq_sub_mod (by omega : i ≥ z.length)]

theorem madeCells_get (z : Array Value) (n i : Nat) (h : i < n) (hz : 0 < z.size) : (madeCells z n).getD i Go.undef = z.toList.getD (i % z.size) Go.undef := by
  have hm : i % z.size < z.size := Nat.mod_lt _ hz
  simp [madeCells, Array.getD_eq_getD_getElem?, h, List.getD_eq_getElem?_getD, hm]

theorem zrow_one {z : List Value} (h : ∀ i, i < z.length → (z.getD i Go.undef).oneCell = true) (n : Nat) : ∀ i, i < (zrow z n).length → ((zrow z n).getD i Go.undef).oneCell = true := by
  intro i hi
  rw [zrow_length] at hi
  rw [zrow_get z n i hi]
  refine h _ (Nat.mod_lt _ ?_)
  rcases Nat.eq_zero_or_pos z.length with h0 | h0
  · rw [h0] at hi; simp at hi
  · exact h0

theorem zrow_vr {G : Gh} {z : List Value} {z' : Array Value} (h : VL G z z'.toList) (n m : Nat) (hm : n * z.length ≤ m) :
    ∀ i, i < (zrow z n).length → VR G ((zrow z n).getD i Go.undef) ((madeCells z' m).getD i Go.undef) := by
  intro i hi
  rw [zrow_length] at hi
  have hz : 0 < z.length := by
    rcases Nat.eq_zero_or_pos z.length with h0 | h0
    · rw [h0] at hi; simp at hi
    · exact h0
  have hl : z'.size = z.length := by have := h.1; simp at this; omega
  rw [zrow_get z n i hi, madeCells_get z' m i (by omega) (by omega), hl]
  exact h.2 _ (Nat.mod_lt _ hz)

/-- make([]T, l, c). -/
def aMakeSlice (P : Program) (h : Heap) (t : TypeId) : Value → Value → Option (Value × Heap)
  | .int _ l, .int _ c => match P.underlying t with
    | some (.slice el) => match aZero P el with
      | some z =>
        if 0 ≤ l ∧ l ≤ c ∧ c * P.bytesOf el ≤ 1099511627776 ∧ c ≤ 1099511627776 ∧ (vcells z).length = P.cellsOf el then
          some (.slice (some ⟨h.length, 0, some (l.toNat * P.cellsOf el)⟩) l.toNat (if c = l then l.toNat else l.toNat + 1), aNew h (zrow (vcells z) l.toNat) el)
        else none
      | none => none
    | _ => none
  | _, _ => none

theorem bytes_of {P : Program} {t : TypeId} {i : TypeInfo} (h : P.info? t = some i) : P.bytesOf t = i.bytes ∧ P.cellsOf t = i.size := by simp [Program.bytesOf, Program.cellsOf, h]

theorem vcells_cells {v : Value} (h : isTup v = false) : vcells v = v.cells.toList := by cases v <;> simp [vcells, Value.cells, isTup] at h ⊢

/-- A new row: how the model lays it, and what its value is, wherever the abstract heap has it. -/
structure NewOk (P : Program) (G : Gh) (w : World) (s : Sem Value) (cells : List Value) (t : TypeId) (val : Nat → Value) : Prop where
  ex : ∃ (cs : Array Value) (fr : Nat × Nat) (v' : Value), s.run P w = .ok v' { w with heap := w.heap.push (.cells cs t fr) } ∧ cells.length ≤ cs.size ∧ (∀ i, i < cells.length → VR G (cells.getD i Go.undef) (cs.getD i Go.undef)) ∧ NFr cs.size fr ∧
    ∀ G' id, G' id cells.length = some ⟨w.heap.size, 0, cs.size, P.cellsOf t⟩ → VR G' (val id) v'
  one : ∀ i, i < cells.length → (cells.getD i Go.undef).oneCell = true

theorem NewOk.sound {P : Program} {G : Gh} {h : Heap} {w : World} (R : Rel P G h w.heap) {s : Sem Value} {cells : List Value} {t : TypeId} {val : Nat → Value} (q : NewOk P G w s cells t val) :
    ∃ G' w' v', s.run P w = .ok v' w' ∧ Rel P G' (aNew h cells t) w'.heap ∧ EvW G h w G' (aNew h cells t) w' ∧ VR G' (val h.length) v' := by
  obtain ⟨cs, fr, v', h1, h2, h3, h4, h5⟩ := q.ex
  obtain ⟨R', E'⟩ := R.new cells cs t fr h2 h3 q.one h4
  exact ⟨_, _, v', h1, R', ⟨E', rfl, rfl, rfl⟩, h5 _ _ (gput_same _ _ _ _)⟩

/-- What a made slice's row is, and its value. -/
def nMakeSlice (P : Program) (t : TypeId) : Value → Value → Option (List Value × TypeId × (Nat → Value))
  | .int _ l, .int _ c => match P.underlying t with
    | some (.slice el) => match aZero P el with
      | some z =>
        if 0 ≤ l ∧ l ≤ c ∧ c * P.bytesOf el ≤ 1099511627776 ∧ c ≤ 1099511627776 ∧ (vcells z).length = P.cellsOf el then
          some (zrow (vcells z) l.toNat, el, fun id => .slice (some ⟨id, 0, some (l.toNat * P.cellsOf el)⟩) l.toNat (if c = l then l.toNat else l.toNat + 1))
        else none
      | none => none
    | _ => none
  | _, _ => none

theorem aMakeSlice_n {P : Program} {h h' : Heap} {t : TypeId} {l c v : Value} (hm : aMakeSlice P h t l c = some (v, h')) : ∃ cells el val, nMakeSlice P t l c = some (cells, el, val) ∧ v = val h.length ∧ h' = aNew h cells el := by
  unfold aMakeSlice at hm
  unfold nMakeSlice
  split at hm <;> (try (cases hm; done))
  rename_i kl l kc c
  split at hm <;> (try (cases hm; done))
  rename_i el hu
  split at hm <;> (try (cases hm; done))
  rename_i z hz
  split at hm <;> (try (cases hm; done))
  rename_i hb
  cases hm
  refine ⟨_, _, fun id => .slice (some ⟨id, 0, some (l.toNat * P.cellsOf el)⟩) l.toNat (if c = l then l.toNat else l.toNat + 1), ?_, rfl, rfl⟩
  rw [if_pos hb]

theorem nMakeSlice_sound {P : Program} {G : Gh} {w : World} {t : TypeId} {l c l' c' : Value} {cells : List Value} {el₀ : TypeId} {val : Nat → Value} (hm : nMakeSlice P t l c = some (cells, el₀, val)) (hl : VR G l l') (hc : VR G c c') :
    NewOk P G w (Instr.makeSlice t l' c') cells el₀ val ∧ ∀ id, refLike (val id) = true := by
  unfold nMakeSlice at hm
  split at hm <;> (try (cases hm; done))
  rename_i kl l kc c
  have e1 := hl.of_plainAtom rfl; have e2 := hc.of_plainAtom rfl; subst e1 e2
  split at hm <;> (try (cases hm; done))
  rename_i el hu
  split at hm <;> (try (cases hm; done))
  rename_i z hz
  split at hm <;> (try (cases hm; done))
  rename_i hb
  obtain ⟨b1, b2, b3, b4, b5⟩ := hb
  simp only [Option.some.injEq, Prod.mk.injEq] at hm
  obtain ⟨rfl, rfl, rfl⟩ := hm
  obtain ⟨hzr, hzp⟩ := aZero_sound hz
  have hzi : ∃ i, P.info? el = some i ∧ i.zero = some z := by
    unfold aZero at hz
    cases hi : P.info? el with
    | none => simp [hi] at hz
    | some i =>
      simp only [hi, Option.bind_some] at hz
      cases hiz : i.zero with
      | none => simp [hiz] at hz
      | some z' =>
        simp only [hiz] at hz
        split at hz
        · cases hz; exact ⟨i, rfl, hiz⟩
        · cases hz
  obtain ⟨i, hi, hiz⟩ := hzi
  obtain ⟨q1, q2⟩ := bytes_of hi
  rw [q1] at b3
  rw [q2] at b5
  have hrun := run_make (P := P) w t el i z hu hi hiz kl kc l c b1 b2 (by rw [Int.mul_comm]; omega) (by omega)
  obtain ⟨hvl, hone⟩ := plainC_cells G hzp
  have hzl : z.cells.size = i.size := by have := hvl.1; simp at this; omega
  have hlen : (zrow (vcells z) l.toNat).length = l.toNat * i.size := by rw [zrow_length, b5]
  have hle : l.toNat * i.size ≤ c.toNat * i.size := Nat.mul_le_mul_right _ (by omega)
  refine ⟨⟨⟨madeCells z.cells (c.toNat * i.size), (0, 0), _, hrun, by rw [hlen, size_madeCells]; exact hle, zrow_vr hvl _ _ (by rw [b5]; exact hle), .inl rfl, fun G' id hg => ?_⟩, zrow_one hone _⟩, fun id => rfl⟩
  rw [hlen, ← q2] at hg
  have := VR.slice (off := 0) (len := l.toNat) (capA := if c = l then l.toNat else l.toNat + 1) (capC := c.toNat) hg (by omega)
    (fun q => by split at q <;> omega) (fun _ => by simp [size_madeCells, q2])
  simpa using this

theorem aMakeSlice_sound {P : Program} {G : Gh} {h h' : Heap} {w : World} (R : Rel P G h w.heap) {t : TypeId} {l c l' c' v : Value} (hm : aMakeSlice P h t l c = some (v, h')) (hl : VR G l l') (hc : VR G c c') :
    ∃ G' w' v', (Instr.makeSlice t l' c').run P w = .ok v' w' ∧ Rel P G' h' w'.heap ∧ EvW G h w G' h' w' ∧ VR G' v v' := by
  obtain ⟨cells, el, val, h1, rfl, rfl⟩ := aMakeSlice_n hm
  exact (nMakeSlice_sound h1 hl hc).1.sound R

end Go.Am
