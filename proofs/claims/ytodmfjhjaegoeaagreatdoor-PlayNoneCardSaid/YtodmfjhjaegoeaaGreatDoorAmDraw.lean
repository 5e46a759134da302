/- Regions that draw: rows may be made in any order and ahead of calls; reads may come on either side of a call that leaves what they read. -/
import Derived.Test.YtodmfjhjaegoeaaGreatDoorAmAny
set_option linter.unusedVariables false
set_option linter.unusedSimpArgs false
namespace Go.Am
variable {P : Program} {ops : Array Oper}

/-! ### New rows, wherever they come to lie -/
structure Hd where
  d : Option Tmp
  cells : List Value
  t : TypeId
  val : Nat → Value

def allocOp (P : Program) (fr : Fr) : Op → Option (List Value × TypeId × (Nat → Value))
  | .alloc t => (aZero P t).map fun z => (vcells z, t, fun id => aPtr id (vcells z).length)
  | .box t x => (ev fr x).bind fun v => if isTup v = true then none else some (vcells v, t, fun id => aPtr id (vcells v).length)
  | .buildSlice t len ps => (aParts fr ps.toList).bind (nBuildSlice P t len)
  | .makeSlice t l c => match ev fr l, ev fr c with
    | some u, some v => nMakeSlice P t u v
    | _, _ => none
  | _ => none
def isAlloc : Op → Bool
  | .alloc _ => true
  | .box _ _ => true
  | .buildSlice _ _ _ => true
  | .makeSlice _ _ _ => true
  | _ => false

theorem allocOp_eff {fr : Fr} {h h' : Heap} {op : Op} {v : Value} (ha : isAlloc op = true) (he : effOp P fr h op = some (v, h')) : ∃ cells t val, allocOp P fr op = some (cells, t, val) ∧ v = val h.length ∧ h' = aNew h cells t := by
  cases op <;> simp only [isAlloc, reduceCtorEq] at ha <;> simp only [effOp] at he
  case alloc t =>
    unfold aAlloc at he
    split at he <;> (try (cases he; done))
    rename_i z hz
    cases he
    exact ⟨_, _, fun id => aPtr id (vcells z).length, by simp [allocOp, hz], rfl, rfl⟩
  case box t x =>
    obtain ⟨u, hu, he⟩ := Option.bind_eq_some_iff.1 he
    unfold aBox at he
    split at he <;> (try (cases he; done))
    rename_i ht
    cases he
    exact ⟨_, _, fun id => aPtr id (vcells u).length, by simp [allocOp, hu, ht], rfl, rfl⟩
  case buildSlice t len ps =>
    obtain ⟨u, hu, he⟩ := Option.bind_eq_some_iff.1 he
    obtain ⟨cells, el, val, h1, h2, h3⟩ := aBuildSlice_n he
    exact ⟨cells, el, val, by simp [allocOp, hu, h1], h2, h3⟩
  case makeSlice t l c =>
    split at he <;> (try (cases he; done))
    rename_i u u' hx hy
    obtain ⟨cells, el, val, h1, h2, h3⟩ := aMakeSlice_n he
    exact ⟨cells, el, val, by simp [allocOp, hx, hy, h1], h2, h3⟩

theorem allocOp_congr {fr fr' : Fr} {op : Op} (h : ∀ x ∈ op.operands, ev fr x = ev fr' x) : allocOp P fr op = allocOp P fr' op := by
  cases op
  case buildSlice t l ps =>
    have h1 : aParts fr ps.toList = aParts fr' ps.toList := aParts_congr fun x hx => h x (by simpa [Op.operands] using hx)
    simp only [allocOp, h1]
  all_goals first
    | rfl
    | (simp only [allocOp]; repeat (rw [h _ (by simp [Op.operands])]))

theorem VR.refLike {G : Gh} {v v' : Value} (h : VR G v v') (hr : Am.refLike v = true) : Am.refLike v' = true := by
  cases h <;> first | exact hr | rfl | simp [Am.refLike] at hr

theorem allocOp_sound {G : Gh} {N : Nat} {fr : Fr} {a : Act} {o : Oper} {w : World} {cells : List Value} {t : TypeId} {val : Nat → Value} (hf : FR G N fr a.tmps) (hn : (o.op.operands.toList.all (inN N)) = true) (ha : allocOp P fr o.op = some (cells, t, val)) :
    ∃ s : Sem Value, (execOp a.eval o).run P w = ((s.run P w).andThen fun v w => .ok (.value v) w) ∧ NewOk P G w s cells t val ∧ ∀ id, refLike (val id) = true := by
  cases ho : o.op <;> rw [ho] at ha hn <;> simp only [allocOp, reduceCtorEq] at ha
  case alloc t =>
    obtain ⟨z, hz, ha⟩ := Option.map_eq_some_iff.1 ha
    cases ha
    exact ⟨_, by simp [execOp, ho], nAlloc_sound hz, fun id => rfl⟩
  case box t x =>
    obtain ⟨u, hu, ha⟩ := Option.bind_eq_some_iff.1 ha
    split at ha <;> (try (cases ha; done))
    rename_i ht
    cases ha
    exact ⟨_, by simp [execOp, ho], nBox_sound (by simpa using ht) (ev_sound hf (by simpa [Op.operands] using hn) hu), fun id => rfl⟩
  case buildSlice t len ps =>
    obtain ⟨us, hu, ha⟩ := Option.bind_eq_some_iff.1 ha
    obtain ⟨p1, p2⟩ := aParts_sound hf (ps := ps.toList) (by simpa [Op.operands, List.all_map] using hn) hu
    obtain ⟨h1, h2⟩ := nBuildSlice_sound (w := w) ha p1 p2
    refine ⟨_, ?_, h1, h2⟩
    have e : (ps.map fun p => (p.1, a.eval p.2)) = ((ps.toList.map fun p => (p.1, a.eval p.2)).toArray) := by apply Array.ext'; simp
    simp only [execOp, ho, Sem.run_bind, e]
    rfl
  case makeSlice t l c =>
    simp only [Op.operands, List.all_cons, List.all_nil, Bool.and_true, Bool.and_eq_true] at hn
    split at ha <;> (try (cases ha; done))
    rename_i u u' hx hy
    obtain ⟨h1, h2⟩ := nMakeSlice_sound (w := w) ha (ev_sound hf hn.1 hx) (ev_sound hf hn.2 hy)
    exact ⟨_, by simp [execOp, ho], h1, h2⟩

/-! ### A block that lies there already is taken into the abstract heap -/
theorem Rel.adopt {G : Gh} {h : Heap} {H : Array Obj} (R : Rel P G h H) {c : Nat} {cs : Array Value} {t : TypeId} {fr : Nat × Nat} (hc : H[c]? = some (.cells cs t fr)) (hfree : ∀ id e x, G id e = some x → x.cb ≠ c) {cells : List Value} (hle : cells.length ≤ cs.size)
    (hv : ∀ i, i < cells.length → VR G (cells.getD i Go.undef) (cs.getD i Go.undef)) (h1 : ∀ i, i < cells.length → (cells.getD i Go.undef).oneCell = true) (hf : NFr cs.size fr) :
    Rel P (gput G h.length cells.length ⟨c, 0, cs.size, P.cellsOf t⟩) (aNew h cells t) H := by
  have hclt : c < H.size := (Array.getElem?_eq_some_iff.1 hc).1
  obtain ⟨x, hx⟩ : ∃ x : Ent, x = ⟨c, 0, cs.size, P.cellsOf t⟩ := ⟨_, rfl⟩
  rw [← hx]
  have hxc : x.cb = c := by rw [hx]
  have hle' : le G (gput G h.length cells.length x) := le_gput (R.none_len _)
  have hlt : ∀ id (o' : AObj), h[id]? = some o' → id < h.length := fun id o' ho => (List.getElem?_eq_some_iff.1 ho).1
  have hold : ∀ id (o' : AObj), (aNew h cells t)[id]? = some o' → (id = h.length ∧ o' = .blk ⟨cells, t, 0, true⟩) ∨ h[id]? = some o' := fun id o' ho => by
    unfold aNew at ho
    by_cases hi : id < h.length
    · exact .inr (by rwa [List.getElem?_append_left hi] at ho)
    · rw [List.getElem?_append_right (by omega)] at ho
      by_cases hz : id - h.length = 0
      · rw [hz] at ho; exact .inl ⟨by omega, by simpa using ho.symm⟩
      · obtain ⟨k, hk⟩ : ∃ k, id - h.length = k + 1 := ⟨id - h.length - 1, by omega⟩
        rw [hk] at ho; simp at ho
  have hdl : ∀ id e x, G id e = some x → id < h.length := fun id e x q => let ⟨o', ho, _⟩ := R.dom _ _ _ q; hlt _ _ ho
  have hext : ∀ id, id < h.length → (Ext h id ↔ Ext (aNew h cells t) id) := fun id hi => by unfold Ext aNew; rw [List.getElem?_append_left hi]
  refine ⟨?_, ?_, ?_, ?_, ?_, ?_, ?_⟩
  · intro id e' y hy
    rcases gput_cases hy with ⟨rfl, rfl, rfl⟩ | hy
    · exact ⟨.blk ⟨cells, t, 0, true⟩, by simp [aNew], Nat.le_refl _, by rw [hx], fun _ => by rw [hx]⟩
    · obtain ⟨o', ho, hk⟩ := R.dom _ _ _ hy
      exact ⟨o', by unfold aNew; rw [List.getElem?_append_left (hlt _ _ ho)]; exact ho, hk⟩
  · intro id e' y hy
    rcases gput_cases hy with ⟨rfl, rfl, rfl⟩ | hy
    · rw [hxc]; exact hclt
    · exact R.bnd _ _ _ hy
  · intro id b hb e' y hy hlo
    rcases hold _ _ hb with ⟨rfl, hbo⟩ | hb
    · cases hbo
      rcases gput_cases hy with ⟨_, rfl, rfl⟩ | hy
      · refine ⟨cs, fr, by rw [hxc]; exact hc, by rw [hx], by rw [hx]; simpa using hle, fun i hi => ?_⟩
        have := (hv i hi).mono hle'
        rw [hx] at this ⊢
        simpa using this
      · rw [R.none_len] at hy; cases hy
    · rw [gput_other (by have := hlt _ _ hb; omega)] at hy
      obtain ⟨cs', fr', h1, h2, h3, h4⟩ := R.blk id b hb e' y hy hlo
      exact ⟨cs', fr', h1, h2, h3, fun i hi => (h4 i hi).mono hle'⟩
  · intro id b hb how
    rcases hold _ _ hb with ⟨rfl, hbo⟩ | hb
    · cases hbo
      exact ⟨Nat.zero_le _, x, gput_same _ _ _ _, cs, t, fr, by rw [hxc]; exact hc, hf⟩
    · obtain ⟨h1, y, h2, h3⟩ := R.own id b hb how
      exact ⟨h1, y, hle' _ _ _ h2, h3⟩
  · intro id b hb i hi
    rcases hold _ _ hb with ⟨rfl, hbo⟩ | hb
    · cases hbo; exact h1 i hi
    · exact R.one id b hb i hi
  · intro id o' ho hn
    rcases hold _ _ ho with ⟨rfl, rfl⟩ | ho
    · cases hn
    · obtain ⟨y, O', h1, h2, h3⟩ := R.obj id o' ho hn
      exact ⟨y, O', hle' _ _ _ h1, h2, h3.mono hle'⟩
  · intro id id' e₁ e₂ y y' hy hy' hcc
    rcases gput_cases hy with ⟨i1, _, y1⟩ | hy1
    · rcases gput_cases hy' with ⟨i2, _, _⟩ | hy2
      · exact .inl (i1.trans i2.symm)
      · exact absurd (by rw [← hcc, y1, hxc]) (hfree _ _ _ hy2)
    · rcases gput_cases hy' with ⟨_, _, y2⟩ | hy2
      · exact absurd (by rw [hcc, y2, hxc]) (hfree _ _ _ hy1)
      · rcases R.disj _ _ _ _ _ _ hy1 hy2 hcc with hi | ⟨a, b⟩
        · exact .inl hi
        · exact .inr ⟨(hext _ (hdl _ _ _ hy1)).1 a, (hext _ (hdl _ _ _ hy2)).1 b⟩

theorem EvW.adopt {G₀ G : Gh} {h₀ h : Heap} {W₀ w : World} (E : EvW G₀ h₀ W₀ G h w) (R : Rel P G h w.heap) {e : Nat} {x : Ent} (hc : W₀.heap.size ≤ x.cb) {o : AObj} : EvW G₀ h₀ W₀ (gput G h.length e x) (h ++ [o]) w := by
  have hlt : ∀ id (o' : AObj), h[id]? = some o' → id < h.length := fun id o' ho => (List.getElem?_eq_some_iff.1 ho).1
  refine ⟨⟨le_trans E.le (le_gput (R.none_len _)), E.size, E.keep, fun id e' y hy => ?_, fun id e' y hy => ?_, fun id r hr => ?_⟩, E.os, E.tape, E.output⟩
  · rcases gput_cases hy with ⟨_, _, rfl⟩ | hy
    · exact .inr hc
    · exact E.new _ _ _ hy
  · obtain ⟨o', ho, _⟩ := R.dom _ _ _ (E.le _ _ _ hy)
    rw [E.ext id e' y hy]
    unfold Ext
    rw [List.getElem?_append_left (hlt _ _ ho)]
  · obtain ⟨r', hr'⟩ := E.loops id r hr
    exact ⟨r', by rw [List.getElem?_append_left (hlt _ _ hr')]; exact hr'⟩

/-- A row that was made and isn't in the abstract heap yet. -/
def HdOk (P : Program) (B : Nat) (G : Gh) (H : Array Obj) (tmps : Array Value) (x : Hd) (c : Nat) : Prop :=
  B ≤ c ∧ ∃ cs fr v', H[c]? = some (.cells cs x.t fr) ∧ x.cells.length ≤ cs.size ∧ (∀ i, i < x.cells.length → VR G (x.cells.getD i Go.undef) (cs.getD i Go.undef)) ∧ (∀ i, i < x.cells.length → (x.cells.getD i Go.undef).oneCell = true) ∧ NFr cs.size fr ∧
    (∀ id e y, G id e = some y → y.cb ≠ c) ∧ (∀ t, x.d = some t → tmps.getD t Go.undef = v') ∧ ∀ G' id, G' id x.cells.length = some ⟨c, 0, cs.size, P.cellsOf x.t⟩ → VR G' (x.val id) v'

theorem HdOk.step {B : Nat} {G G' : Gh} {h h' : Heap} {H H' : Array Obj} {tmps tmps' : Array Value} {x : Hd} {c : Nat} (q : HdOk P B G H tmps x c) (E : Ev G h H G' h' H') (ht : ∀ t, x.d = some t → tmps'.getD t Go.undef = tmps.getD t Go.undef) : HdOk P B G' H' tmps' x c := by
  obtain ⟨h0, cs, fr, v', h1, h2, h3, h4, h5, h6, h7, h8⟩ := q
  have hlt := (Array.getElem?_eq_some_iff.1 h1).1
  refine ⟨h0, cs, fr, v', (E.keep c hlt fun id e y hy hc => absurd hc (h6 _ _ _ hy)).trans h1, h2, fun i hi => (h3 i hi).mono E.le, h4, h5, fun id e y hy => ?_, fun t hd => (ht t hd).trans (h7 t hd), h8⟩
  rcases E.new _ _ _ hy with ⟨e₀, y₀, k1, k2⟩ | hge
  · rw [← k2]; exact h6 _ _ _ k1
  · omega

def topV : Value := .chan (some 0)

inductive Com : List Hd → Fr → Heap → List Hd → Fr → Heap → Prop
  | nil {hs fr h} : Com hs fr h hs fr h
  | cons {pre x post fr h hs' fr' h'} (q : Com (pre ++ post) (put fr x.d (x.val h.length)) (aNew h x.cells x.t) hs' fr' h') : Com (pre ++ x :: post) fr h hs' fr' h'

def AAnyH (P : Program) (ops : Array Oper) (Q : Fr → Heap → Prop) : Nat → Array Bool → List Hd → Fr → Heap → Prop
  | 0, listed, hs, fr, h => ∃ fr' h', Com hs fr h [] fr' h' ∧ Region.ready .any ops listed = [] ∧ Q fr' h'
  | k + 1, listed, hs, fr, h => ∃ hs' fr' h', Com hs fr h hs' fr' h' ∧ (Region.ready .any ops listed = [] → hs' = [] ∧ Q fr' h') ∧ ∀ i ∈ Region.ready .any ops listed,
      (∃ o cells t val, ops[i]? = some o ∧ wantedA ops fr' o = true ∧ allocOp P fr' o.op = some (cells, t, val) ∧ (∀ t, o.dst = some t → ∀ x ∈ hs', x.d ≠ some t) ∧
        AAnyH P ops Q k (listed.setIfInBounds i true) (hs' ++ [⟨o.dst, cells, t, val⟩]) (put fr' o.dst topV) h') ∨
      ((∀ o, ops[i]? = some o → ∀ t, o.dst = some t → ∀ x ∈ hs', x.d ≠ some t) ∧ AAt P ops i (AAnyH P ops Q k (listed.setIfInBounds i true) hs') fr' h')

/-- The state, concretely. -/
structure DSt (P : Program) (N : Nat) (G₀ : Gh) (h₀ : Heap) (W₀ : World) (ds : List Deferred) (hs : List Hd) (cs : List Nat) (G : Gh) (fr : Fr) (h : Heap) (a : Act) (w : World) : Prop where
  rel : Rel P G h w.heap
  fr : FR G N fr a.tmps
  ev : EvW G₀ h₀ W₀ G h w
  ds : a.defers = ds
  len : hs.length = cs.length
  held : ∀ (k : Nat) (x : Hd) (c : Nat), hs[k]? = some x → cs[k]? = some c → HdOk P W₀.heap.size G w.heap a.tmps x c
  nodup : cs.Nodup

theorem Com.sound {N : Nat} {G₀ : Gh} {h₀ : Heap} {W₀ : World} {ds : List Deferred} {hs hs' : List Hd} {fr fr' : Fr} {h h' : Heap} (q : Com hs fr h hs' fr' h') : ∀ {cs : List Nat} {G : Gh} {a : Act} {w : World}, DSt P N G₀ h₀ W₀ ds hs cs G fr h a w →
    ∃ cs' G', DSt P N G₀ h₀ W₀ ds hs' cs' G' fr' h' a w := by
  induction q with
  | nil => exact fun S => ⟨_, _, S⟩
  | @cons pre x post fr h hs' fr' h' q ih =>
    intro cs G a w S
    have hk : pre.length < cs.length := by rw [← S.len]; simp
    obtain ⟨pc, c, qc, hcs, hpc⟩ : ∃ pc c qc, cs = pc ++ c :: qc ∧ pc.length = pre.length := ⟨cs.take pre.length, cs[pre.length], cs.drop (pre.length + 1), by rw [← List.drop_eq_getElem_cons hk, List.take_append_drop], by simp; omega⟩
    subst hcs
    have hx := S.held pre.length x c (by simp) (by rw [← hpc]; simp)
    obtain ⟨k0, cells', fr₁, v', k1, k2, k3, k4, k5, k6, k7, k8⟩ := hx
    have R' := S.rel.adopt k1 k6 k2 k3 k4 k5
    have hvr := k8 _ _ (gput_same G h.length x.cells.length ⟨c, 0, cells'.size, P.cellsOf x.t⟩)
    have hle : le G (gput G h.length x.cells.length ⟨c, 0, cells'.size, P.cellsOf x.t⟩) := le_gput (S.rel.none_len _)
    refine ih (cs := pc ++ qc) (G := gput G h.length x.cells.length ⟨c, 0, cells'.size, P.cellsOf x.t⟩) ⟨R', ?_, S.ev.adopt S.rel k0, S.ds, by have := S.len; simp at this ⊢; omega, ?_, ?_⟩
    · refine ⟨S.fr.1, fun s hs => ?_⟩
      cases hd : x.d with
      | none => exact (S.fr.2 s hs).mono hle
      | some t =>
        simp only [put, upd]
        by_cases hst : s = t
        · rw [if_pos hst, hst, k7 t hd]; exact hvr
        · rw [if_neg hst]; exact (S.fr.2 s hs).mono hle
    · intro k y cy hy hcy
      have hnd := List.nodup_append.1 S.nodup
      -- the same row in the longer list
      have key : ∃ k', (pre ++ x :: post)[k']? = some y ∧ (pc ++ c :: qc)[k']? = some cy ∧ k' ≠ pre.length := by
        by_cases hk : k < pre.length
        · refine ⟨k, ?_, ?_, by omega⟩
          · rw [List.getElem?_append_left hk] at hy ⊢; exact hy
          · rw [List.getElem?_append_left (by omega)] at hcy ⊢; exact hcy
        · refine ⟨k + 1, ?_, ?_, by omega⟩
          · rw [List.getElem?_append_right (by omega)] at hy
            rw [List.getElem?_append_right (by omega), show k + 1 - pre.length = (k - pre.length) + 1 by omega]
            simpa using hy
          · rw [List.getElem?_append_right (by omega)] at hcy
            rw [List.getElem?_append_right (by omega), show k + 1 - pc.length = (k - pc.length) + 1 by omega]
            simpa using hcy
      obtain ⟨k', e1, e2, hne⟩ := key
      obtain ⟨j0, cs₂, fr₂, v₂, j1, j2, j3, j4, j5, j6, j7, j8⟩ := S.held k' y cy e1 e2
      refine ⟨j0, cs₂, fr₂, v₂, j1, j2, fun i hi => (j3 i hi).mono hle, j4, j5, fun id e z hz => ?_, j7, j8⟩
      rcases gput_cases hz with ⟨_, _, rfl⟩ | hz
      · intro hcc
        have e3 : (pc ++ c :: qc)[pre.length]? = some c := by rw [← hpc]; simp
        simp only at hcc
        subst hcc
        have := (List.getElem?_inj (List.getElem?_eq_some_iff.1 e2).1 S.nodup).1 (e2.trans e3.symm)
        exact hne this
      · exact j6 _ _ _ hz
    · have := S.nodup
      rw [List.nodup_append] at this ⊢
      obtain ⟨n1, n2, n3⟩ := this
      exact ⟨n1, (List.nodup_cons.1 n2).2, fun a ha b hb => n3 a ha b (List.mem_cons_of_mem _ hb)⟩

theorem AAnyH_sound {N n : Nat} {ro : Option Nat} {Q : Fr → Heap → Prop} {Q' : Exit → Act → World → Prop} (hok : opsOk N ops.toList = true) {G₀ : Gh} {h₀ : Heap} {W₀ : World} {ds : List Deferred}
    (hQ : ∀ G fr h a w, Q fr h → Rel P G h w.heap → FR G N fr a.tmps → EvW G₀ h₀ W₀ G h w → a.defers = ds → Q' .normal a w) :
    ∀ (k : Nat) (listed : Array Bool) (hs : List Hd) (cs : List Nat) (G : Gh) (fr : Fr) (h : Heap) (a : Act) (w : World), AAnyH P ops Q k listed hs fr h → DSt P N G₀ h₀ W₀ ds hs cs G fr h a w → wpAnyIn (fence ro) n P .any ops Q' k listed a w
  | 0, listed, hs, cs, G, fr, h, a, w, q, S => by
    obtain ⟨fr', h', hc, hr, hq⟩ := q
    obtain ⟨cs', G', S'⟩ := hc.sound S
    exact ⟨hr, hQ G' fr' h' a w hq S'.rel S'.fr S'.ev S'.ds⟩
  | k + 1, listed, hs, cs, G, fr, h, a, w, q, S => by
    obtain ⟨hs', fr', h', hc, hq, hi⟩ := q
    obtain ⟨cs', G', S'⟩ := hc.sound S
    refine ⟨fun e => hQ G' fr' h' a w (hq e).2 S'.rel S'.fr S'.ev S'.ds, fun i hir => ?_⟩
    have hi := hi i hir
    obtain ⟨_, o, ho, _⟩ := mem_ready.1 hir
    unfold wpOpIn
    rw [ho]
    simp only
    have hmem : operOk N o = true := List.all_eq_true.1 hok o (Array.mem_toList_iff.2 (Array.mem_of_getElem? ho))
    have hd := operOk_dst hmem
    have hn1 : (o.op.operands.toList.all (inN N)) = true := by simp only [operOk, Bool.and_eq_true] at hmem; exact hmem.1
    rw [wanted_eq S'.fr hok o]
    have other : ∀ (u : Value), (∀ t, o.dst = some t → ∀ x ∈ hs', x.d ≠ some t) → ∀ x ∈ hs', ∀ t, x.d = some t → (a.put o.dst u).tmps.getD t Go.undef = a.tmps.getD t Go.undef := by
      intro u hne x hx t hxt
      cases hod : o.dst with
      | none => rfl
      | some d =>
        have : d ≠ t := fun q => hne d hod x hx (by rw [hxt, q])
        simp [Act.put, Array.getD_eq_getD_getElem?, Array.getElem?_setIfInBounds, this]
    rcases hi with ⟨o', cells, t, val, ho', hw, hal, hne, hq⟩ | ⟨hne, hq⟩
    · -- a row is made; it is taken in later
      rw [ho] at ho'; cases ho'
      rw [if_pos hw]
      obtain ⟨s, hrun, hnew, href⟩ := allocOp_sound (w := w) S'.fr hn1 hal
      obtain ⟨⟨cs₁, fr₁, v', e1, e2, e3, e4, e5⟩, e6⟩ := hnew
      refine ⟨fun _ _ => trivial, ?_⟩
      rw [Oper.semAt_eq _ _ _ (fun c hc => by rw [hc] at hal; simp [allocOp] at hal)]
      rw [hrun, e1]
      show wpAnyIn (fence ro) n P .any ops Q' k _ (a.put o.dst v') _
      have hH : ∀ b, b < w.heap.size → (w.heap.push (.cells cs₁ t fr₁))[b]? = w.heap[b]? := fun b hb => by rw [Array.getElem?_push, if_neg (by omega)]
      have E₁ : EvW G' h' w G' h' { w with heap := w.heap.push (.cells cs₁ t fr₁) } := ⟨(Ev.refl G' h' w.heap).off (by simp) hH, rfl, rfl, rfl⟩
      have hv := e5 (fun _ _ => some ⟨w.heap.size, 0, cs₁.size, P.cellsOf t⟩) 0 rfl
      refine AAnyH_sound hok hQ k _ _ (cs' ++ [w.heap.size]) G' _ h' _ _ hq ⟨S'.rel.off (by simp) fun id e x hx => hH _ (S'.rel.bnd _ _ _ hx), S'.fr.put hd (.top (hv.refLike (href 0))), S'.ev.trans E₁, (put_defers _ _ _).trans S'.ds, by simp [S'.len], ?_, ?_⟩
      · intro k' x c hx hc
        by_cases hk : k' < hs'.length
        · rw [List.getElem?_append_left hk] at hx
          rw [List.getElem?_append_left (by rw [← S'.len]; exact hk)] at hc
          exact (S'.held k' x c hx hc).step E₁.toEv (fun t ht => other v' hne x (List.mem_of_getElem? hx) t ht)
        · rw [List.getElem?_append_right (by omega)] at hx
          rw [List.getElem?_append_right (by rw [← S'.len]; omega)] at hc
          have hz : k' - hs'.length = 0 := by
            rcases Nat.eq_zero_or_pos (k' - hs'.length) with h | h
            · exact h
            · obtain ⟨m, hm⟩ : ∃ m, k' - hs'.length = m + 1 := ⟨_, (Nat.succ_pred_eq_of_pos h).symm⟩
              rw [hm] at hx; simp at hx
          rw [hz] at hx
          rw [← S'.len, hz] at hc
          simp only [List.getElem?_cons_zero, Option.some.injEq] at hx hc
          subst hx hc
          refine ⟨S'.ev.size, cs₁, fr₁, v', by simp, e2, e3, e6, e4, fun id e y hy => ?_, fun t ht => ?_, e5⟩
          · have := S'.rel.bnd _ _ _ hy; omega
          · have hlt := hd t ht
            simp only at ht
            rw [ht]
            have hsz : t < a.tmps.size := by rw [S'.fr.1]; exact hlt
            simp [Act.put, Array.getD_eq_getD_getElem?, hsz]
      · rw [List.nodup_append]
        refine ⟨S'.nodup, by simp, fun c hc b hb => ?_⟩
        simp only [List.mem_singleton] at hb
        obtain ⟨k', hk'⟩ := List.getElem?_of_mem hc
        have hklt : k' < hs'.length := by rw [S'.len]; exact (List.getElem?_eq_some_iff.1 hk').1
        obtain ⟨_, cs₂, _, _, j1, _⟩ := S'.held k' hs'[k'] c (List.getElem?_eq_getElem hklt) hk'
        have := (Array.getElem?_eq_some_iff.1 j1).1
        omega
    · unfold AAt at hq
      rw [ho] at hq
      simp only at hq
      have hne := hne o ho
      unfold AStep at hq
      split at hq
      · rename_i hw
        rw [if_pos hw]
        refine Oper.wpIn_mono (fun a' w' z => ?_) (AOp_sound (Q := Q') S'.rel S'.fr hmem hq)
        obtain ⟨G₂, fr₂, h₂, q1, q2, q3, q4, u, rfl⟩ := z
        exact AAnyH_sound hok hQ k _ hs' cs' G₂ fr₂ h₂ _ w' q1 ⟨q2, q3, S'.ev.trans q4, (put_defers _ _ _).trans S'.ds, S'.len, fun k' x c hx hc => (S'.held k' x c hx hc).step q4.toEv (fun t ht => other u hne x (List.mem_of_getElem? hx) t ht), S'.nodup⟩
      · rename_i hw
        rw [if_neg hw]
        exact ⟨fun _ _ => trivial, AAnyH_sound hok hQ k _ hs' cs' G' _ h' _ w hq ⟨S'.rel, S'.fr.put hd (VR.undef G'), S'.ev, (put_defers _ _ _).trans S'.ds, S'.len, fun k' x c hx hc => (S'.held k' x c hx hc).step (Ev.refl G' h' w.heap) (fun t ht => other _ hne x (List.mem_of_getElem? hx) t ht), S'.nodup⟩⟩

theorem AAnyH_inh {Q : Fr → Heap → Prop} : ∀ (k : Nat) (listed : Array Bool) (hs : List Hd) (fr : Fr) (h : Heap), AAnyH P ops Q k listed hs fr h → ∃ fr' h', Q fr' h'
  | 0, _, _, fr, h, q => let ⟨fr', h', _, _, q⟩ := q; ⟨fr', h', q⟩
  | k + 1, listed, hs, fr, h, q => by
    obtain ⟨hs', fr', h', hc, hq, hi⟩ := q
    cases hr : Region.ready .any ops listed with
    | nil => exact ⟨_, _, (hq hr).2⟩
    | cons i r =>
      rcases hi i (by rw [hr]; exact List.mem_cons_self) with ⟨o, cells, t, val, _, _, _, _, q⟩ | ⟨_, q⟩
      · exact AAnyH_inh k _ _ _ _ q
      · obtain ⟨fr₂, h₂, q⟩ := AAt_inh q
        exact AAnyH_inh k _ _ _ _ q

theorem AW_region_held {N : Nat} {Q : Exit → Fr → Heap → Prop} {fr : Fr} {h : Heap} {id : Nat} (hm : P.follows .mixedOrders = true) (hok : opsOk N ops.toList = true)
    (q : AAnyH P ops (Q .normal) ops.size (Array.replicate ops.size false) [] fr h) : AW P N (.region id ops true) Q fr h := by
  refine ⟨?_, fun n ro B G w a R F D => wpIn_region_any hm ?_⟩
  · obtain ⟨f, g, z⟩ := AAnyH_inh _ _ _ _ _ q
    exact ⟨.normal, f, g, z, rfl⟩
  · refine AAnyH_sound (Q' := WPost P N B G h w ro Q) hok (G₀ := G) (h₀ := h) (W₀ := w) (ds := a.defers) ?_ _ _ [] [] G fr h a { w with drawn := w.drawn + 1 } q ⟨R, F, ⟨Ev.refl _ _ _, rfl, rfl, rfl⟩, rfl, rfl, fun k x c hx => by simp at hx, List.nodup_nil⟩
    intro G' fr' h' a' w' z R' F' E' D'
    exact ⟨rfl, G', fr', h', z, R', F', E', by rw [D']; exact D.ev E'.toEv⟩
end Go.Am
