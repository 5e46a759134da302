/- The model's memory: reading rows of cells, writing them, new ones; the abstract heap beside. -/
import Derived.Test.YtodmfjhjaegoeaaGreatDoorAmOps
import Derived.Laws.MakeOwn
set_option linter.unusedVariables false
set_option linter.unusedSimpArgs false
namespace Go.Am

def wcells (w : World) (cb : Nat) (cs : Array Value) (t : TypeId) (fr : Nat × Nat) : World := { w with heap := w.heap.setIfInBounds cb (.cells cs t fr) }

theorem wcells_heap (w : World) (cb : Nat) (cs : Array Value) (t : TypeId) (fr : Nat × Nat) : (wcells w cb cs t fr).heap = w.heap.setIfInBounds cb (.cells cs t fr) := rfl

theorem setCell_eq {w : World} {cb o : Nat} {cs : Array Value} {t : TypeId} {fr : Nat × Nat} {v : Value} (h : w.heap[cb]? = some (.cells cs t fr)) :
    w.setCell ⟨cb, o, none⟩ v = wcells w cb (cs.setIfInBounds o v) t fr := by
  obtain ⟨hlt, he⟩ := Array.getElem?_eq_some_iff.1 h
  simp only [World.setCell, wcells]
  congr 1
  apply Array.ext_getElem?
  intro i
  rw [Array.getElem?_modify, Array.getElem?_setIfInBounds]
  by_cases hi : cb = i
  · subst hi; simp [he, hlt]
  · simp [hi]

theorem cell_of {w : World} {cb o : Nat} {cs : Array Value} {t : TypeId} {fr : Nat × Nat} (h : w.heap[cb]? = some (.cells cs t fr)) (ho : o < cs.size) : w.cell? ⟨cb, o, none⟩ = some (cs.getD o Go.undef) := by
  simp [World.cell?, h, Array.getD_eq_getD_getElem?, ho]

theorem frozen_of {w : World} {cb o : Nat} {cs : Array Value} {t : TypeId} {fr : Nat × Nat} (h : w.heap[cb]? = some (.cells cs t fr)) (hf : ¬ (fr.1 ≤ o ∧ o < fr.2)) : w.frozen? ⟨cb, o, none⟩ = false := by
  obtain ⟨lo, hi⟩ := fr
  simp only [World.frozen?, h, Bool.and_eq_false_iff, decide_eq_false_iff_not]
  simp only at hf
  omega

theorem run_store_one {P : Program} {w : World} {cb o : Nat} {cs : Array Value} {t : TypeId} {fr : Nat × Nat} {v : Value} (h : w.heap[cb]? = some (.cells cs t fr)) (ho : o < cs.size)
    (hf : ¬ (fr.1 ≤ o ∧ o < fr.2)) (hv : v.oneCell = true) : (store ⟨cb, o, none⟩ v).run P w = .ok () (wcells w cb (cs.setIfInBounds o v) t fr) := by
  rw [← setCell_eq h]
  cases v <;> simp only [store, Sem.run, cell_of h ho, frozen_of h hf] <;> first | rfl | simp [Value.oneCell] at hv

theorem wcells_get {w : World} {cb : Nat} {cs : Array Value} {t : TypeId} {fr : Nat × Nat} (h : cb < w.heap.size) : (wcells w cb cs t fr).heap[cb]? = some (.cells cs t fr) := by
  simp [wcells, h]
theorem wcells_twice (w : World) (cb : Nat) (cs cs' : Array Value) (t : TypeId) (fr : Nat × Nat) : wcells (wcells w cb cs t fr) cb cs' t fr = wcells w cb cs' t fr := by
  simp only [wcells]
  congr 1
  apply Array.ext_getElem?
  intro i
  simp only [Array.getElem?_setIfInBounds, Array.size_setIfInBounds]
  split <;> simp_all

theorem run_storeCells {P : Program} {cb o : Nat} {t : TypeId} {fr : Nat × Nat} : ∀ (vs : List Value) (i : Nat) (cs : Array Value) (w : World), w.heap[cb]? = some (.cells cs t fr) → o + i + vs.length ≤ cs.size →
    (∀ j, j < cs.size → ¬ (fr.1 ≤ j ∧ j < fr.2)) → (∀ v ∈ vs, v.oneCell = true) →
    (storeCells ⟨cb, o, none⟩ vs i).run P w = .ok () (if vs = [] then w else wcells w cb ((vs.zipIdx i).foldl (fun (cs : Array Value) (x : Value × Nat) => cs.setIfInBounds (o + x.2) x.1) cs) t fr)
  | [], i, cs, w, _, _, _, _ => by simp [storeCells]
  | v :: vs, i, cs, w, h, hle, hf, hv => by
    have hlt : o + i < cs.size := by simp at hle; omega
    have hcb : cb < w.heap.size := (Array.getElem?_eq_some_iff.1 h).1
    have ih := run_storeCells (P := P) (o := o) vs (i + 1) (cs.setIfInBounds (o + i) v) (wcells w cb (cs.setIfInBounds (o + i) v) t fr) (wcells_get hcb) (by simp at hle ⊢; omega)
      (by simpa using hf) (fun u hu => hv u (List.mem_cons_of_mem _ hu))
    simp only [storeCells, Sem.run_bind, add_addr, run_store_one h hlt (hf _ hlt) (hv v List.mem_cons_self), Result.andThen_ok, ih]
    simp only [List.zipIdx_cons, List.foldl_cons, reduceCtorEq, if_false, wcells_twice]
    cases vs with
    | nil => simp
    | cons u us => simp

/-- Writing a list of cells: what the row holds then. -/
def putRow (cs : Array Value) (o : Nat) (vs : List Value) : Array Value := (cs.toList.take o ++ (vs ++ cs.toList.drop (o + vs.length))).toArray

theorem run_storeRow {P : Program} {w : World} {cb o : Nat} {cs : Array Value} {t : TypeId} {fr : Nat × Nat} {vs : List Value} (h : w.heap[cb]? = some (.cells cs t fr)) (hle : o + vs.length ≤ cs.size)
    (hf : ∀ j, j < cs.size → ¬ (fr.1 ≤ j ∧ j < fr.2)) (hv : ∀ v ∈ vs, v.oneCell = true) : (storeCells ⟨cb, o, none⟩ vs).run P w = .ok () (wcells w cb (putRow cs o vs) t fr) := by
  have hr := run_storeCells (P := P) vs 0 cs w h (by omega) hf hv
  rw [hr]
  have e : (vs.zipIdx 0).foldl (fun (cs : Array Value) (x : Value × Nat) => cs.setIfInBounds (o + x.2) x.1) cs = putRow cs o vs := by
    apply Array.toList_inj.1
    rw [foldl_put, foldl_set vs o 0 cs.toList (by simpa using hle)]
    simp [putRow]
  rw [e]
  split
  · rename_i hn
    subst hn
    congr 1
    have hlt := (Array.getElem?_eq_some_iff.1 h)
    simp only [wcells]
    have : w.heap.setIfInBounds cb (.cells (putRow cs o []) t fr) = w.heap := by
      apply Array.ext_getElem?
      intro i
      rw [Array.getElem?_setIfInBounds]
      by_cases hi : cb = i
      · subst hi
        obtain ⟨q1, q2⟩ := hlt
        simp [putRow, q1, q2]
      · simp [hi]
    rw [this]
  · rfl

theorem putRow_size {cs : Array Value} {o : Nat} {vs : List Value} (h : o + vs.length ≤ cs.size) : (putRow cs o vs).size = cs.size := by
  simp [putRow]; omega

theorem putRow_get {cs : Array Value} {o : Nat} {vs : List Value} (h : o + vs.length ≤ cs.size) (i : Nat) :
    (putRow cs o vs).getD i Go.undef = if i < o then cs.getD i Go.undef else if i < o + vs.length then vs.getD (i - o) Go.undef else cs.getD i Go.undef := by
  simp only [Array.getD_eq_getD_getElem?, putRow, List.getD_eq_getElem?_getD]
  rw [List.getElem?_toArray]
  have hl : (cs.toList.take o).length = o := by simp; omega
  by_cases h1 : i < o
  · rw [if_pos h1, List.getElem?_append_left (by omega), List.getElem?_take, if_pos h1, Array.getElem?_toList]
  · rw [if_neg h1, List.getElem?_append_right (by omega), hl]
    by_cases h2 : i < o + vs.length
    · rw [if_pos h2, List.getElem?_append_left (by omega)]
    · rw [if_neg h2, List.getElem?_append_right (by omega), List.getElem?_drop, Array.getElem?_toList]
      congr 2; omega

/-! ### Reading -/
theorem run_loadRow {P : Program} {w : World} {cb o n : Nat} {cs : Array Value} {t : TypeId} {fr : Nat × Nat} (h : w.heap[cb]? = some (.cells cs t fr)) (hle : o + n ≤ cs.size) :
    (loadCells ⟨cb, o, none⟩ n).run P w = .ok ((cs.toList.drop o).take n).toArray w := by
  have := run_loadCells_list (P := P) w ⟨cb, o, none⟩ ((cs.toList.drop o).take n) (fun j v hj => by
    obtain ⟨hjl, _⟩ := List.getElem?_eq_some_iff.1 hj
    have hjn : j < n := by simp at hjl; omega
    rw [add_addr, cell_of h (by omega)]
    rw [List.getElem?_take, if_pos hjn, List.getElem?_drop, Array.getElem?_toList] at hj
    simp [Array.getD_eq_getD_getElem?, hj])
  have hl : ((cs.toList.drop o).take n).length = n := by simp; omega
  rw [hl] at this
  exact this

/-- What a row of an abstract block reads as. -/
def rowAt (h : Heap) (a : Addr) (n : Nat) : Option (List Value) :=
  match a.spot, h[a.block]? with
  | some e, some (.blk b) => if b.lo ≤ e ∧ e ≤ b.cells.length ∧ a.off + n ≤ e then some ((b.cells.drop a.off).take n) else none
  | _, _ => none

theorem rowAt_sound {P : Program} {G : Gh} {h : Heap} {w : World} (R : Rel P G h w.heap) {id off e n : Nat} {x : Ent} {cells : List Value} (hg : G id e = some x)
    (hr : rowAt h ⟨id, off, some e⟩ n = some cells) :
    ∃ cs t fr, w.heap[x.cb]? = some (.cells cs t fr) ∧ x.d + off + n ≤ cs.size ∧ VL G cells ((cs.toList.drop (x.d + off)).take n) ∧ cells.length = n ∧ (∀ i, i < cells.length → (cells.getD i Go.undef).oneCell = true) := by
  unfold rowAt at hr
  simp only at hr
  split at hr <;> (try (cases hr; done))
  rename_i e' b he hb
  cases he
  split at hr <;> (try (cases hr; done))
  rename_i hc
  simp only [Option.some.injEq] at hr; subst hr
  obtain ⟨cs, fr, h1, h2, h3, h4⟩ := R.blk id b hb e x hg hc.1
  refine ⟨cs, _, fr, h1, by omega, ⟨?_, fun i hi => ?_⟩, by simp; omega, fun i hi => ?_⟩
  · simp; omega
  · have hi' : i < n := by simp at hi; omega
    have := h4 (off + i) (by omega)
    rw [getD_drop_take hi', getD_drop_take hi']
    simpa [List.getD_eq_getElem?_getD, Array.getD_eq_getD_getElem?, Nat.add_assoc] using this
  · have hi' : i < n := by simp at hi; omega
    rw [getD_drop_take hi']
    exact R.one id b hb _ (by omega)

/-! ### A new block; a write; a growth -/
theorem Rel.new {P : Program} {G : Gh} {h : Heap} {H : Array Obj} (R : Rel P G h H) (cells : List Value) (cs : Array Value) (t : TypeId) (fr : Nat × Nat) (hle : cells.length ≤ cs.size)
    (hv : ∀ i, i < cells.length → VR G (cells.getD i Go.undef) (cs.getD i Go.undef)) (h1 : ∀ i, i < cells.length → (cells.getD i Go.undef).oneCell = true) (hf : NFr cs.size fr) :
    Rel P (gput G h.length cells.length ⟨H.size, 0, cs.size, P.cellsOf t⟩) (h ++ [.blk ⟨cells, t, 0, true⟩]) (H.push (.cells cs t fr)) ∧
    Ev G h H (gput G h.length cells.length ⟨H.size, 0, cs.size, P.cellsOf t⟩) (h ++ [.blk ⟨cells, t, 0, true⟩]) (H.push (.cells cs t fr)) := by
  have hle' : le G (gput G h.length cells.length ⟨H.size, 0, cs.size, P.cellsOf t⟩) := le_gput (R.none_len _)
  refine R.add _ _ _ _ rfl ⟨Nat.le_refl _, rfl, fun _ => rfl⟩ ⟨?_, ?_, ?_, ?_⟩
  · intro b hb e x hx _
    cases hb
    rcases gput_cases hx with ⟨_, rfl, rfl⟩ | hx
    · refine ⟨cs, fr, by simp, rfl, by simpa using hle, fun i hi => ?_⟩
      simpa using (hv i hi).mono hle'
    · rw [R.none_len] at hx; cases hx
  · intro b hb _
    cases hb
    exact ⟨Nat.zero_le _, _, gput_same _ _ _ _, cs, t, fr, by simp, hf⟩
  · intro b hb i hi
    cases hb
    exact h1 i hi
  · intro hn; cases hn

theorem Rel.write {P : Program} {G : Gh} {h : Heap} {H : Array Obj} (R : Rel P G h H) {id : Nat} {b : Blk} (hb : h[id]? = some (.blk b)) (how : b.own = true) {x : Ent} (hx : G id b.cells.length = some x)
    {cs : Array Value} {fr : Nat × Nat} (hc : H[x.cb]? = some (.cells cs b.elem fr)) (cells' : List Value) (cs' : Array Value) (hl : cells'.length = b.cells.length) (hl' : cs'.size = cs.size)
    (hv : ∀ i, i < cells'.length → VR G (cells'.getD i Go.undef) (cs'.getD (x.d + i) Go.undef)) (h1 : ∀ i, i < cells'.length → (cells'.getD i Go.undef).oneCell = true) :
    Rel P G (h.set id (.blk ⟨cells', b.elem, b.cells.length, true⟩)) (H.setIfInBounds x.cb (.cells cs' b.elem fr)) ∧
    Ev G h H G (h.set id (.blk ⟨cells', b.elem, b.cells.length, true⟩)) (H.setIfInBounds x.cb (.cells cs' b.elem fr)) := by
  have hlt := (Array.getElem?_eq_some_iff.1 hc).1
  have hsame : (H.setIfInBounds x.cb (.cells cs' b.elem fr))[x.cb]? = some (.cells cs' b.elem fr) := by simp [hlt]
  obtain ⟨hlo, y, hy, hnf⟩ := R.own id b hb how
  rw [hx] at hy; cases hy
  obtain ⟨cs₀, fr₀, q1, q2, q3, q4⟩ := R.blk id b hb _ x hx hlo
  rw [hc] at q1; cases q1
  refine R.upd hb (fun ⟨b', hb', hf⟩ => by rw [hb] at hb'; cases hb'; rw [how] at hf; cases hf) (fun b' hb' => by cases hb'; rfl) (fun r hr => by cases hr) (le_refl G) (fun _ _ _ => rfl) (by simp)
    (fun c hcl hne => ?_) (fun e y hy => ?_) ⟨?_, ?_, ?_, ?_⟩
  · have := hne _ _ hx
    rw [Array.getElem?_setIfInBounds, if_neg this]
  · obtain ⟨o, ho, he⟩ := R.dom _ _ _ hy
    rw [hb] at ho; cases ho
    refine ⟨⟨?_, he.2.1, fun _ => he.2.2 how⟩, by simpa using R.bnd _ _ _ hy, .inl ⟨_, _, hy, rfl⟩⟩
    show e ≤ cells'.length
    have := he.1
    omega
  · intro b' hb' e y hy hlo'
    cases hb'
    obtain ⟨o, ho, he⟩ := R.dom _ _ _ hy
    rw [hb] at ho; cases ho
    have hee : e = b.cells.length := by have := he.1; simp only at hlo'; omega
    subst hee
    rw [hx] at hy; cases hy
    refine ⟨cs', fr, hsame, by rw [hl']; exact q2, q3, fun i hi => hv i (by omega)⟩
  · intro b' hb' _
    cases hb'
    refine ⟨by simp [hl], x, by simpa [hl] using hx, cs', b.elem, fr, hsame, ?_⟩
    obtain ⟨cs₁, t₁, fr₁, r1, r2⟩ := hnf
    rw [hc] at r1; cases r1
    rw [hl']; exact r2
  · intro b' hb' i hi
    cases hb'
    exact h1 i hi
  · intro hn; cases hn

/-- A block that grows: in place, or moved. -/
theorem Rel.grow {P : Program} {G : Gh} {h : Heap} {H : Array Obj} (R : Rel P G h H) {id : Nat} {b : Blk} (hb : h[id]? = some (.blk b)) (how : b.own = true) (new : List Value) (hn : new ≠ [])
    (h1 : ∀ i, i < new.length → (new.getD i Go.undef).oneCell = true) {y : Ent} {H' : Array Obj} (hsz : H.size ≤ H'.size) (hyc : y.cb < H'.size) (hyd : y.d = 0) (hes : y.es = P.cellsOf b.elem)
    (hH : ∀ c, c < H.size → (∀ e x, G id e = some x → x.cb ≠ c) → H'[c]? = H[c]?)
    (hold : ∀ e x, G id e = some x → b.lo ≤ e → ∃ cs fr, H'[x.cb]? = some (.cells cs b.elem fr) ∧ cs.size = x.sz ∧ x.d + e ≤ x.sz ∧ ∀ i, i < e → VR G (b.cells.getD i Go.undef) (cs.getD (x.d + i) Go.undef))
    (hnew : (∃ e₀ x₀, G id e₀ = some x₀ ∧ x₀.cb = y.cb) ∨ H.size ≤ y.cb)
    {cs : Array Value} {fr : Nat × Nat} (hy : H'[y.cb]? = some (.cells cs b.elem fr)) (hcs : cs.size = y.sz) (hfit : b.cells.length + new.length ≤ y.sz) (hnf : NFr cs.size fr)
    (hv : ∀ i, i < (b.cells ++ new).length → VR G ((b.cells ++ new).getD i Go.undef) (cs.getD i Go.undef)) :
    Rel P (gput G id (b.cells ++ new).length y) (h.set id (.blk ⟨b.cells ++ new, b.elem, b.lo, true⟩)) H' ∧
    Ev G h H (gput G id (b.cells ++ new).length y) (h.set id (.blk ⟨b.cells ++ new, b.elem, b.lo, true⟩)) H' := by
  have hnl : 0 < new.length := List.length_pos_iff.2 hn
  have hnone : G id (b.cells ++ new).length = none := by
    cases hq : G id (b.cells ++ new).length with
    | none => rfl
    | some z =>
      obtain ⟨o, ho, he⟩ := R.dom _ _ _ hq
      rw [hb] at ho; cases ho
      have := he.1
      simp at this; omega
  have hle : le G (gput G id (b.cells ++ new).length y) := le_gput hnone
  obtain ⟨hlo, _⟩ := R.own id b hb how
  refine R.upd hb (fun ⟨b', hb', hf⟩ => by rw [hb] at hb'; cases hb'; rw [how] at hf; cases hf) (fun b' hb' => by cases hb'; rfl) (fun r hr => by cases hr) hle (fun i e hi => gput_other hi) hsz hH (fun e z hz => ?_) ⟨?_, ?_, ?_, ?_⟩
  · rcases gput_cases hz with ⟨_, rfl, rfl⟩ | hz
    · exact ⟨⟨Nat.le_refl _, hes, fun _ => hyd⟩, hyc, hnew⟩
    · obtain ⟨o, ho, he⟩ := R.dom _ _ _ hz
      rw [hb] at ho; cases ho
      refine ⟨⟨?_, he.2.1, fun _ => he.2.2 how⟩, Nat.lt_of_lt_of_le (R.bnd _ _ _ hz) hsz, .inl ⟨_, _, hz, rfl⟩⟩
      show e ≤ (b.cells ++ new).length
      have := he.1
      simp; omega
  · intro b' hb' e z hz hlo'
    cases hb'
    rcases gput_cases hz with ⟨_, rfl, rfl⟩ | hz
    · refine ⟨cs, fr, hy, hcs, by simp [hyd]; omega, fun i hi => ?_⟩
      have := hv i hi
      rw [hyd, Nat.zero_add]
      exact this.mono hle
    · obtain ⟨cs₁, fr₁, r1, r2, r3, r4⟩ := hold e z hz hlo'
      obtain ⟨o, ho, he⟩ := R.dom _ _ _ hz
      rw [hb] at ho; cases ho
      refine ⟨cs₁, fr₁, r1, r2, r3, fun i hi => ?_⟩
      have hib : i < b.cells.length := by have := he.1; omega
      have e2 : (b.cells ++ new).getD i Go.undef = b.cells.getD i Go.undef := by
        rw [List.getD_eq_getElem?_getD, List.getD_eq_getElem?_getD, List.getElem?_append_left hib]
      rw [e2]
      exact (r4 i hi).mono hle
  · intro b' hb' _
    cases hb'
    refine ⟨by simp; omega, y, gput_same _ _ _ _, cs, b.elem, fr, hy, hnf⟩
  · intro b' hb' i hi
    cases hb'
    simp only [List.length_append] at hi
    rw [List.getD_eq_getElem?_getD]
    by_cases hib : i < b.cells.length
    · rw [List.getElem?_append_left hib, ← List.getD_eq_getElem?_getD]; exact R.one id b hb i hib
    · rw [List.getElem?_append_right (by omega), ← List.getD_eq_getElem?_getD]; exact h1 _ (by omega)
  · intro hn; cases hn

end Go.Am
