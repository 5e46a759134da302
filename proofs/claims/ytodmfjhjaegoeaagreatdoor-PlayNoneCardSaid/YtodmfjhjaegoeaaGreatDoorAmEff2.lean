/- What changes memory, second part: new variables, rows written out, stores. -/
import Derived.Test.YtodmfjhjaegoeaaGreatDoorAmEff
set_option linter.unusedVariables false
set_option linter.unusedSimpArgs false
namespace Go.Am

theorem new_var {P : Program} {G : Gh} {w : World} (t : TypeId) {v v' : Value} (hv : VR G v v') (ht : isTup v = false) :
    NewOk P G w (do let a ← newVar t v'; pure (.pointer (some a))) (vcells v) t (fun id => aPtr id (vcells v).length) := by
  obtain ⟨hvl, hone⟩ := vcells_sound hv ht
  have hl : v'.cells.size = (vcells v).length := by have := hvl.1; simp at this; omega
  refine ⟨⟨v'.cells, (0, 0), .pointer (some ⟨w.heap.size, 0, none⟩), by simp [newVar, newRow], by omega, fun i hi => ?_, .inl rfl, fun G' id hg => ?_⟩, hone⟩
  · have := hvl.2 i hi
    simpa [List.getD_eq_getElem?_getD, Array.getD_eq_getD_getElem?] using this
  · have := VR.ptr (off := 0) hg
    simpa [aPtr] using this

def aAlloc (P : Program) (h : Heap) (t : TypeId) : Option (Value × Heap) :=
  match aZero P t with
  | some z => some (aPtr h.length (vcells z).length, aNew h (vcells z) t)
  | none => none

def aBox (h : Heap) (t : TypeId) (v : Value) : Option (Value × Heap) :=
  if isTup v = true then none else some (aPtr h.length (vcells v).length, aNew h (vcells v) t)

def aBuildSlice (P : Program) (h : Heap) (t : TypeId) (len : Nat) (parts : List (Nat × Value)) : Option (Value × Heap) :=
  match P.underlying t with
  | some (.slice el) => match aZero P el with
    | some z =>
      if len * P.cellsOf el ≤ 16777216 ∧ (vcells z).length = P.cellsOf el then
        match aFill (fun i => some (i * P.cellsOf el, P.cellsOf el)) (zrow (vcells z) len) parts with
        | some cells => some (.slice (some ⟨h.length, 0, some cells.length⟩) len len, aNew h cells el)
        | none => none
      else none
    | none => none
  | _ => none

theorem nAlloc_sound {P : Program} {G : Gh} {w : World} {t : TypeId} {z : Value} (hz : aZero P t = some z) :
    NewOk P G w (Instr.alloc t true (.tuple #[])) (vcells z) t (fun id => aPtr id (vcells z).length) := by
  obtain ⟨hzr, hzp⟩ := aZero_sound hz
  obtain ⟨⟨cs, fr, v', h1, h2⟩, h3⟩ := new_var (w := w) (P := P) t (VR.plainC (G := G) hzp) (by cases z <;> simp [plainC, plainAtom, isTup] at hzp ⊢)
  refine ⟨⟨cs, fr, v', ?_, h2⟩, h3⟩
  rw [← h1]
  simp only [Instr.alloc, Sem.run_bind, hzr, Result.andThen_ok]

theorem aAlloc_sound {P : Program} {G : Gh} {h h' : Heap} {w : World} (R : Rel P G h w.heap) {t : TypeId} {v : Value} (hm : aAlloc P h t = some (v, h')) :
    ∃ G' w' v', (Instr.alloc t true (.tuple #[])).run P w = .ok v' w' ∧ Rel P G' h' w'.heap ∧ EvW G h w G' h' w' ∧ VR G' v v' := by
  unfold aAlloc at hm
  split at hm <;> (try (cases hm; done))
  rename_i z hz
  cases hm
  exact (nAlloc_sound hz).sound R

theorem nBox_sound {P : Program} {G : Gh} {w : World} {t : TypeId} {x x' : Value} (ht : isTup x = false) (hx : VR G x x') :
    NewOk P G w (Instr.box t x') (vcells x) t (fun id => aPtr id (vcells x).length) := by
  obtain ⟨⟨cs, fr, v', h1, h2⟩, h3⟩ := new_var (w := w) (P := P) t hx ht
  refine ⟨⟨cs, fr, v', ?_, h2⟩, h3⟩
  rw [← h1]
  simp only [Instr.box]

theorem aBox_sound {P : Program} {G : Gh} {h h' : Heap} {w : World} (R : Rel P G h w.heap) {t : TypeId} {x x' v : Value} (hm : aBox h t x = some (v, h')) (hx : VR G x x') :
    ∃ G' w' v', (Instr.box t x').run P w = .ok v' w' ∧ Rel P G' h' w'.heap ∧ EvW G h w G' h' w' ∧ VR G' v v' := by
  unfold aBox at hm
  split at hm <;> (try (cases hm; done))
  rename_i ht
  cases hm
  exact (nBox_sound (by simpa using ht) hx).sound R

theorem aZero_info {P : Program} {el : TypeId} {z : Value} (hz : aZero P el = some z) : ∃ i, P.info? el = some i ∧ i.zero = some z := by
  unfold aZero at hz
  cases hi : P.info? el with
  | none => simp [hi] at hz
  | some i =>
    simp only [hi, Option.bind_some] at hz
    cases hiz : i.zero with
    | none => simp [hiz] at hz
    | some z' =>
      simp only [hiz] at hz
      split at hz
      · cases hz; exact ⟨i, rfl, hiz⟩
      · cases hz

def nBuildSlice (P : Program) (t : TypeId) (len : Nat) (parts : List (Nat × Value)) : Option (List Value × TypeId × (Nat → Value)) :=
  match P.underlying t with
  | some (.slice el) => match aZero P el with
    | some z =>
      if len * P.cellsOf el ≤ 16777216 ∧ (vcells z).length = P.cellsOf el then
        match aFill (fun i => some (i * P.cellsOf el, P.cellsOf el)) (zrow (vcells z) len) parts with
        | some cells => some (cells, el, fun id => .slice (some ⟨id, 0, some cells.length⟩) len len)
        | none => none
      else none
    | none => none
  | _ => none

theorem aBuildSlice_n {P : Program} {h h' : Heap} {t : TypeId} {len : Nat} {parts : List (Nat × Value)} {v : Value} (hm : aBuildSlice P h t len parts = some (v, h')) :
    ∃ cells el val, nBuildSlice P t len parts = some (cells, el, val) ∧ v = val h.length ∧ h' = aNew h cells el := by
  unfold aBuildSlice at hm
  unfold nBuildSlice
  split at hm <;> (try (cases hm; done))
  rename_i el hu
  split at hm <;> (try (cases hm; done))
  rename_i z hz
  split at hm <;> (try (cases hm; done))
  rename_i hb
  split at hm <;> (try (cases hm; done))
  rename_i cells hc
  cases hm
  refine ⟨_, _, fun id => .slice (some ⟨id, 0, some cells.length⟩) len len, ?_, rfl, rfl⟩
  rw [if_pos hb]

theorem nBuildSlice_sound {P : Program} {G : Gh} {w : World} {t : TypeId} {len : Nat} {parts parts' : List (Nat × Value)} {cells₀ : List Value} {el₀ : TypeId} {val : Nat → Value} (hm : nBuildSlice P t len parts = some (cells₀, el₀, val))
    (hp : parts'.map (·.1) = parts.map (·.1)) (hv : VL G (parts.map (·.2)) (parts'.map (·.2))) : NewOk P G w (Instr.buildSlice t len parts'.toArray) cells₀ el₀ val ∧ ∀ id, refLike (val id) = true := by
  unfold nBuildSlice at hm
  split at hm <;> (try (cases hm; done))
  rename_i el hu
  split at hm <;> (try (cases hm; done))
  rename_i z hz
  split at hm <;> (try (cases hm; done))
  rename_i hb
  split at hm <;> (try (cases hm; done))
  rename_i cells hc
  simp only [Option.some.injEq, Prod.mk.injEq] at hm
  obtain ⟨rfl, rfl, rfl⟩ := hm
  obtain ⟨hzr, hzp⟩ := aZero_sound hz
  obtain ⟨i, hi, hiz⟩ := aZero_info hz
  obtain ⟨q1, q2⟩ := bytes_of hi
  obtain ⟨hvl, hone⟩ := plainC_cells G hzp
  have hzl : z.cells.size = P.cellsOf el := by have := hvl.1; simp at this; omega
  have hmade : VL G (zrow (vcells z) len) (madeCells z.cells (len * P.cellsOf el)).toList := by
    refine ⟨by rw [zrow_length, hb.2]; simp [size_madeCells], fun j hj => ?_⟩
    have := zrow_vr hvl len (len * P.cellsOf el) (by rw [hb.2]; omega) j hj
    simpa [List.getD_eq_getElem?_getD, Array.getD_eq_getD_getElem?] using this
  obtain ⟨cells', h1, h2, h3⟩ := aFill_sound parts parts' _ _ _ hp hv hmade (zrow_one hone _) hc
  have hl : cells'.size = cells.length := by have := h2.1; simp at this; omega
  have hfl : Instr.fill (fun i => some (i * P.cellsOf el, P.cellsOf el)) (if len * P.cellsOf el = 0 then madeCells #[] (len * P.cellsOf el) else madeCells z.cells (len * P.cellsOf el)) parts' = some cells' := by
    split
    · rename_i h0
      rw [h0] at h1 ⊢
      have e0 : ∀ z : Array Value, madeCells z 0 = #[] := fun z => Array.eq_empty_of_size_eq_zero (by simp [size_madeCells])
      rw [← h1, e0, e0]
    · exact h1
  have hcells : cells.length = len * P.cellsOf el := by
    have : ∀ (ps : List (Nat × Value)) (cs r : List Value), aFill (fun i => some (i * P.cellsOf el, P.cellsOf el)) cs ps = some r → r.length = cs.length := by
      intro ps
      induction ps with
      | nil => intro cs r hr; simp only [aFill, Option.some.injEq] at hr; rw [hr]
      | cons p ps ih =>
        intro cs r hr
        obtain ⟨k, u⟩ := p
        simp only [aFill] at hr
        split at hr
        · cases hr
        · rename_i hn
          rw [ih _ _ hr]
          have hle : k * P.cellsOf el + (vcells u).length ≤ cs.length := by
            by_cases hq : k * P.cellsOf el + (vcells u).length > cs.length
            · exact absurd (.inr (.inr hq)) hn
            · omega
          simp; omega
    rw [this _ _ _ hc, zrow_length, hb.2]
  refine ⟨⟨⟨cells', (0, 0), .slice (some ⟨w.heap.size, 0, none⟩) len len, ?_, by omega, fun j hj => ?_, .inl rfl, fun G' id hg => ?_⟩, h3⟩, fun id => rfl⟩
  · have hnb : ¬ (len * P.cellsOf el > 2 ^ 24) := by omega
    simp only [Instr.buildSlice, Sem.run_bind, run_underlying hu, Result.andThen_ok, run_sizeOf (by rw [hi]; rfl : (P.info? el).isSome = true), if_neg hnb]
    by_cases h0 : len * P.cellsOf el = 0
    · rw [if_pos h0] at hfl
      simp only [if_pos h0, Sem.run_pure, Result.andThen_ok, Sem.run_bind]
      simp only [madeCells] at hfl
      simp only [hfl, newRow, Sem.run_bind, run_newObj, Result.andThen_ok, Sem.run_pure]
    · rw [if_neg h0] at hfl
      simp only [if_neg h0, Sem.run_pure, Result.andThen_ok, Sem.run_bind, hzr]
      simp only [madeCells] at hfl
      simp only [hfl, newRow, Sem.run_bind, run_newObj, Result.andThen_ok, Sem.run_pure]
  · have := h2.2 j hj
    simpa [List.getD_eq_getElem?_getD, Array.getD_eq_getD_getElem?] using this
  · have := VR.slice (off := 0) (len := len) (capA := len) (capC := len) hg (Nat.le_refl _) (fun _ => rfl) (fun _ => by simp [hl, hcells])
    simpa using this

theorem aBuildSlice_sound {P : Program} {G : Gh} {h h' : Heap} {w : World} (R : Rel P G h w.heap) {t : TypeId} {len : Nat} {parts parts' : List (Nat × Value)} {v : Value} (hm : aBuildSlice P h t len parts = some (v, h'))
    (hp : parts'.map (·.1) = parts.map (·.1)) (hv : VL G (parts.map (·.2)) (parts'.map (·.2))) :
    ∃ G' w' v', (Instr.buildSlice t len parts'.toArray).run P w = .ok v' w' ∧ Rel P G' h' w'.heap ∧ EvW G h w G' h' w' ∧ VR G' v v' := by
  obtain ⟨cells, el, val, h1, rfl, rfl⟩ := aBuildSlice_n hm
  exact (nBuildSlice_sound h1 hp hv).1.sound R

/-- A store: the block is the heap's own, and the address is of its newest epoch. -/
def aStore (P : Program) (h : Heap) (t : TypeId) (a : Addr) (v : Value) : Option Heap :=
  match a.spot, h[a.block]? with
  | some e, some (.blk b) =>
    if b.own = true ∧ e = b.cells.length ∧ isTup v = false ∧ (vcells v).length = P.cellsOf t ∧ (P.info? t).isSome = true ∧ a.off + (vcells v).length ≤ b.cells.length then
      some (h.set a.block (.blk ⟨b.cells.take a.off ++ (vcells v ++ b.cells.drop (a.off + (vcells v).length)), b.elem, b.cells.length, true⟩))
    else none
  | _, _ => none

theorem splice_get {cs vs : List Value} {o : Nat} (h : o + vs.length ≤ cs.length) (i : Nat) :
    (cs.take o ++ (vs ++ cs.drop (o + vs.length))).getD i Go.undef = if i < o then cs.getD i Go.undef else if i < o + vs.length then vs.getD (i - o) Go.undef else cs.getD i Go.undef := by
  simp only [List.getD_eq_getElem?_getD]
  have hl : (cs.take o).length = o := by simp; omega
  by_cases h1 : i < o
  · rw [if_pos h1, List.getElem?_append_left (by omega), List.getElem?_take, if_pos h1]
  · rw [if_neg h1, List.getElem?_append_right (by omega), hl]
    by_cases h2 : i < o + vs.length
    · rw [if_pos h2, List.getElem?_append_left (by omega)]
    · rw [if_neg h2, List.getElem?_append_right (by omega), List.getElem?_drop]
      congr 2; omega

theorem splice_one {cs vs : List Value} {o : Nat} (h : o + vs.length ≤ cs.length) (hc : ∀ i, i < cs.length → (cs.getD i Go.undef).oneCell = true) (hv : ∀ i, i < vs.length → (vs.getD i Go.undef).oneCell = true) :
    ∀ i, i < (cs.take o ++ (vs ++ cs.drop (o + vs.length))).length → ((cs.take o ++ (vs ++ cs.drop (o + vs.length))).getD i Go.undef).oneCell = true := by
  intro i hi
  have hl : i < cs.length := by simp at hi; omega
  rw [splice_get h]
  split
  · exact hc i hl
  · split
    · exact hv _ (by omega)
    · exact hc i hl

/-- Writing cells over some of the newest epoch's. -/
theorem write_row {P : Program} {G : Gh} {h : Heap} {w : World} (R : Rel P G h w.heap) {id : Nat} {b : Blk} (hb : h[id]? = some (.blk b)) (how : b.own = true) {x : Ent} (hx : G id b.cells.length = some x)
    {off : Nat} {vs vs' : List Value} (hvs : VL G vs vs') (hone : ∀ i, i < vs.length → (vs.getD i Go.undef).oneCell = true) (hle : off + vs.length ≤ b.cells.length) :
    ∃ w', (storeCells ⟨x.cb, x.d + off, none⟩ vs').run P w = .ok () w' ∧
      Rel P G (h.set id (.blk ⟨b.cells.take off ++ (vs ++ b.cells.drop (off + vs.length)), b.elem, b.cells.length, true⟩)) w'.heap ∧
      EvW G h w G (h.set id (.blk ⟨b.cells.take off ++ (vs ++ b.cells.drop (off + vs.length)), b.elem, b.cells.length, true⟩)) w' := by
  obtain ⟨hlo, y, hy, hnf⟩ := R.own id b hb how
  rw [hx] at hy; cases hy
  obtain ⟨cs, fr, q1, q2, q3, q4⟩ := R.blk id b hb _ x hx hlo
  obtain ⟨cs₁, t₁, fr₁, r1, r2⟩ := hnf
  rw [q1] at r1; cases r1
  have hlen : vs'.length = vs.length := hvs.1.symm
  have hle' : x.d + off + vs'.length ≤ cs.size := by omega
  have hrun := run_storeRow (P := P) (w := w) q1 hle' r2.not (fun v hv => by
    obtain ⟨j, hj, rfl⟩ := List.getElem_of_mem hv
    have h1 := hvs.2 j (by omega)
    have h2 := hone j (by omega)
    have h3 := h1.oneCell
    rw [h2] at h3
    simpa [List.getD_eq_getElem?_getD, hj] using h3)
  obtain ⟨R', E'⟩ := R.write hb how hx q1 (b.cells.take off ++ (vs ++ b.cells.drop (off + vs.length))) (putRow cs (x.d + off) vs') (by simp; omega) (putRow_size hle') (fun i hi => by
    have hil : i < b.cells.length := by simp at hi; omega
    rw [splice_get hle, putRow_get hle']
    by_cases h1 : i < off
    · rw [if_pos h1, if_pos (show x.d + i < x.d + off by omega)]; exact q4 i hil
    · rw [if_neg h1, if_neg (show ¬ x.d + i < x.d + off by omega)]
      by_cases h2 : i < off + vs.length
      · rw [if_pos h2, if_pos (show x.d + i < x.d + off + vs'.length by omega)]
        have := hvs.2 (i - off) (by omega)
        rw [show x.d + i - (x.d + off) = i - off by omega]
        exact this
      · rw [if_neg h2, if_neg (show ¬ x.d + i < x.d + off + vs'.length by omega)]; exact q4 i hil) (splice_one hle (R.one id b hb) hone)
  exact ⟨_, hrun, R', ⟨E', rfl, rfl, rfl⟩⟩

theorem aStore_sound {P : Program} {G : Gh} {h h' : Heap} {w : World} (R : Rel P G h w.heap) {t : TypeId} {a : Addr} {v v' x' : Value} (hm : aStore P h t a v = some h') (hx : VR G (.pointer (some a)) x') (hv : VR G v v') :
    ∃ w', (Instr.storeAt t x' v').run P w = .ok () w' ∧ Rel P G h' w'.heap ∧ EvW G h w G h' w' := by
  obtain ⟨e, x, he, hg, rfl⟩ := hx.ptr_inv
  unfold aStore at hm
  split at hm <;> (try (cases hm; done))
  rename_i e' b he' hb
  rw [he] at he'; cases he'
  split at hm <;> (try (cases hm; done))
  rename_i hc
  obtain ⟨c1, c2, c3, c4, c5, c6⟩ := hc
  simp only [Option.some.injEq] at hm; subst hm
  subst c2
  obtain ⟨hvl, hone⟩ := vcells_sound hv c3
  obtain ⟨w', h1, h2, h3⟩ := write_row R hb c1 hg hvl hone c6
  refine ⟨w', ?_, h2, h3⟩
  have hsz : v'.cells.size = P.cellsOf t := by have := hvl.1; simp at this; omega
  simp only [Instr.storeAt, Instr.sureAddr, storeVar, Sem.run_bind, Sem.run_pure, Result.andThen_ok, run_sizeOf c5, hsz, ne_eq, not_true_eq_false, if_false]
  exact h1

end Go.Am
