/- What changes memory, fourth part: copy; all of it together. -/
import Derived.Test.YtodmfjhjaegoeaaGreatDoorAmEff3
set_option linter.unusedVariables false
set_option linter.unusedSimpArgs false
namespace Go.Am

def aCopy (P : Program) (h : Heap) (dt : TypeId) : Value → Value → Option (Value × Heap)
  | .slice d dl _, .slice s sl _ => match P.underlying dt with
    | some (.slice el) =>
      if (P.info? el).isSome = false then none else
      if min sl dl = 0 then some (.int .i64 0, h) else
      match d, s with
      | some d, some s => match rowAt h s (min sl dl * P.cellsOf el), d.spot, h[d.block]? with
        | some cells, some e, some (.blk b) =>
          if b.own = true ∧ e = b.cells.length ∧ d.off + cells.length ≤ b.cells.length then
            some (.int .i64 (min sl dl : Nat), h.set d.block (.blk ⟨b.cells.take d.off ++ (cells ++ b.cells.drop (d.off + cells.length)), b.elem, b.cells.length, true⟩))
          else none
        | _, _, _ => none
      | _, _ => none
    | _ => none
  | _, _ => none

theorem run_copy {P : Program} {w : World} {dt st ty el : TypeId} (hu : P.underlying dt = some (.slice el)) (hi : (P.info? el).isSome = true) {d s : Option Addr} {dl dc sl sc : Nat} {cells : Array Value}
    (hf : (Builtin.firstCells (P.cellsOf el) (min sl dl) (.slice s sl sc)).run P w = .ok cells w) :
    (Builtin.copy_ #[dt, st] ty #[.slice d dl dc, .slice s sl sc]).run P w = ((match d with | some a => storeCells a cells.toList | none => pure ()).run P w).andThen fun _ w' => .ok (.int .i64 (min sl dl : Nat)) w' := by
  have hn : Nat.min sl dl = min sl dl := rfl
  cases d <;> simp [Builtin.copy_, run_underlying hu, Builtin.lenOf, run_sizeOf hi, hn, hf, goInt]

theorem aCopy_sound {P : Program} {G : Gh} {h h' : Heap} {w : World} (R : Rel P G h w.heap) {dt st ty : TypeId} {d s d' s' v : Value} (hm : aCopy P h dt d s = some (v, h')) (hd : VR G d d') (hs : VR G s s') :
    ∃ w' v', (Builtin.copy_ #[dt, st] ty #[d', s']).run P w = .ok v' w' ∧ Rel P G h' w'.heap ∧ EvW G h w G h' w' ∧ VR G v v' := by
  unfold aCopy at hm
  split at hm <;> (try (cases hm; done))
  rename_i d dl dc s sl sc
  split at hm <;> (try (cases hm; done))
  rename_i el hu
  split at hm <;> (try (cases hm; done))
  rename_i hi
  have hinfo : (P.info? el).isSome = true := by cases hq : (P.info? el).isSome <;> simp_all
  obtain ⟨cd, cdc, rfl, _, _⟩ := hd.slice_inv
  obtain ⟨cs, csc, rfl, _, _⟩ := hs.slice_inv
  split at hm
  · rename_i h0
    simp only [Option.some.injEq, Prod.mk.injEq] at hm
    obtain ⟨rfl, rfl⟩ := hm
    have hf : (Builtin.firstCells (P.cellsOf el) (min sl dl) (.slice cs sl csc)).run P w = .ok #[] w := by
      rw [h0]; cases cs <;> simp [Builtin.firstCells, loadCells, loadCellsFrom]
    refine ⟨w, _, ?_, R, EvW.refl _ _ _, .plain rfl⟩
    rw [run_copy (st := st) (ty := ty) hu hinfo hf, h0]
    cases cd <;> simp [storeCells]
  · rename_i h0
    split at hm <;> (try (cases hm; done))
    rename_i d s
    split at hm <;> (try (cases hm; done))
    rename_i cells e b hr hsp hb
    split at hm <;> (try (cases hm; done))
    rename_i hc
    simp only [Option.some.injEq, Prod.mk.injEq] at hm
    obtain ⟨rfl, rfl⟩ := hm
    obtain ⟨how, he, hle⟩ := hc
    cases hs with
    | plain hp => simp [plainAtom] at hp
    | empty => simp at h0
    | slice hg g1 g2 g3 =>
      rename_i sid soff se x
      obtain ⟨row, tt, fr, r1, r2, r3, r4, r5⟩ := rowAt_sound R hg hr
      cases hd with
      | plain hp => simp [plainAtom] at hp
      | empty => simp at h0
      | slice hgd w1 w2 w3 =>
        rename_i did doff de y
        simp only [Option.some.injEq] at hsp
        subst hsp
        subst he
        obtain ⟨w', h1, h2, h3⟩ := write_row (P := P) R hb how hgd (off := doff) r3 r5 hle
        have hf : (Builtin.firstCells (P.cellsOf el) (min sl dl) (.slice (some ⟨x.cb, x.d + soff, none⟩) sl csc)).run P w = .ok ((row.toList.drop (x.d + soff)).take (min sl dl * P.cellsOf el)).toArray w := by
          simp only [Builtin.firstCells]; exact run_loadRow r1 r2
        refine ⟨w', _, ?_, h2, h3, .plain rfl⟩
        rw [run_copy (st := st) (ty := ty) hu hinfo hf]
        simp only [List.toList_toArray, h1, Result.andThen_ok]

/-- []byte of []byte: the same; the model marks the block. -/
def aSame (P : Program) (h : Heap) (s d : TypeId) (x : Value) : Option (Value × Heap) :=
  match P.underlying s, P.underlying d, x with
  | some (.slice _), some (.slice e), .slice (some a) n c => if (decide (s = d) && isByteT P e) = true then
      (match a.spot, h[a.block]? with
      | some sp, some (.blk b) => if b.own = true ∧ b.lo ≤ sp ∧ sp = b.cells.length then some (.slice (some a) n c, h) else none
      | _, _ => none) else none
  | _, _, _ => none

theorem aSame_sound {P : Program} {G : Gh} {h h' : Heap} {w : World} (R : Rel P G h w.heap) {s d : TypeId} {x x' v : Value} (hm : aSame P h s d x = some (v, h')) (hx : VR G x x') :
    ∃ w', (convert s d x').run P w = .ok x' w' ∧ Rel P G h' w'.heap ∧ EvW G h w G h' w' ∧ VR G v x' := by
  unfold aSame at hm
  split at hm <;> (try (cases hm; done))
  rename_i e₀ e a n c hs hd
  split at hm <;> (try (cases hm; done))
  rename_i hc
  simp only [Bool.and_eq_true, decide_eq_true_eq] at hc
  obtain ⟨rfl, hb⟩ := hc
  have he : P.underlying e = some (.int .u8) := by
    unfold isByteT at hb
    split at hb
    · assumption
    · cases hb
  split at hm <;> (try (cases hm; done))
  rename_i sp b hsp hbk
  split at hm <;> (try (cases hm; done))
  rename_i hc
  obtain ⟨how, hlo, rfl⟩ := hc
  cases hm
  cases hx with
  | plain hp => simp [plainAtom] at hp
  | empty => cases hsp
  | slice hg g1 g2 g3 =>
    rename_i id off e' x capC
    simp only [Option.some.injEq] at hsp hbk
    subst hsp
    obtain ⟨cs, fr, r1, r2, r3, r4⟩ := R.blk id b hbk _ x hg hlo
    have hxcb := R.bnd _ _ _ hg
    have hshape : w.shape? x.cb = some (b.elem, cs.size) := by simp [World.shape?, r1]
    obtain ⟨fr', hfr'⟩ : ∃ fr' : Nat × Nat, fr' = (if fr.1 == fr.2 then (cs.size, cs.size + 1) else (min fr.1 cs.size, max fr.2 (cs.size + 1))) := ⟨_, rfl⟩
    have hw : w.freeze ⟨x.cb, cs.size, none⟩ 1 = { w with heap := w.heap.setIfInBounds x.cb (.cells cs b.elem fr') } := by
      simp only [World.freeze, Nat.one_ne_zero, if_false]
      congr 1
      apply Array.ext_getElem?
      intro i
      rw [Array.getElem?_modify, Array.getElem?_setIfInBounds]
      by_cases hi : x.cb = i
      · subst hi
        rw [if_pos rfl, if_pos rfl, if_pos hxcb, r1, hfr']
        rfl
      · rw [if_neg hi, if_neg hi]
    have hnf' : NFr cs.size fr' := by
      obtain ⟨_, y, hy, cs₁, t₁, fr₁, n1, n2⟩ := R.own id b hbk how
      rw [hg] at hy; cases hy
      rw [r1] at n1; cases n1
      rw [hfr']
      rcases n2 with h | h
      · rw [if_pos (by simpa using h)]; exact .inr (Nat.le_refl _)
      · split
        · exact .inr (Nat.le_refl _)
        · exact .inr (by simp; omega)
    have hsame : (w.heap.setIfInBounds x.cb (.cells cs b.elem fr'))[x.cb]? = some (.cells cs b.elem fr') := by simp [hxcb]
    obtain ⟨R', E'⟩ := R.upd (H' := w.heap.setIfInBounds x.cb (.cells cs b.elem fr')) (o' := .blk b) hbk (fun ⟨b', hb', hf⟩ => by rw [hbk] at hb'; cases hb'; rw [how] at hf; cases hf) (fun b' hb' => by cases hb'; exact how) (fun r hr => by cases hr) (le_refl G) (fun _ _ _ => rfl) (by simp)
      (fun c _ hne => by rw [Array.getElem?_setIfInBounds, if_neg (hne _ _ hg)])
      (fun e y hy => by
        obtain ⟨o, h1, h2⟩ := R.dom _ _ _ hy
        rw [hbk] at h1; cases h1
        exact ⟨h2, by simpa using R.bnd _ _ _ hy, .inl ⟨_, _, hy, rfl⟩⟩)
      ⟨fun b' hb' e y hy hl => by
        cases hb'
        obtain ⟨cs₂, fr₂, k1, k2, k3, k4⟩ := R.blk id b hbk e y hy hl
        by_cases hcc : x.cb = y.cb
        · rw [← hcc, r1] at k1; cases k1
          exact ⟨cs, _, by rw [← hcc]; exact hsame, k2, k3, k4⟩
        · exact ⟨cs₂, fr₂, by rw [Array.getElem?_setIfInBounds, if_neg hcc]; exact k1, k2, k3, k4⟩, fun b' hb' _ => by
        cases hb'
        exact ⟨hlo, x, hg, cs, b.elem, _, hsame, hnf'⟩, fun b' hb' i hi => by cases hb'; exact R.one id b hbk i hi, fun q => by cases q⟩
    have hset : h.set id (.blk b) = h := by
      apply List.ext_getElem?
      intro i
      rw [List.getElem?_set]
      by_cases hi : id = i
      · subst hi; rw [if_pos rfl, if_pos (List.getElem?_eq_some_iff.1 hbk).1, hbk]
      · simp [hi]
    rw [hset] at R' E'
    refine ⟨w.freeze ⟨x.cb, cs.size, none⟩ 1, ?_, by rw [hw]; exact R', by rw [hw]; exact ⟨E', rfl, rfl, rfl⟩, .slice hg g1 g2 g3⟩
    rw [hs] at hd; cases hd
    simp [convert, run_underlying hs, run_underlying he, markStringish, -bind_pure_comp, hshape]

def effOp (P : Program) (fr : Nat → Value) (h : Heap) : Op → Option (Value × Heap)
  | .alloc t => aAlloc P h t
  | .box t x => (ev fr x).bind (aBox h t)
  | .buildSlice t len ps => (aParts fr ps.toList).bind (aBuildSlice P h t len)
  | .store t x y => match ev fr x, ev fr y with
    | some (.pointer (some a)), some v => (aStore P h t a v).map fun h' => (undef, h')
    | _, _ => none
  | .makeSlice t l c => match ev fr l, ev fr c with
    | some u, some v => aMakeSlice P h t u v
    | _, _ => none
  | .convert s d x => (ev fr x).bind fun v => match aBytes P h s d v with
    | some r => some r
    | none => aSame P h s d v
  | .makeMap _ r => match r with
    | none => some (.map (some h.length), h ++ [.map []])
    | some _ => none
  | .mapUpdate t m k x => match ev fr m, ev fr k, ev fr x with
    | some u, some v, some y => (aMapUpdate P h t u v y).map fun h' => (undef, h')
    | _, _, _ => none
  | .range t x => (ev fr x).bind (aRangeS P h t)
  | .next x s => if s = true then (ev fr x).bind (aNextS h) else none
  | .call c => match c.callee with
    | .builtin .delete => match evl fr c.args.toList, c.argTypes.toList with
      | some [m, k], [t, _] => (aDelete P h t m k).map fun h' => (undef, h')
      | _, _ => none
    | .builtin .append => match evl fr c.args.toList, c.argTypes.toList with
      | some [s, x], [st, xt] => aAppend P h st xt s x
      | _, _ => none
    | .builtin .copy => match evl fr c.args.toList, c.argTypes.toList with
      | some [d, s], [dt, _] => aCopy P h dt d s
      | _, _ => none
    | _ => none
  | _ => none

/-- What an operation does, as the walk uses it: the value goes where it goes; 'skip' leaves 'undef'. -/
def OpDoes (P : Program) (o : Oper) (a : Act) (w w' : World) (v' : Value) : Prop :=
  (execOp a.eval o).run P w = .ok (.value v') w' ∨ ((execOp a.eval o).run P w = .ok .skip w' ∧ v' = Go.undef)

theorem effOp_sound {P : Program} {G : Gh} {N : Nat} {fr : Nat → Value} {a : Act} {h h' : Heap} {w : World} (R : Rel P G h w.heap) (hf : FR G N fr a.tmps) {o : Oper} {v : Value}
    (hn : (o.op.operands.toList.all (inN N)) = true) (hr : effOp P fr h o.op = some (v, h')) :
    ∃ G' w' v', OpDoes P o a w w' v' ∧ Rel P G' h' w'.heap ∧ EvW G h w G' h' w' ∧ VR G' v v' := by
  cases ho : o.op <;> rw [ho] at hr hn <;> simp only [effOp, reduceCtorEq] at hr
  case alloc t =>
    obtain ⟨G', w', v', h1, h2⟩ := aAlloc_sound R hr
    exact ⟨G', w', v', .inl (by simp [execOp, ho, h1]), h2⟩
  case box t x =>
    obtain ⟨u, hu, hr⟩ := Option.bind_eq_some_iff.1 hr
    obtain ⟨G', w', v', h1, h2⟩ := aBox_sound R hr (ev_sound hf (by simpa [Op.operands] using hn) hu)
    exact ⟨G', w', v', .inl (by simp [execOp, ho, h1]), h2⟩
  case buildSlice t len ps =>
    obtain ⟨us, hu, hr⟩ := Option.bind_eq_some_iff.1 hr
    obtain ⟨p1, p2⟩ := aParts_sound hf (ps := ps.toList) (by simpa [Op.operands, List.all_map] using hn) hu
    obtain ⟨G', w', v', h1, h2⟩ := aBuildSlice_sound R hr p1 p2
    refine ⟨G', w', v', .inl ?_, h2⟩
    have e : (ps.map fun p => (p.1, a.eval p.2)) = ((ps.toList.map fun p => (p.1, a.eval p.2)).toArray) := by apply Array.ext'; simp
    rw [← e] at h1
    simp only [execOp, ho, Sem.run_bind]
    rw [h1]
    rfl
  case store t x y =>
    simp only [Op.operands, List.all_cons, List.all_nil, Bool.and_true, Bool.and_eq_true] at hn
    split at hr <;> (try (cases hr; done))
    rename_i ad u hx hy
    obtain ⟨h'', hst, hq⟩ := Option.map_eq_some_iff.1 hr
    simp only [Prod.mk.injEq] at hq
    obtain ⟨rfl, rfl⟩ := hq
    obtain ⟨w', h1, h2, h3⟩ := aStore_sound R hst (ev_sound hf hn.1 hx) (ev_sound hf hn.2 hy)
    exact ⟨G, w', Go.undef, .inr ⟨by simp [execOp, ho, h1], rfl⟩, h2, h3, VR.undef G⟩
  case makeSlice t l c =>
    simp only [Op.operands, List.all_cons, List.all_nil, Bool.and_true, Bool.and_eq_true] at hn
    split at hr <;> (try (cases hr; done))
    rename_i u u' hx hy
    obtain ⟨G', w', v', h1, h2⟩ := aMakeSlice_sound R hr (ev_sound hf hn.1 hx) (ev_sound hf hn.2 hy)
    exact ⟨G', w', v', .inl (by simp [execOp, ho, h1]), h2⟩
  case convert s d x =>
    obtain ⟨u, hu, hr⟩ := Option.bind_eq_some_iff.1 hr
    split at hr
    · rename_i r hb
      cases hr
      obtain ⟨G', w', v', h1, h2⟩ := aBytes_sound R hb (ev_sound hf (by simpa [Op.operands] using hn) hu)
      exact ⟨G', w', v', .inl (by simp [execOp, ho, h1]), h2⟩
    · obtain ⟨w', h1, h2, h3, h4⟩ := aSame_sound R hr (ev_sound hf (by simpa [Op.operands] using hn) hu)
      exact ⟨G, w', _, .inl (by simp [execOp, ho, h1]), h2, h3, h4⟩
  case makeMap t r =>
    cases r with
    | some r => cases hr
    | none =>
      cases hr
      obtain ⟨G', w', v', h1, h2, h3, h4⟩ := aMakeMap_sound R t
      exact ⟨G', w', v', .inl (by simp [execOp, ho, h1]), h2, h3, h4⟩
  case mapUpdate t m k x =>
    simp only [Op.operands, List.all_cons, List.all_nil, Bool.and_true, Bool.and_eq_true] at hn
    split at hr <;> (try (cases hr; done))
    rename_i u u' y hx hy hz
    obtain ⟨h'', hst, hq⟩ := Option.map_eq_some_iff.1 hr
    simp only [Prod.mk.injEq] at hq
    obtain ⟨rfl, rfl⟩ := hq
    obtain ⟨w', h1, h2, h3⟩ := aMapUpdate_sound R hst (ev_sound hf hn.1 hx) (ev_sound hf hn.2.1 hy) (ev_sound hf hn.2.2 hz)
    exact ⟨G, w', Go.undef, .inr ⟨by simp [execOp, ho, h1], rfl⟩, h2, h3, VR.undef G⟩
  case range t x =>
    obtain ⟨u, hu, hr⟩ := Option.bind_eq_some_iff.1 hr
    obtain ⟨G', w', v', h1, h2, h3, h4⟩ := aRangeS_sound R hr (ev_sound hf (by simpa [Op.operands] using hn) hu)
    exact ⟨G', w', v', .inl (by simp [execOp, ho, h1]), h2, h3, h4⟩
  case next x s =>
    split at hr <;> (try (cases hr; done))
    rename_i hs
    subst hs
    obtain ⟨u, hu, hr⟩ := Option.bind_eq_some_iff.1 hr
    obtain ⟨w', h1, h2, h3, h4⟩ := aNextS_sound (ty := o.type) R hr (ev_sound hf (by simpa [Op.operands] using hn) hu)
    exact ⟨G, w', v, .inl (by simp [execOp, ho, h1]), h2, h3, h4⟩
  case call c =>
    obtain ⟨callee, args, argTypes⟩ := c
    simp only at hr
    cases callee with
    | value f => simp at hr
    | invoke r m => simp at hr
    | builtin b =>
      simp only [Op.operands, Call.operands, Array.toList_append] at hn
      have hn := (all_app hn).2
      have two : ∀ {x y : Value}, evl fr args.toList = some [x, y] → ∃ x' y', args.map a.eval = #[x', y'] ∧ VR G x x' ∧ VR G y y' := by
        intro x y hx
        obtain ⟨x', zs, e1, hx', hz⟩ := (evl_arr hf hn hx).head
        obtain ⟨y', ws, rfl, hy', hw⟩ := hz.head
        have := hw.of_nil; subst this
        exact ⟨x', y', by apply Array.toList_inj.1; simpa using e1, hx', hy'⟩
      cases b <;> simp only [reduceCtorEq] at hr
      case delete =>
        split at hr <;> (try (cases hr; done))
        rename_i m k t kt hx ht
        obtain ⟨m', k', ea, hm, hk⟩ := two hx
        have et : argTypes = #[t, kt] := by apply Array.toList_inj.1; simpa using ht
        obtain ⟨h'', hst, hq⟩ := Option.map_eq_some_iff.1 hr
        simp only [Prod.mk.injEq] at hq
        obtain ⟨rfl, rfl⟩ := hq
        obtain ⟨w', h1, h2, h3⟩ := aDelete_sound (kt₀ := kt) (ty := o.type) R hst hm hk
        refine ⟨G, w', Go.undef, .inl ?_, h2, h3, VR.undef G⟩
        simp only [execOp, ho, resolve, ea, et, Sem.run_bind, Sem.run_pure, Result.andThen_ok, invoke, builtin, h1]
        rfl
      case append =>
        split at hr <;> (try (cases hr; done))
        rename_i s x st xt hx ht
        obtain ⟨s', x', ea, hs, hx'⟩ := two hx
        have et : argTypes = #[st, xt] := by apply Array.toList_inj.1; simpa using ht
        obtain ⟨G', w', v', h1, h2⟩ := aAppend_sound (ty := o.type) R hr hs hx'
        refine ⟨G', w', v', .inl ?_, h2⟩
        simp only [execOp, ho, resolve, ea, et, Sem.run_bind, Sem.run_pure, Result.andThen_ok, invoke, builtin, h1]
      case copy =>
        split at hr <;> (try (cases hr; done))
        rename_i d s dt st hx ht
        obtain ⟨d', s', ea, hd, hs⟩ := two hx
        have et : argTypes = #[dt, st] := by apply Array.toList_inj.1; simpa using ht
        obtain ⟨w', v', h1, h2⟩ := aCopy_sound (st := st) (ty := o.type) R hr hd hs
        refine ⟨G, w', v', .inl ?_, h2⟩
        simp only [execOp, ho, resolve, ea, et, Sem.run_bind, Sem.run_pure, Result.andThen_ok, invoke, builtin, h1]

end Go.Am
