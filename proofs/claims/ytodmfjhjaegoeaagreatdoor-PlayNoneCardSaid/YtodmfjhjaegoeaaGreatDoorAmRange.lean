/- Ranges over functions in the abstract logic: the statement, and a call of its yield. -/
import Derived.Test.YtodmfjhjaegoeaaGreatDoorAmAny
import Derived.RangeFuncNested
set_option linter.unusedVariables false
set_option linter.unusedSimpArgs false
namespace Go.Am
variable {P : Program}

theorem Rel.loop {G : Gh} {h : Heap} {H : Array Obj} (R : Rel P G h H) {id : Nat} {r : LoopA} (ho : h[id]? = some (.loop r)) :
    ∃ x r', G id 0 = some x ∧ H[x.cb]? = some (.loop r') ∧ LoopR G r r' := by
  obtain ⟨x, o', h1, h2, h3⟩ := R.obj id _ ho rfl
  cases o' <;> simp only [ObjR] at h3
  exact ⟨x, _, h1, h2, h3⟩

theorem Rel.setLoop {G : Gh} {h : Heap} {w : World} (R : Rel P G h w.heap) {id : Nat} {r : LoopA} (ho : h[id]? = some (.loop r)) {x : Ent} (hx : G id 0 = some x) {r1 : LoopA} {r1' : Loop} (hr : LoopR G r1 r1') :
    Rel P G (h.set id (.loop r1)) (w.putObj x.cb (.loop r1')).heap ∧ EvW G h w G (h.set id (.loop r1)) (w.putObj x.cb (.loop r1')) := by
  have hlt := R.bnd _ _ _ hx
  obtain ⟨R', E'⟩ := R.upd (H' := (w.putObj x.cb (.loop r1')).heap) (o' := .loop r1) ho (fun ⟨b, hb, _⟩ => by rw [ho] at hb; cases hb) (fun b hb => by cases hb) (fun _ _ => ⟨_, rfl⟩) (le_refl G) (fun _ _ _ => rfl) (by simp)
    (fun c _ hne => World.putObj_heap_other (fun q => hne 0 x hx q.symm))
    (fun e y hy => by
      obtain ⟨o, h1, h2⟩ := R.dom _ _ _ hy
      rw [ho] at h1; cases h1
      exact ⟨h2, by simpa using R.bnd _ _ _ hy, .inl ⟨_, _, hy, rfl⟩⟩)
    ⟨fun b hb => (by cases hb), fun b hb => (by cases hb), fun b hb => (by cases hb), fun _ => ⟨x, _, hx, World.putObj_heap_same hlt, hr⟩⟩
  exact ⟨R', E', rfl, rfl, rfl⟩

/-- Arguments laid into the parameters. -/
def setPs (fr : Fr) : List Tmp → List Value → Fr
  | p :: ps, v :: vs => setPs (upd fr p v) ps vs
  | _, _ => fr

theorem FR.setPs {G : Gh} {N : Nat} : ∀ {ps : List Tmp} {vs vs' : List Value} {fr : Fr} {tmps : Array Value}, FR G N fr tmps → VL G vs vs' → (∀ p ∈ ps, p < N) →
    FR G N (Am.setPs fr ps vs) ((ps.zip vs').foldl (fun t (x : Tmp × Value) => t.setIfInBounds x.1 x.2) tmps)
  | [], vs, vs', fr, tmps, hF, _, _ => by simpa [Am.setPs] using hF
  | p :: ps, [], vs', fr, tmps, hF, hv, _ => by rw [hv.of_nil]; simpa [Am.setPs] using hF
  | p :: ps, v :: vs, vs', fr, tmps, hF, hv, hp => by
    obtain ⟨v', us, rfl, h1, h2⟩ := hv.head
    simp only [Am.setPs, List.zip_cons_cons, List.foldl_cons]
    refine FR.setPs ?_ h2 (fun q hq => hp q (List.mem_cons_of_mem _ hq))
    have := FR.put (a := { tmps := tmps, defers := [] }) hF (d := some p) (fun t ht => by cases ht; exact hp p List.mem_cons_self) h1
    simpa [Am.put, Act.put] using this

/-- What is asked at a round's end. -/
def AYield (l : Nat) (R : Value → Heap → Prop) : Exit → Fr → Heap → Prop
  | .normal, _, h => ∃ r, h[l]? = some (.loop r) ∧ R (.bool true) (h.set l (.loop { r with state := .ready, pending := none }))
  | .ret, _, h => ∃ r, h[l]? = some (.loop r) ∧ R (.bool false) (h.set l (.loop { r with state := .done, pending := some .ret }))
  | .exit id, _, h => ∃ r, h[l]? = some (.loop r) ∧ R (.bool false) (h.set l (.loop { r with state := .done, pending := some (.exit id) }))
  | .goto t, _, h => ∃ r, h[l]? = some (.loop r) ∧ R (.bool false) (h.set l (.loop { r with state := .done, pending := some (.goto t) }))
  | _, _, _ => False

/-- A round: the assignment's end, and the body from there on. -/
def ARound (P : Program) (N : Nat) (l : Nat) (body : Code) (R : Value → Heap → Prop) : Exit → Fr → Heap → Prop
  | .normal, fr, h => ∃ r, h[l]? = some (.loop r) ∧ r.state = .ready ∧ AW P N body (AYield l R) fr (h.set l (.loop { r with state := .busy }))
  | _, _, _ => False

theorem endRound_sound {l n : Nat} {N : Nat} {G G₂ : Gh} {h h₂ : Heap} {w w₂ : World} {r : LoopA} {x : Ent} {R : Value → Heap → Prop} (jump : Option Code) (hl : h₂[l]? = some (.loop r)) (hx : G₂ l 0 = some x)
    (Rl : Rel P G₂ h₂ w₂.heap) (E : EvW G h w G₂ h₂ w₂) (hR : R (.bool jump.isNone) (h₂.set l (.loop { r with state := if jump.isNone then .ready else .done, pending := jump }))) :
    ∃ v w', (Instr.endRound x.cb jump).run P w₂ = .ok v w' ∧ CallPost P G h w R v w' := by
  obtain ⟨x', r', h1, h2, h3⟩ := Rl.loop hl
  rw [hx] at h1; cases h1
  obtain ⟨R', E'⟩ := Rl.setLoop hl hx (r1 := { r with state := if jump.isNone then .ready else .done, pending := jump }) (r1' := { r' with state := if jump.isNone then .ready else .done, pending := jump })
    ⟨rfl, rfl, h3.2.2.1, h3.2.2.2⟩
  exact ⟨_, _, run_endRound jump h2, G₂, _, _, hR, R', .plain rfl, E.trans E'⟩

theorem ACallV_yield {l : Nat} {r : LoopA} {args : List Value} {h : Heap} {R : Value → Heap → Prop} (hl : h[l]? = some (.loop r)) (ha : args.length = r.params.size) (hp : r.params.toList.all (fun p => decide (p < r.N)) = true)
    (q : AW P r.N r.assign (ARound P r.N l r.body R) (setPs r.tmps r.params.toList args) h) : ACallV P (.func (.yield l) #[] #[]) args h R := by
  refine ⟨?_, fun n G w fv' cargs hR hv hA => ?_⟩
  · obtain ⟨e, f, g, z, o⟩ := q.inh
    cases e <;> simp only [ARound] at z
    obtain ⟨_, _, _, z⟩ := z
    obtain ⟨e, f, g, z, o⟩ := z.inh
    cases e <;> simp only [AYield] at z <;> first | exact z.elim | (obtain ⟨_, _, z⟩ := z; exact ⟨_, _, z⟩)
  · cases hv with
    | plain hp => simp [plainAtom] at hp
    | yield hx =>
    rename_i x
    obtain ⟨x', r', h1, h2, h3⟩ := hR.loop hl
    rw [hx] at h1; cases h1
    obtain ⟨e1, e2, e3, e4, e5, e6⟩ := h3
    have hsz : cargs.size = r'.params.size := by
      have := hA.1
      simp only [Array.length_toList] at this
      rw [e4, ← ha, this]
    have hrun : (do let d ← Deferred.ofValue (.func (.yield x.cb) #[] #[]) cargs; invoke d.target d.args : Sem Next).run P w = .ok (.round x.cb r'.fn ((r'.params.zip cargs).foldl (fun tmps (t, a) => tmps.setIfInBounds t a) r'.tmps) r'.assign r'.body) w := by
      simp [Deferred.ofValue, invoke, run_yield h2 hsz]
    rw [hrun]
    show RoundIn Fence.wide (n - 1) P x.cb _ _ _ _ w _
    refine roundIn_of_wpIn trivial ?_
    have hF : FR G r.N (setPs r.tmps r.params.toList args) ((r'.params.zip cargs).foldl (fun tmps (t, a) => tmps.setIfInBounds t a) r'.tmps) := by
      have := FR.setPs (ps := r.params.toList) e3 hA (fun p hq => by simpa using List.all_eq_true.1 hp p hq)
      rw [e4]
      have e : (r.params.zip cargs).foldl (fun tmps (t, a) => tmps.setIfInBounds t a) r'.tmps = (r.params.toList.zip cargs.toList).foldl (fun t (x : Tmp × Value) => t.setIfInBounds x.1 x.2) r'.tmps := by
        rw [← Array.foldl_toList, Array.toList_zip]
      rw [e]; exact this
    have hq := q.sem (n - 1) (some x.cb) 0 G w { tmps := (r'.params.zip cargs).foldl (fun tmps (t, a) => tmps.setIfInBounds t a) r'.tmps, defers := [] } hR hF ⟨rfl, l, x, r, hx, rfl, hl⟩
    rw [e5, e6]
    refine wpIn_mono hq ?_
    rintro e a₁ w₁ ⟨o, G₁, fr₁, h₁, q1, q2, q3, q4, q5⟩
    cases e <;> simp only [ARound] at q1
    obtain ⟨r₁, k1, k2, k3⟩ := q1
    obtain ⟨x₁, r₁', m1, m2, m3⟩ := q2.loop k1
    have hx₁ := q4.le _ _ _ hx
    rw [hx₁] at m1; cases m1
    obtain ⟨R₂, E₂⟩ := q2.setLoop k1 hx₁ (r1 := { r₁ with state := .busy }) (r1' := { r₁' with state := .busy }) ⟨rfl, m3.2.1, m3.2.2.1, m3.2.2.2⟩
    refine ⟨_, run_beginRound m2 (by rw [m3.1]; exact k2), ?_⟩
    have hlt : l < h₁.length := (List.getElem?_eq_some_iff.1 k1).1
    have hb := k3.sem (n - 1) (some x.cb) 0 G₁ _ a₁ R₂ q3 ⟨q5.1, l, x, _, hx₁, rfl, by simp [hlt]; rfl⟩
    refine wpIn_mono hb ?_
    rintro e a₂ w₂ ⟨o₂, G₂, fr₂, h₂, p1, p2, p3, p4, p5⟩
    have hx₂ := p4.le _ _ _ hx₁
    have EE := (q4.trans E₂).trans p4
    cases e <;> simp only [AYield] at p1 <;> try (exact p1.elim)
    · obtain ⟨r₂, s1, s2⟩ := p1
      obtain ⟨v, w', t1, t2⟩ := endRound_sound (n := n) (N := r.N) none s1 hx₂ p2 EE s2
      exact ⟨v, w', t1, t2⟩
    · obtain ⟨r₂, s1, s2⟩ := p1
      obtain ⟨v, w', t1, t2⟩ := endRound_sound (n := n) (N := r.N) (some _) s1 hx₂ p2 EE s2
      exact ⟨v, w', t1, t2⟩
    · obtain ⟨r₂, s1, s2⟩ := p1
      obtain ⟨v, w', t1, t2⟩ := endRound_sound (n := n) (N := r.N) (some _) s1 hx₂ p2 EE s2
      exact ⟨v, w', t1, t2⟩
    · obtain ⟨r₂, s1, s2⟩ := p1
      obtain ⟨v, w', t1, t2⟩ := endRound_sound (n := n) (N := r.N) (some _) s1 hx₂ p2 EE s2
      exact ⟨v, w', t1, t2⟩

/-- A function of the program that has a body. -/
def hasBody (P : Program) (f : FuncId) : Bool := match P.funcs[f]? with
  | some fn => fn.body.isSome && !(fn.name == "runtime.NumGoroutine")
  | none => false

theorem run_enter {f : FuncId} (hb : hasBody P f = true) (args : Array Value) (w : World) : (callFunc f args).run P w = .ok (.enter f args) w := by
  unfold hasBody at hb
  split at hb
  · rename_i fn hf
    simp only [Bool.and_eq_true, Bool.not_eq_true'] at hb
    have hb' : fn.body.isNone = false := by cases h : fn.body <;> simp_all
    unfold callFunc
    simp only [Sem.run_bind, run_program, Result.andThen_ok, hf, hb.2, hb', Bool.false_eq_true, if_false, Sem.run_pure]
  · cases hb

/-- Behind the function that was ranged over: the pending jump, if there is one, is what comes next. -/
def ABehind (P : Program) (N : Nat) (Q : Exit → Fr → Heap → Prop) (fr : Fr) (h : Heap) : Option Code → Prop
  | none => Q .normal fr h
  | some c => AW P N c Q fr h

def ARange (P : Program) (N : Nat) (l : Nat) (Q : Exit → Fr → Heap → Prop) (fr : Fr) (_v : Value) (h : Heap) : Prop :=
  ∃ r, h[l]? = some (.loop r) ∧ (r.state == .busy) = false ∧ ABehind P N Q fr (h.set l (.loop { r with state := .exhausted })) r.pending

theorem AW_range {N : Nat} {g : Operand} {ps : Array Tmp} {assign body : Code} {Q : Exit → Fr → Heap → Prop} {fr : Fr} {h : Heap} {f : FuncId} {xs ys : Array Value} (hn : inN N g = true)
    (hg : ev fr g = some (.func (.func f) xs ys)) (hb : hasBody P f = true)
    (q : ACall P f (xs.toList ++ [.func (.yield h.length) #[] #[]] ++ ys.toList) (h ++ [.loop ⟨.ready, none, N, fr, ps, assign, body⟩]) (ARange P N h.length Q fr)) : AW P N (.rangeFunc g ps assign body) Q fr h := by
  refine ⟨?_, fun n ro B G w a R F D => wpIn_rangeFunc fun fn _ => ?_⟩
  · obtain ⟨v, h', r, _, _, z⟩ := q.inh
    cases hp : r.pending with
    | none => rw [hp] at z; exact ⟨.normal, _, _, z, rfl⟩
    | some c => rw [hp] at z; exact z.inh
  · have hv := ev_sound F hn hg
    obtain ⟨xs', ys', hev, VX, VY⟩ : ∃ xs' ys', a.eval g = .func (.func f) xs' ys' ∧ VL G xs.toList xs'.toList ∧ VL G ys.toList ys'.toList := by
      generalize a.eval g = gv at hv
      cases hv with
      | plain hp => simp [plainAtom] at hp
      | func h1 h2 h3 h4 => exact ⟨_, _, rfl, vl_of_arrays h1 h2, vl_of_arrays h3 h4⟩
    -- the entry
    have entry : ∃ (l : Nat) (mark : List Deferred) (w₁ : World) (G₁ : Gh) (x : Ent), (Instr.enterLoop fn a.tmps ps assign body ro).run P w = .ok (l, mark) w₁ ∧
        Rel P G₁ (h ++ [.loop ⟨.ready, none, N, fr, ps, assign, body⟩]) w₁.heap ∧ EvW G h w G₁ (h ++ [.loop ⟨.ready, none, N, fr, ps, assign, body⟩]) w₁ ∧ G₁ h.length 0 = some x ∧ x.cb = l ∧
        RoOk B G₁ (h ++ [.loop ⟨.ready, none, N, fr, ps, assign, body⟩]) w₁.heap ro (mark ++ a.defers) := by
      cases ro with
      | some l₀ =>
        obtain ⟨D1, id, x₀, r₀, D2, D3, D4⟩ := D
        obtain ⟨x', r', h1, h2, _⟩ := R.loop D4
        rw [D2] at h1; cases h1
        subst D3
        have hok : LoopR (gput G h.length 0 ⟨w.heap.size, 0, 0, 0⟩) ⟨.ready, none, N, fr, ps, assign, body⟩ { state := .ready, pending := none, fn, tmps := a.tmps, params := ps, assign, body, defers := r'.defers } :=
          ⟨rfl, rfl, F.mono (le_gput (R.none_len 0)), rfl, rfl, rfl⟩
        obtain ⟨R₁, E₁⟩ := R.add (.loop ⟨.ready, none, N, fr, ps, assign, body⟩) (.loop { state := .ready, pending := none, fn, tmps := a.tmps, params := ps, assign, body, defers := r'.defers }) 0 ⟨w.heap.size, 0, 0, 0⟩ rfl ⟨rfl, rfl⟩
          ⟨fun b hb => (by cases hb), fun b hb => (by cases hb), fun b hb => (by cases hb), fun _ => ⟨_, .loop { state := .ready, pending := none, fn, tmps := a.tmps, params := ps, assign, body, defers := r'.defers }, gput_same _ _ _ _, by simp, hok⟩⟩
        refine ⟨_, _, _, _, _, run_enterLoop_inner h2 fn a.tmps ps assign body, R₁, ⟨E₁, rfl, rfl, rfl⟩, gput_same _ _ _ _, rfl, ?_⟩
        have : RoOk B G h w.heap (some x₀.cb) a.defers := ⟨D1, id, x₀, r₀, D2, rfl, D4⟩
        exact this.ev E₁
      | none =>
        obtain ⟨D0, ms, D1, D2, D3⟩ := D
        let w' := w.alloc (.deferred (some []))
        have hH : ∀ b, b < w.heap.size → w'.heap[b]? = w.heap[b]? := fun b hb => by
          show (w.heap.push _)[b]? = _
          rw [Array.getElem?_push]; simp; omega
        have Rw : Rel P G h w'.heap := R.off (by simp [w']) fun id e x hx => hH _ (R.bnd _ _ _ hx)
        have Ew : EvW G h w G h w' := ⟨(Ev.refl G h w.heap).off (by simp [w']) hH, rfl, rfl, rfl⟩
        have hok : LoopR (gput G h.length 0 ⟨w'.heap.size, 0, 0, 0⟩) ⟨.ready, none, N, fr, ps, assign, body⟩ { state := .ready, pending := none, fn, tmps := a.tmps, params := ps, assign, body, defers := w.heap.size } :=
          ⟨rfl, rfl, F.mono (le_gput (R.none_len 0)), rfl, rfl, rfl⟩
        obtain ⟨R₁, E₁⟩ := Rw.add (.loop ⟨.ready, none, N, fr, ps, assign, body⟩) (.loop { state := .ready, pending := none, fn, tmps := a.tmps, params := ps, assign, body, defers := w.heap.size }) 0 ⟨w'.heap.size, 0, 0, 0⟩ rfl ⟨rfl, rfl⟩
          ⟨fun b hb => (by cases hb), fun b hb => (by cases hb), fun b hb => (by cases hb), fun _ => ⟨_, .loop { state := .ready, pending := none, fn, tmps := a.tmps, params := ps, assign, body, defers := w.heap.size }, gput_same _ _ _ _, by simp, hok⟩⟩
        refine ⟨_, _, _, _, _, run_enterLoop_outer fn a.tmps ps assign body, R₁, Ew.trans ⟨E₁, rfl, rfl, rfl⟩, gput_same _ _ _ _, by simp [w'], ?_⟩
        have hsz : ∀ id e x, gput G h.length 0 ⟨w'.heap.size, 0, 0, 0⟩ id e = some x → x.cb ≠ w.heap.size := fun id e x hx => by
          rcases gput_cases hx with ⟨_, _, rfl⟩ | hx
          · simp [w']
          · have := R.bnd _ _ _ hx; omega
        refine ⟨by simp; omega, w.heap.size :: ms, by rw [D1]; rfl, List.nodup_cons.2 ⟨fun hm => ?_, D2⟩, fun r hr => ?_⟩
        · have := (D3 _ hm).2.1; simp at this
        · rcases List.mem_cons.1 hr with rfl | hr
          · refine ⟨D0, ?_, hsz⟩
            show ((w.heap.push (.deferred (some []))).push _)[w.heap.size]? = _
            rw [Array.getElem?_push]; simp
          · obtain ⟨g1, g2, g3⟩ := D3 r hr
            have hlt := (Array.getElem?_eq_some_iff.1 g2).1
            refine ⟨g1, ?_, fun id e x hx => ?_⟩
            · show ((w.heap.push (.deferred (some []))).push _)[r]? = _
              rw [Array.getElem?_push, if_neg (by simp; omega), Array.getElem?_push, if_neg (by omega)]; exact g2
            · rcases gput_cases hx with ⟨_, _, rfl⟩ | hx
              · simp [w']; omega
              · exact g3 _ _ _ hx
    obtain ⟨l, mark, w₁, G₁, x, hent, R₁, E₁, hx, hxl, D₁⟩ := entry
    subst hxl
    have hcall := q.sem n G₁ w₁ (xs' ++ #[.func (.yield x.cb) #[] #[]] ++ ys') R₁ (by
      simp only [Array.toList_append]
      exact ((VX.mono E₁.le).append (VL.cons (.yield hx) (VL.nil _))).append (VY.mono E₁.le))
    rw [run_enter hb] at hcall
    refine ⟨x.cb, mark, w₁, { target := .fn (.func f) ys', args := xs' ++ #[.func (.yield x.cb) #[] #[]] }, w₁, f, xs' ++ #[.func (.yield x.cb) #[] #[]] ++ ys', w₁, hent, ?_, fun _ _ => trivial, ?_, fun hq => by simp [fence, Fence.wide] at hq, ?_⟩
    · simp only [resolve, hev]
      simp [Deferred.ofValue, Act.eval]
    · simp only [invoke]; exact run_enter hb _ _
    · have hcall' : CallsIn (fence ro) (n - 1) P f (xs' ++ #[.func (.yield x.cb) #[] #[]] ++ ys') w₁ (fun e w' => match e with | .returned v => CallPost P G₁ _ w₁ (ARange P N h.length Q fr) v w' | _ => False) := hcall
      refine hcall'.mono ?_
      intro e w₂ z
      cases e with
      | panicked _ => exact z.elim
      | outgrown => exact z.elim
      | returned v =>
        obtain ⟨G₂, v₀, h₂, ⟨r, z1, z2, z3⟩, R₂, _, E₂⟩ := z
        obtain ⟨x₂, r', m1, m2, m3⟩ := R₂.loop z1
        have hx₂ := E₂.le _ _ _ hx
        rw [hx₂] at m1; cases m1
        obtain ⟨R₃, E₃⟩ := R₂.setLoop z1 hx₂ (r1 := { r with state := .exhausted }) (r1' := { r' with state := .exhausted }) ⟨rfl, m3.2.1, m3.2.2.1, m3.2.2.2⟩
        have hbz : r'.state ≠ .busy := fun hq => by rw [m3.1] at hq; rw [hq] at z2; cases z2
        refine ⟨_, _, run_endLoop m2 hbz, ?_⟩
        have EE : EvW G h w G₂ (h₂.set h.length (.loop { r with state := .exhausted })) (w₂.putObj x.cb (.loop { r' with state := .exhausted })) := (E₁.trans E₂).trans E₃
        have DD := D₁.ev (E₂.trans E₃).toEv
        have hpr := m3.2.1
        clear E₃
        revert z3 R₃ EE DD
        generalize (h₂.set h.length (.loop { r with state := .exhausted })) = h₄
        generalize (w₂.putObj x.cb (.loop { r' with state := .exhausted })) = w₄
        intro z3 R₃ EE DD
        rw [hpr]
        cases hp : r.pending with
        | none =>
          rw [hp] at z3
          exact ⟨rfl, G₂, fr, _, z3, R₃, F.mono EE.le, EE, DD⟩
        | some c =>
          rw [hp] at z3
          exact wpIn_mono (z3.sem n ro B G₂ _ { a with defers := mark ++ a.defers } R₃ (F.mono EE.le) DD) fun e a' w' z => z.trans EE
end Go.Am
