/- A function's contract in the abstract logic, from its body's. -/
import Derived.Test.YtodmfjhjaegoeaaGreatDoorAmWp
set_option linter.unusedVariables false
set_option linter.unusedSimpArgs false
namespace Go.Am

theorem Rel.off {P : Program} {G : Gh} {h : Heap} {H H' : Array Obj} (R : Rel P G h H) (hs : H.size ≤ H'.size) (hH : ∀ id e x, G id e = some x → H'[x.cb]? = H[x.cb]?) : Rel P G h H' := by
  refine ⟨R.dom, fun id e x hx => Nat.lt_of_lt_of_le (R.bnd _ _ _ hx) hs, fun id b hb e x hx hlo => ?_, fun id b hb how => ?_, R.one, fun id o ho hn => ?_, R.disj⟩
  · obtain ⟨cs, fr, h1, h2⟩ := R.blk id b hb e x hx hlo
    exact ⟨cs, fr, (hH _ _ _ hx).trans h1, h2⟩
  · obtain ⟨h1, x, h2, h3⟩ := R.own id b hb how
    exact ⟨h1, x, h2, h3.congr (hH _ _ _ h2)⟩
  · obtain ⟨x, o', h1, h2, h3⟩ := R.obj id o ho hn
    exact ⟨x, o', h1, (hH _ _ _ h1).trans h2, h3⟩

theorem Ev.off {G₀ G : Gh} {h₀ h : Heap} {H₀ H H' : Array Obj} (E : Ev G₀ h₀ H₀ G h H) (hs : H.size ≤ H'.size) (hH : ∀ b, b < H₀.size → H'[b]? = H[b]?) : Ev G₀ h₀ H₀ G h H' :=
  ⟨E.le, Nat.le_trans E.size hs, fun b hb hk => (hH b hb).trans (E.keep b hb hk), E.new, E.ext, E.loops⟩

/-! ### Results -/
def aResult (P : Program) (fr : Fr) (h : Heap) : ResultVar → Option Value
  | .tmp t => some (fr t)
  | .cell a t => match fr a with
    | .pointer (some ad) => aLoad P h t ad
    | _ => none
def aResults (P : Program) (fr : Fr) (h : Heap) : List ResultVar → Option (List Value)
  | [] => some []
  | r :: rs => (aResult P fr h r).bind fun v => (aResults P fr h rs).map (v :: ·)
def retOf : List Value → Value
  | [v] => v
  | vs => .tuple vs.toArray
def resOk (N : Nat) : ResultVar → Bool
  | .tmp t => decide (t < N)
  | .cell a _ => decide (a < N)

def resultOne (tmps : Array Value) : ResultVar → Sem Value
  | .tmp t => pure (tmps.getD t undef)
  | .cell a t => do loadVar t (← asAddr (tmps.getD a undef))
theorem results_eq (fn : Func) (tmps : Array Value) : results fn tmps = (do
    let vs ← fn.results.mapM (resultOne tmps)
    pure (if h : vs.size = 1 then vs[0] else .tuple vs)) := by
  unfold results
  congr 1

theorem aResults_sound {P : Program} {G : Gh} {N : Nat} {fr : Fr} {h : Heap} {tmps : Array Value} {w : World} (R : Rel P G h w.heap) (hF : FR G N fr tmps) :
    ∀ (rs : List ResultVar) (vs : List Value), rs.all (resOk N) = true → aResults P fr h rs = some vs →
      ∃ vs', (rs.mapM (resultOne tmps)).run P w = .ok vs' w ∧ VL G vs vs'
  | [], vs, _, hr => by cases hr; exact ⟨[], by simp, VL.nil G⟩
  | r :: rs, vs, hk, hr => by
    simp only [aResults] at hr
    simp only [List.all_cons, Bool.and_eq_true] at hk
    obtain ⟨v, h1, h2⟩ := Option.bind_eq_some_iff.1 hr
    obtain ⟨vs₀, h3, rfl⟩ := Option.map_eq_some_iff.1 h2
    obtain ⟨vs', h4, h5⟩ := aResults_sound R hF rs vs₀ hk.2 h3
    have one : ∃ v', (resultOne tmps r).run P w = .ok v' w ∧ VR G v v' := by
      cases r with
      | tmp t =>
        simp only [aResult, Option.some.injEq] at h1
        subst h1
        exact ⟨_, by simp [resultOne], hF.2 t (by simpa [resOk] using hk.1)⟩
      | cell a t =>
        simp only [aResult] at h1
        have hv := hF.2 a (by simpa [resOk] using hk.1)
        split at h1 <;> (try (cases h1; done))
        rename_i ad had
        rw [had] at hv
        obtain ⟨v', h6, h7⟩ := aLoad_sound R h1 hv
        obtain ⟨e, x, _, _, h8⟩ := hv.ptr_inv
        refine ⟨v', ?_, h7⟩
        rw [h8] at h6
        show ((do loadVar t (← asAddr (tmps.getD a undef)) : Sem Value)).run P w = _
        rw [h8]
        simpa [Instr.loadAt, Instr.sureAddr, asAddr, Sem.run_bind] using h6
    obtain ⟨v', h6, h7⟩ := one
    refine ⟨v' :: vs', ?_, VL.cons h7 h5⟩
    simp only [List.mapM_cons, Sem.run_bind, h6, Result.andThen_ok, h4, Sem.run_pure]

theorem results_sound {P : Program} {G : Gh} {fn : Func} {fr : Fr} {h : Heap} {tmps : Array Value} {w : World} (R : Rel P G h w.heap) (hF : FR G fn.ntmps fr tmps) {vs : List Value}
    (hk : fn.results.toList.all (resOk fn.ntmps) = true) (hr : aResults P fr h fn.results.toList = some vs) : ∃ v', (results fn tmps).run P w = .ok v' w ∧ VR G (retOf vs) v' := by
  obtain ⟨vs', h1, h2⟩ := aResults_sound R hF _ _ hk hr
  refine ⟨if h : vs'.toArray.size = 1 then vs'.toArray[0] else .tuple vs'.toArray, ?_, ?_⟩
  · rw [results_eq, Array.mapM_eq_mapM_toList]
    rw [map_eq_pure_bind]
    simp only [Sem.run_bind, Sem.run_pure]
    rw [h1]
    rfl
  · cases vs with
    | nil => rw [h2.of_nil]; exact VR.undef G
    | cons v vs =>
      obtain ⟨v', vs'', rfl, h3, h4⟩ := h2.head
      cases vs with
      | nil => rw [h4.of_nil]; simpa [retOf] using h3
      | cons u us =>
        obtain ⟨u', us', rfl, h5, h6⟩ := h4.head
        have : (v' :: u' :: us').toArray.size ≠ 1 := by simp
        rw [dif_neg this]
        have ha := arrays_of_vl (xs := (v :: u :: us).toArray) (ys := (v' :: u' :: us').toArray) (G := G) (by simpa using VL.cons h3 (VL.cons h5 h6))
        exact .tuple ha.1 ha.2

/-- What a body must achieve. -/
def RetQ (P : Program) (rs : List ResultVar) (R : Value → Heap → Prop) : Exit → Fr → Heap → Prop
  | .normal, fr, h => optE (aResults P fr h rs) (fun vs => R (retOf vs) h) False
  | .ret, fr, h => optE (aResults P fr h rs) (fun vs => R (retOf vs) h) False
  | _, _, _ => False

def frOf (args : List Value) : Fr := fun t => args.getD t undef

theorem FR.entry {G : Gh} {args : List Value} {cargs : Array Value} {N : Nat} (h : VL G args cargs.toList) (hN : args.length ≤ N) : FR G N (frOf args) (cargs ++ Array.replicate (N - cargs.size) undef) := by
  have hl : args.length = cargs.size := by simpa using h.1
  refine ⟨by simp only [Array.size_append, Array.size_replicate]; omega, fun t ht => ?_⟩
  simp only [frOf]
  by_cases hx : t < cargs.size
  · have := h.2 t (by omega)
    simpa [List.getD_eq_getElem?_getD, Array.getD_eq_getD_getElem?, Array.getElem?_append_left hx] using this
  · have h1 : args.getD t Go.undef = Go.undef := by rw [List.getD_eq_getElem?_getD, List.getElem?_eq_none (by omega)]; rfl
    have h2 : (cargs ++ Array.replicate (N - cargs.size) Go.undef).getD t Go.undef = Go.undef := by
      rw [Array.getD_eq_getD_getElem?, Array.getElem?_append_right (by omega), Array.getElem?_replicate]
      split <;> rfl
    rw [h1, h2]; exact VR.undef G

theorem leaves_marks {P : Program} {n : Nat} {fn : Func} {tmps : Array Value} {G₀ G : Gh} {h₀ h : Heap} {W₀ : World} {fr : Fr} {R : Value → Heap → Prop} (hF : FR G fn.ntmps fr tmps) {vs : List Value}
    (hk : fn.results.toList.all (resOk fn.ntmps) = true) (hr : aResults P fr h fn.results.toList = some vs) (hR : R (retOf vs) h) :
    ∀ (ms : List Nat) (w : World), ms.Nodup → (∀ r ∈ ms, W₀.heap.size ≤ r ∧ w.heap[r]? = some (.deferred (some [])) ∧ ∀ id e x, G id e = some x → x.cb ≠ r) →
      Rel P G h w.heap → EvW G₀ h₀ W₀ G h w →
      LeavesInM Fence.wide n P fn tmps (fun e w' => match e with | .returned v => CallPost P G₀ h₀ W₀ R v w' | _ => False) (ms.map markOf) .returning w
  | [], w, _, _, hRel, hE => by
    obtain ⟨v', h1, h2⟩ := results_sound hRel hF hk hr
    exact ⟨v', h1, G, _, h, hR, hRel, h2, hE⟩
  | r :: ms, w, hn, hm, hRel, hE => by
    obtain ⟨hb, hd, hx⟩ := hm r List.mem_cons_self
    obtain ⟨hnr, hn⟩ := List.nodup_cons.1 hn
    refine ⟨by simp, .inl ⟨r, w.putObj r (.deferred none), rfl, run_takeDeferred hd, ?_⟩⟩
    have hoth : ∀ c, c ≠ r → (w.putObj r (.deferred none)).heap[c]? = w.heap[c]? := fun c hc => World.putObj_heap_other hc
    refine leaves_marks hF hk hr hR ms _ hn (fun s hs => ?_) (hRel.off (by simp) fun id e x q => hoth _ (hx id e x q)) ⟨hE.toEv.off (by simp) fun b hb' => hoth b (by omega), hE.os, hE.tape, hE.output⟩
    obtain ⟨h1, h2, h3⟩ := hm s (List.mem_cons_of_mem _ hs)
    exact ⟨h1, (hoth s (fun q => hnr (q ▸ hs))).trans h2, h3⟩

theorem ACall_intro {P : Program} {f : FuncId} {fn : Func} {c : Code} {args : List Value} {h : Heap} {R : Value → Heap → Prop} (hf : P.funcs[f]? = some fn) (hb : fn.body = some c)
    (hname : (fn.name == "runtime.NumGoroutine") = false) (hk : fn.results.toList.all (resOk fn.ntmps) = true) (hN : args.length ≤ fn.ntmps)
    (q : AW P fn.ntmps c (RetQ P fn.results.toList R) (frOf args) h) : ACall P f args h R := by
  refine ⟨?_, fun n G w cargs hR hA => ?_⟩
  · obtain ⟨e, fr', h', z, o⟩ := q.inh
    cases e <;> first | exact optE_inh z fun _ q => ⟨_, _, q⟩ | exact z.elim
  · have hcall : (callFunc f cargs).run P w = .ok (.enter f cargs) w := by
      have hb' : fn.body.isNone = false := by simp [hb]
      unfold callFunc
      simp only [Sem.run_bind, run_program, Result.andThen_ok, hf, hname, hb', Bool.false_eq_true, if_false, Sem.run_pure]
    rw [hcall]
    refine callsIn_of_wp_marks hf hb trivial ?_
    have := q.sem (n - 1) none w.heap.size G w { tmps := cargs ++ Array.replicate (fn.ntmps - cargs.size) undef, defers := [] } hR (FR.entry hA hN) ⟨Nat.le_refl _, [], rfl, List.nodup_nil, fun r hr => by cases hr⟩
    refine wpIn_mono this ?_
    rintro e a' w' ⟨o, G', fr', h', z, q2, q3, q4, q5⟩
    obtain ⟨_, ms, hms, hnd, hmm⟩ := q5
    have fin : optE (aResults P fr' h' fn.results.toList) (fun vs => R (retOf vs) h') False → LeavesInM Fence.wide (n - 1) P fn a'.tmps (fun e w' => match e with | .returned v => CallPost P G h w R v w' | _ => False) a'.defers .returning w' := by
      intro z
      rcases optE_cases z with ⟨vs, hvs, hR'⟩ | ⟨_, q⟩
      · rw [hms]; exact leaves_marks q3 hk hvs hR' ms w' hnd hmm q2 q4
      · exact q.elim
    cases e <;> first | exact fin z | exact z.elim
end Go.Am
