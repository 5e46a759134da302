/- The abstract logic: what a call, an operation, a piece of code does with the abstract heap. -/
import Derived.Test.YtodmfjhjaegoeaaGreatDoorAmEff4
import Derived.TacticsIn
import Derived.LoopNIn
set_option linter.unusedVariables false
set_option linter.unusedSimpArgs false
namespace Go.Am

abbrev Fr := Nat → Value
def upd (fr : Fr) (t : Nat) (v : Value) : Fr := fun s => if s = t then v else fr s
def put (fr : Fr) (d : Option Tmp) (v : Value) : Fr := match d with
  | some t => upd fr t v
  | none => fr

theorem FR.put {G : Gh} {N : Nat} {fr : Fr} {a : Act} (h : FR G N fr a.tmps) {d : Option Tmp} {v v' : Value} (hd : ∀ t, d = some t → t < N) (hv : VR G v v') : FR G N (put fr d v) (a.put d v').tmps := by
  cases d with
  | none => exact h
  | some t =>
    have ht := hd t rfl
    refine ⟨by simp [Act.put, h.1], fun s hs => ?_⟩
    simp only [Am.put, upd, Act.put]
    have hsz := h.1
    by_cases hst : s = t
    · subst hst; rw [if_pos rfl]; simp [Array.getD_eq_getD_getElem?, hsz, hs]; exact hv
    · rw [if_neg hst]
      have := h.2 s hs
      simpa [Array.getD_eq_getD_getElem?, Array.getElem?_setIfInBounds, Ne.symm hst] using this

/-- The fence: none, but in a round of the loop ro. -/
def fence (ro : Option Nat) : Fence := { Fence.wide with round := ro }

/-- What the outcome of an operation's run must be. -/
def NextIn (n : Nat) (P : Program) (K : Value → World → Prop) : Result Next → Prop
  | .ok (.value v) w => K v w
  | .ok (.enter f args) w => CallsIn Fence.wide (n - 1) P f args w fun e w' => match e with
    | .returned v => K v w'
    | _ => False
  | .ok (.round l f tmps assign body) w => RoundIn Fence.wide (n - 1) P l f tmps assign body w fun e w' => match e with
    | .returned v => K v w'
    | _ => False
  | _ => False

theorem NextIn.mono {n : Nat} {P : Program} {K K' : Value → World → Prop} {r : Result Next} (h : NextIn n P K r) (hk : ∀ v w, K v w → K' v w) : NextIn n P K' r := by
  cases r with
  | halt _ _ => exact h.elim
  | ok x w =>
    cases x <;> simp only [NextIn] at h ⊢
    · exact hk _ _ h
    · exact h.mono fun e w' q => by cases e <;> first | exact hk _ _ q | exact q.elim
    · exact h.mono fun e w' q => by cases e <;> first | exact hk _ _ q | exact q.elim

def CallPost (P : Program) (G : Gh) (h : Heap) (W : World) (R : Value → Heap → Prop) (v' : Value) (w' : World) : Prop :=
  ∃ G' v h', R v h' ∧ Rel P G' h' w'.heap ∧ VR G' v v' ∧ EvW G h W G' h' w'

/-- A call of a function by its number. -/
structure ACall (P : Program) (f : FuncId) (args : List Value) (h : Heap) (R : Value → Heap → Prop) : Prop where
  inh : ∃ v h', R v h'
  sem : ∀ (n : Nat) (G : Gh) (w : World) (cargs : Array Value), Rel P G h w.heap → VL G args cargs.toList → NextIn n P (CallPost P G h w R) ((callFunc f cargs).run P w)

/-- A call of a function value. -/
structure ACallV (P : Program) (fv : Value) (args : List Value) (h : Heap) (R : Value → Heap → Prop) : Prop where
  inh : ∃ v h', R v h'
  sem : ∀ (n : Nat) (G : Gh) (w : World) (fv' : Value) (cargs : Array Value), Rel P G h w.heap → VR G fv fv' → VL G args cargs.toList →
    NextIn n P (CallPost P G h w R) ((do let d ← Deferred.ofValue fv' cargs; invoke d.target d.args : Sem Next).run P w)

theorem CallPost.mono {P : Program} {G : Gh} {h : Heap} {W : World} {R R' : Value → Heap → Prop} (hr : ∀ v h', R v h' → R' v h') {v' : Value} {w' : World} (q : CallPost P G h W R v' w') : CallPost P G h W R' v' w' :=
  let ⟨G', v, h', r, x⟩ := q; ⟨G', v, h', hr _ _ r, x⟩

theorem ACall.mono {P : Program} {f : FuncId} {args : List Value} {h : Heap} {R R' : Value → Heap → Prop} (q : ACall P f args h R) (hr : ∀ v h', R v h' → R' v h') : ACall P f args h R' :=
  ⟨let ⟨v, h', r⟩ := q.inh; ⟨v, h', hr _ _ r⟩, fun n G w cargs a b => (q.sem n G w cargs a b).mono fun _ _ x => x.mono hr⟩
theorem ACallV.mono {P : Program} {f : Value} {args : List Value} {h : Heap} {R R' : Value → Heap → Prop} (q : ACallV P f args h R) (hr : ∀ v h', R v h' → R' v h') : ACallV P f args h R' :=
  ⟨let ⟨v, h', r⟩ := q.inh; ⟨v, h', hr _ _ r⟩, fun n G w fv' cargs a b c => (q.sem n G w fv' cargs a b c).mono fun _ _ x => x.mono hr⟩

/-- A closure: the function, its captured values behind the arguments. -/
theorem ACallV.of_func {P : Program} {f : FuncId} {xs ys : Array Value} {args : List Value} {h : Heap} {R : Value → Heap → Prop} (q : ACall P f (xs.toList ++ args ++ ys.toList) h R) : ACallV P (.func (.func f) xs ys) args h R := by
  refine ⟨q.inh, fun n G w fv' cargs hR hv ha => ?_⟩
  cases hv with
  | plain hp => simp [plainAtom] at hp
  | func h1 h2 h3 h4 =>
    rename_i ys' vs'
    have := q.sem n G w (ys' ++ cargs ++ vs') hR (by
      simp only [Array.toList_append]
      exact ((vl_of_arrays h1 h2).append ha).append (vl_of_arrays h3 h4))
    simpa [Deferred.ofValue, invoke] using this

/-! ### One operation, a list of them -/
def optE {α : Type} (o : Option α) (K : α → Prop) (E : Prop) : Prop := match o with
  | some x => K x
  | none => E
theorem optE_some {α : Type} (x : α) (K : α → Prop) (E : Prop) : optE (some x) K E = K x := rfl
theorem optE_none {α : Type} (K : α → Prop) (E : Prop) : optE none K E = E := rfl
theorem optE_cases {α : Type} {o : Option α} {K : α → Prop} {E : Prop} (h : optE o K E) : (∃ x, o = some x ∧ K x) ∨ (o = none ∧ E) := by
  cases o with
  | none => exact .inr ⟨rfl, h⟩
  | some x => exact .inl ⟨x, rfl, h⟩
theorem optE_mono {α : Type} {o : Option α} {K K' : α → Prop} {E E' : Prop} (h : ∀ x, K x → K' x) (he : E → E') (q : optE o K E) : optE o K' E' := by
  cases o with
  | none => exact he q
  | some x => exact h x q

def AOp (P : Program) (o : Oper) (K : Fr → Heap → Prop) (fr : Fr) (h : Heap) : Prop :=
  match o.op with
  | .call c => match c.callee with
    | .builtin .append => optE (effOp P fr h (.call c)) (fun x => K (put fr o.dst x.1) x.2) False
    | .builtin .copy => optE (effOp P fr h (.call c)) (fun x => K (put fr o.dst x.1) x.2) False
    | .builtin .delete => optE (effOp P fr h (.call c)) (fun x => K (put fr o.dst x.1) x.2) False
    | .builtin .len => optE (pureOp P fr (.call c)) (fun v => K (put fr o.dst v) h) (optE (readOp P fr h (.call c)) (fun v => K (put fr o.dst v) h) False)
    | .builtin _ => optE (pureOp P fr (.call c)) (fun v => K (put fr o.dst v) h) False
    | .value (.func f) => optE (evl fr c.args.toList) (fun args => ACall P f args h fun v h' => K (put fr o.dst v) h') False
    | .value f => optE (ev fr f) (fun fv => optE (evl fr c.args.toList) (fun args => ACallV P fv args h fun v h' => K (put fr o.dst v) h') False) False
    | .invoke _ _ => False
  | .load t x => optE (readOp P fr h (.load t x)) (fun v => K (put fr o.dst v) h) False
  | .convert s d x => optE (pureOp P fr (.convert s d x)) (fun v => K (put fr o.dst v) h)
      (optE (readOp P fr h (.convert s d x)) (fun v => K (put fr o.dst v) h) (optE (effOp P fr h (.convert s d x)) (fun x => K (put fr o.dst x.1) x.2) False))
  | .alloc t => optE (effOp P fr h (.alloc t)) (fun x => K (put fr o.dst x.1) x.2) False
  | .box t x => optE (effOp P fr h (.box t x)) (fun x => K (put fr o.dst x.1) x.2) False
  | .buildSlice t l ps => optE (effOp P fr h (.buildSlice t l ps)) (fun x => K (put fr o.dst x.1) x.2) False
  | .store t x y => optE (effOp P fr h (.store t x y)) (fun x => K (put fr o.dst x.1) x.2) False
  | .makeSlice t l c => optE (effOp P fr h (.makeSlice t l c)) (fun x => K (put fr o.dst x.1) x.2) False
  | .lookup t m k ok => optE (readOp P fr h (.lookup t m k ok)) (fun v => K (put fr o.dst v) h) False
  | .typeAssert x t u ok => optE (readOp P fr h (.typeAssert x t u ok)) (fun v => K (put fr o.dst v) h) False
  | .makeMap t r => optE (effOp P fr h (.makeMap t r)) (fun x => K (put fr o.dst x.1) x.2) False
  | .mapUpdate t m k x => optE (effOp P fr h (.mapUpdate t m k x)) (fun x => K (put fr o.dst x.1) x.2) False
  | .range t x => optE (effOp P fr h (.range t x)) (fun x => K (put fr o.dst x.1) x.2) False
  | .next x s => optE (effOp P fr h (.next x s)) (fun x => K (put fr o.dst x.1) x.2) False
  | op => optE (pureOp P fr op) (fun v => K (put fr o.dst v) h) False

def ayield (ops : Array Oper) (fr : Fr) (j : Nat) : Option Bool :=
  match (ops[j]?).bind (·.dst) with
  | some d => match fr d with
    | .bool b => some b
    | _ => none
  | none => none

def wantedA (ops : Array Oper) (fr : Fr) (o : Oper) : Bool := match o.guard with
  | none => true
  | some (j, want) => ayield ops fr j == some want

def AOps (P : Program) (ops : Array Oper) (Q : Fr → Heap → Prop) : List Oper → Fr → Heap → Prop
  | [], fr, h => Q fr h
  | o :: rest, fr, h => if wantedA ops fr o = true then AOp P o (AOps P ops Q rest) fr h else AOps P ops Q rest (put fr o.dst undef) h

def operOk (N : Nat) (o : Oper) : Bool := o.op.operands.toList.all (inN N) && (match o.dst with | some d => decide (d < N) | none => true)
def opsOk (N : Nat) (ops : List Oper) : Bool := ops.all (operOk N)

theorem operOk_dst {N : Nat} {o : Oper} (h : operOk N o = true) : ∀ t, o.dst = some t → t < N := by
  intro t ht
  simp only [operOk, Bool.and_eq_true] at h
  have := h.2
  rw [ht] at this
  simpa using this

/-- What an operation leaves, concretely. -/
def OpPost (P : Program) (N : Nat) (G : Gh) (h : Heap) (W : World) (a₀ : Act) (d : Option Tmp) (K : Fr → Heap → Prop) (a' : Act) (w' : World) : Prop :=
  ∃ G' fr' h', K fr' h' ∧ Rel P G' h' w'.heap ∧ FR G' N fr' a'.tmps ∧ EvW G h W G' h' w' ∧ ∃ u, a' = a₀.put d u

theorem put_defers (a : Act) (d : Option Tmp) (v : Value) : (a.put d v).defers = a.defers := by cases d <;> rfl

theorem upon_next {P : Program} {N n : Nat} {ro : Option Nat} {G : Gh} {h : Heap} {w : World} {fr : Fr} {a : Act} {o : Oper} {R : Value → Heap → Prop} {K : Fr → Heap → Prop} {Q : Exit → Act → World → Prop}
    (hF : FR G N fr a.tmps) (hd : ∀ t, o.dst = some t → t < N) (hk : ∀ v h', R v h' → K (put fr o.dst v) h') {r : Result Next} (hr : NextIn n P (CallPost P G h w R) r) :
    o.uponIn (fence ro) n P a (OpPost P N G h w a o.dst K) Q r := by
  have key : ∀ v' w', CallPost P G h w R v' w' → OpPost P N G h w a o.dst K (a.put o.dst v') w' := by
    rintro v' w' ⟨G', v, h', r1, r2, r3, r4⟩
    exact ⟨G', _, h', hk _ _ r1, r2, (hF.mono r4.le).put hd r3, r4, _, rfl⟩
  cases r with
  | halt _ _ => exact hr.elim
  | ok x w' =>
    cases x <;> simp only [NextIn] at hr <;> try (exact hr.elim)
    · exact key _ _ hr
    · refine ⟨fun q => by simp [fence, Fence.wide] at q, ?_⟩
      have h2 : CallsIn (fence ro) (n - 1) P _ _ w' _ := hr
      exact h2.mono fun e w'' q => by cases e <;> first | exact key _ _ q | exact q.elim
    · refine ⟨fun q => by simp [fence, Fence.wide] at q, ?_⟩
      have h2 : RoundIn (fence ro) (n - 1) P _ _ _ _ _ w' _ := hr
      exact h2.mono fun e w'' q => by cases e <;> first | exact key _ _ q | exact q.elim

theorem AOp_sound {P : Program} {N n : Nat} {ro : Option Nat} {G : Gh} {h : Heap} {w : World} {fr : Fr} {a : Act} {o : Oper} {K : Fr → Heap → Prop} {Q : Exit → Act → World → Prop}
    (R : Rel P G h w.heap) (hF : FR G N fr a.tmps) (hn : operOk N o = true) (hop : AOp P o K fr h) : o.wpIn (fence ro) n P a w (OpPost P N G h w a o.dst K) Q := by
  have hd := operOk_dst hn
  have hn1 : (o.op.operands.toList.all (inN N)) = true := by simp only [operOk, Bool.and_eq_true] at hn; exact hn.1
  refine ⟨fun _ _ => trivial, ?_⟩
  have nodefer : ∀ c, o.op ≠ .defer c := by
    intro c hc
    unfold AOp at hop
    rw [hc] at hop
    simp [pureOp, optE] at hop
  rw [Oper.semAt_eq _ _ _ nodefer]
  have pure_ : ∀ v, pureOp P fr o.op = some v → K (put fr o.dst v) h → o.uponIn (fence ro) n P a (OpPost P N G h w a o.dst K) Q ((execOp a.eval o).run P w) := by
    intro v hv hk
    obtain ⟨v', h1, h2⟩ := pureOp_sound hF hn1 hv
    rw [h1 w]
    exact ⟨G, _, h, hk, R, hF.put hd h2, EvW.refl _ _ _, _, rfl⟩
  have read_ : ∀ v, readOp P fr h o.op = some v → K (put fr o.dst v) h → o.uponIn (fence ro) n P a (OpPost P N G h w a o.dst K) Q ((execOp a.eval o).run P w) := by
    intro v hv hk
    obtain ⟨v', h1, h2⟩ := readOp_sound R hF hn1 hv
    rw [h1]
    exact ⟨G, _, h, hk, R, hF.put hd h2, EvW.refl _ _ _, _, rfl⟩
  have eff_ : ∀ v h', effOp P fr h o.op = some (v, h') → K (put fr o.dst v) h' → o.uponIn (fence ro) n P a (OpPost P N G h w a o.dst K) Q ((execOp a.eval o).run P w) := by
    intro v h' hv hk
    obtain ⟨G', w', v', h1, h2, h3, h4⟩ := effOp_sound R hF hn1 hv
    rcases h1 with h1 | ⟨h1, rfl⟩
    · rw [h1]; exact ⟨G', _, h', hk, h2, (hF.mono h3.le).put hd h4, h3, _, rfl⟩
    · rw [h1]; exact ⟨G', _, h', hk, h2, (hF.mono h3.le).put hd h4, h3, _, rfl⟩
  have pureE : optE (pureOp P fr o.op) (fun v => K (put fr o.dst v) h) False → o.uponIn (fence ro) n P a (OpPost P N G h w a o.dst K) Q ((execOp a.eval o).run P w) := by
    intro q
    rcases optE_cases q with ⟨v, e, k⟩ | ⟨_, k⟩
    · exact pure_ v e k
    · exact k.elim
  have readE : optE (readOp P fr h o.op) (fun v => K (put fr o.dst v) h) False → o.uponIn (fence ro) n P a (OpPost P N G h w a o.dst K) Q ((execOp a.eval o).run P w) := by
    intro q
    rcases optE_cases q with ⟨v, e, k⟩ | ⟨_, k⟩
    · exact read_ v e k
    · exact k.elim
  have effE : optE (effOp P fr h o.op) (fun x => K (put fr o.dst x.1) x.2) False → o.uponIn (fence ro) n P a (OpPost P N G h w a o.dst K) Q ((execOp a.eval o).run P w) := by
    intro q
    rcases optE_cases q with ⟨⟨v, h'⟩, e, k⟩ | ⟨_, k⟩
    · exact eff_ v h' e k
    · exact k.elim
  unfold AOp at hop
  cases ho : o.op <;> rw [ho] at hop pureE readE effE hn1 <;> simp only at hop
  case call c =>
    obtain ⟨callee, args, argTypes⟩ := c
    simp only at hop
    cases callee with
    | invoke r m => exact hop.elim
    | builtin b =>
      cases b <;> simp only at hop <;> first
        | exact effE hop
        | exact pureE hop
        | (rw [ho] at pure_
           rcases optE_cases hop with ⟨v, e, k⟩ | ⟨_, k⟩
           · exact pure_ v e k
           · exact readE k)
    | value f =>
      simp only [Op.operands, Call.operands, Array.toList_append] at hn1
      obtain ⟨hnf, hna⟩ := all_app hn1
      have exec : ∀ fv', a.eval f = fv' → (execOp a.eval o).run P w = ((do let d ← Deferred.ofValue fv' (args.map a.eval); invoke d.target d.args : Sem Next).run P w) := by
        intro fv' hfv
        simp only [execOp, ho, resolve, hfv]
      have stat : ∀ g as, f = .func g → evl fr args.toList = some as → (ACall P g as h fun v h' => K (put fr o.dst v) h') →
          o.uponIn (fence ro) n P a (OpPost P N G h w a o.dst K) Q ((execOp a.eval o).run P w) := by
        intro g as hg has hcall
        rw [exec (.func (.func g) #[] #[]) (by rw [hg]; rfl)]
        have := hcall.sem n G w (args.map a.eval) R (evl_arr hF hna has)
        refine upon_next hF hd (fun v h' q => q) (R := fun v h' => K (put fr o.dst v) h') ?_
        simpa [Deferred.ofValue, invoke] using this
      have dyn : ∀ fv as, ev fr f = some fv → evl fr args.toList = some as → (ACallV P fv as h fun v h' => K (put fr o.dst v) h') →
          o.uponIn (fence ro) n P a (OpPost P N G h w a o.dst K) Q ((execOp a.eval o).run P w) := by
        intro fv as hfv has hcall
        rw [exec _ rfl]
        exact upon_next hF hd (fun v h' q => q) (R := fun v h' => K (put fr o.dst v) h') (hcall.sem n G w _ (args.map a.eval) R (ev_sound hF (by simpa using hnf) hfv) (evl_arr hF hna has))
      have dynE : optE (ev fr f) (fun fv => optE (evl fr args.toList) (fun args => ACallV P fv args h fun v h' => K (put fr o.dst v) h') False) False →
          o.uponIn (fence ro) n P a (OpPost P N G h w a o.dst K) Q ((execOp a.eval o).run P w) := by
        intro q
        rcases optE_cases q with ⟨fv, e1, q⟩ | ⟨_, q⟩
        · rcases optE_cases q with ⟨as, e2, q⟩ | ⟨_, q⟩
          · exact dyn fv as e1 e2 q
          · exact q.elim
        · exact q.elim
      cases f with
      | func g =>
        rcases optE_cases hop with ⟨as, e2, q⟩ | ⟨_, q⟩
        · exact stat g as rfl e2 q
        · exact q.elim
      | tmp t => exact dynE hop
      | const c => exact dynE hop
      | global g => exact dynE hop
  case convert s d x =>
    rw [ho] at pure_ read_
    rcases optE_cases hop with ⟨v, e, k⟩ | ⟨_, k⟩
    · exact pure_ v e k
    · rcases optE_cases k with ⟨v, e, k⟩ | ⟨_, k⟩
      · exact read_ v e k
      · exact effE k
  all_goals first | exact pureE hop | exact readE hop | exact effE hop

theorem optE_inh {α : Type} {o : Option α} {K : α → Prop} {C : Prop} (q : optE o K False) (h : ∀ x, K x → C) : C := by
  rcases optE_cases q with ⟨x, _, k⟩ | ⟨_, k⟩
  · exact h x k
  · exact k.elim

theorem AOp_inh {P : Program} {o : Oper} {K : Fr → Heap → Prop} {fr : Fr} {h : Heap} (hop : AOp P o K fr h) : ∃ v h', K (put fr o.dst v) h' := by
  unfold AOp at hop
  cases ho : o.op <;> rw [ho] at hop <;> simp only at hop
  case call c =>
    obtain ⟨callee, args, argTypes⟩ := c
    simp only at hop
    cases callee with
    | invoke r m => exact hop.elim
    | builtin b =>
      cases b <;> simp only at hop <;> first
        | exact optE_inh hop fun _ q => ⟨_, _, q⟩
        | (rcases optE_cases hop with ⟨v, e, k⟩ | ⟨_, k⟩
           · exact ⟨_, _, k⟩
           · exact optE_inh k fun _ q => ⟨_, _, q⟩)
    | value f => cases f <;> first | exact optE_inh hop fun _ q => q.inh | exact optE_inh hop fun _ q => optE_inh q fun _ q => q.inh
  case convert s d x =>
    rcases optE_cases hop with ⟨v, e, k⟩ | ⟨_, k⟩
    · exact ⟨_, _, k⟩
    · rcases optE_cases k with ⟨v, e, k⟩ | ⟨_, k⟩
      · exact ⟨_, _, k⟩
      · exact optE_inh k fun _ q => ⟨_, _, q⟩
  all_goals exact optE_inh hop fun _ q => ⟨_, _, q⟩

theorem AOp_mono {P : Program} {o : Oper} {K K' : Fr → Heap → Prop} {fr : Fr} {h : Heap} (hk : ∀ fr h, K fr h → K' fr h) (hop : AOp P o K fr h) : AOp P o K' fr h := by
  unfold AOp at hop ⊢
  cases ho : o.op <;> rw [ho] at hop <;> simp only at hop ⊢
  case call c =>
    obtain ⟨callee, args, argTypes⟩ := c
    simp only at hop ⊢
    cases callee with
    | invoke r m => exact hop
    | builtin b => cases b <;> simp only at hop ⊢ <;> first | exact optE_mono (fun _ q => hk _ _ q) (fun x => x) hop | exact optE_mono (fun _ q => hk _ _ q) (fun q => optE_mono (fun _ q => hk _ _ q) (fun x => x) q) hop
    | value f =>
      cases f with
      | func g => exact optE_mono (fun _ q => ACall.mono q fun _ _ q => hk _ _ q) (fun x => x) hop
      | tmp t => exact optE_mono (fun _ q => optE_mono (fun _ q => ACallV.mono q fun _ _ q => hk _ _ q) (fun x => x) q) (fun x => x) hop
      | const t => exact optE_mono (fun _ q => optE_mono (fun _ q => ACallV.mono q fun _ _ q => hk _ _ q) (fun x => x) q) (fun x => x) hop
      | global t => exact optE_mono (fun _ q => optE_mono (fun _ q => ACallV.mono q fun _ _ q => hk _ _ q) (fun x => x) q) (fun x => x) hop
  case convert s d x =>
    exact optE_mono (fun _ q => hk _ _ q) (fun q => optE_mono (fun _ q => hk _ _ q) (fun q => optE_mono (fun _ q => hk _ _ q) (fun x => x) q) q) hop
  all_goals exact optE_mono (fun _ q => hk _ _ q) (fun x => x) hop

theorem AOps_mono {P : Program} {ops : Array Oper} {Q Q' : Fr → Heap → Prop} (hq : ∀ fr h, Q fr h → Q' fr h) : ∀ (l : List Oper) (fr : Fr) (h : Heap), AOps P ops Q l fr h → AOps P ops Q' l fr h
  | [], fr, h, x => hq _ _ x
  | o :: rest, fr, h, x => by
    simp only [AOps] at x ⊢
    split at x
    · rename_i hw; rw [if_pos hw]; exact AOp_mono (fun fr h => AOps_mono hq rest fr h) x
    · rename_i hw; rw [if_neg hw]; exact AOps_mono hq rest _ _ x

theorem AOps_inh {P : Program} {ops : Array Oper} {Q : Fr → Heap → Prop} : ∀ (l : List Oper) (fr : Fr) (h : Heap), AOps P ops Q l fr h → ∃ fr' h', Q fr' h'
  | [], fr, h, x => ⟨fr, h, x⟩
  | o :: rest, fr, h, x => by
    simp only [AOps] at x
    split at x
    · obtain ⟨v, h', q⟩ := AOp_inh x; exact AOps_inh rest _ _ q
    · exact AOps_inh rest _ _ x

theorem wanted_eq {G : Gh} {N : Nat} {fr : Fr} {a : Act} (hF : FR G N fr a.tmps) {ops : Array Oper} (hok : opsOk N ops.toList = true) (o : Oper) : Region.wanted o (yielded ops a.tmps) = wantedA ops fr o := by
  unfold Region.wanted wantedA
  cases hg : o.guard with
  | none => rfl
  | some g =>
    obtain ⟨j, want⟩ := g
    simp only
    congr 1
    unfold yielded ayield
    cases hj : ops[j]? with
    | none => rfl
    | some oj =>
      simp only [Option.bind_some]
      cases hd : oj.dst with
      | none => rfl
      | some d =>
        have hmem : oj ∈ ops.toList := Array.mem_toList_iff.2 (Array.mem_of_getElem? hj)
        have hlt : d < N := operOk_dst (List.all_eq_true.1 hok oj hmem) d hd
        have hv := hF.2 d hlt
        have hsz : d < a.tmps.size := by rw [hF.1]; exact hlt
        simp only [Option.bind_some, Array.getElem?_eq_getElem hsz]
        rw [Array.getD_eq_getD_getElem?, Array.getElem?_eq_getElem hsz, Option.getD_some] at hv
        generalize a.tmps[d] = u at hv
        generalize fr d = x at hv
        cases hv <;> first | rfl | (cases u <;> rfl) | (rename_i hq; cases u <;> simp [refLike] at hq <;> rfl)

theorem AOps_sound {P : Program} {N n : Nat} {ro : Option Nat} {ops : Array Oper} {Q : Fr → Heap → Prop} {Q' : Exit → Act → World → Prop} (hok : opsOk N ops.toList = true) {G₀ : Gh} {h₀ : Heap} {W₀ : World} {ds : List Deferred}
    (hQ : ∀ G fr h a w, Q fr h → Rel P G h w.heap → FR G N fr a.tmps → EvW G₀ h₀ W₀ G h w → a.defers = ds → Q' .normal a w) :
    ∀ (l : List Oper), (∀ o ∈ l, operOk N o = true) → ∀ (G : Gh) (fr : Fr) (h : Heap) (a : Act) (w : World), AOps P ops Q l fr h → Rel P G h w.heap → FR G N fr a.tmps → EvW G₀ h₀ W₀ G h w → a.defers = ds →
      wpListIn (fence ro) n P ops Q' l a w
  | [], _, G, fr, h, a, w, x, R, F, E, D => hQ G fr h a w x R F E D
  | o :: rest, hl, G, fr, h, a, w, x, R, F, E, D => by
    have ho := hl o List.mem_cons_self
    simp only [AOps] at x
    simp only [wpListIn]
    rw [wanted_eq F hok o]
    split at x
    · rename_i hw
      rw [if_pos hw]
      refine Oper.wpIn_mono (fun a' w' q => ?_) (AOp_sound (Q := Q') R F ho x)
      obtain ⟨G', fr', h', q1, q2, q3, q4, u, rfl⟩ := q
      exact AOps_sound hok hQ rest (fun o ho => hl o (List.mem_cons_of_mem _ ho)) G' fr' h' _ w' q1 q2 q3 (E.trans q4) ((put_defers _ _ _).trans D)
    · rename_i hw
      rw [if_neg hw]
      exact ⟨fun _ _ => trivial, AOps_sound hok hQ rest (fun o ho => hl o (List.mem_cons_of_mem _ ho)) G _ h _ w x R (F.put (operOk_dst ho) (VR.undef G)) E ((put_defers _ _ _).trans D)⟩

end Go.Am
