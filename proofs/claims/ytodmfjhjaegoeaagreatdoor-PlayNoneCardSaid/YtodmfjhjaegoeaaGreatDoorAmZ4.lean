/- The fast machine, fourth part: code, functions; what it answers is the code's contract. -/
import Derived.Test.YtodmfjhjaegoeaaGreatDoorAmZ3
set_option linter.unusedVariables false
set_option linter.unusedSimpArgs false
namespace Go.Am
variable {P : Program}
noncomputable section

structure XS where
  run : CY → KT → KE → KT

def pendX (pe : Option Code) (n : KT) (ke : KE) (F : FT) (E : EH) : Bool := match pe with
  | none => n F E
  | some c => (match c with
    | .ret => ke .ret F E
    | .exit i => ke (.exit i) F E
    | _ => false)
/-- Behind a range over a function. -/
def behX (l : Nat) (n : KT) (ke : KE) (F : FT) (E : EH) : Bool := match E.objs.get l with
  | some o => (match o with
    | .loop F' st pe N ps a b x y => (match st with
      | .busy => false
      | _ => pendX pe n ke F (E.put l (.loop F' .exhausted pe N ps a b x y)))
    | _ => false)
  | none => false

def loopX (x : XS) (C : CY) (ke : KE) (m : Nat) : KT := Nat.rec (motive := fun _ => KT) (fun _ _ => false) (fun _ ih => x.run C ih ke) m
def fuel : Nat := 1000000
def blkE (id : Nat) (n : KT) (ke : KE) : KE := fun e F E => match e with
  | .exit i => (match Nat.beq i id with
    | true => n F E
    | false => ke (.exit i) F E)
  | e => ke e F E
def cc (P : Program) (N : Nat) (a : AC) : XS := AC.rec (motive := fun _ => XS)
  (fun l => ⟨fun C n _ => (bosX P l).run C n⟩)
  (fun l => ⟨fun C n _ => (dosX P l).run C n⟩)
  (fun _ => ⟨fun _ _ _ _ _ => false⟩)
  ⟨fun _ n _ => n⟩
  ⟨fun _ _ ke => ke .ret⟩
  (fun i => ⟨fun _ _ ke => ke (.exit i)⟩)
  (fun _ _ ix iy => ⟨fun C n ke => ix.run C (iy.run C n ke) ke⟩)
  (fun c _ _ ix iy => cond (rdOk c) ⟨fun C n ke F E => vB (fun b => Bool.rec (motive := fun _ => Bool) (iy.run C n ke F E) (ix.run C n ke F E) b) ((rd c).fn F)⟩ ⟨fun _ _ _ _ _ => false⟩)
  (fun id _ ix => ⟨fun C n ke => ix.run C n (blkE id n ke)⟩)
  (fun _ ix => ⟨fun C _ ke => loopX ix C ke fuel⟩)
  (fun _ => ⟨fun _ n _ => n⟩)
  (fun _ ix => ⟨fun C n ke => ix.run C n ke⟩)
  (fun g ps a b x y _ _ => cond (rdOk g) ⟨fun C n ke F E => match (rd g).fn F with
    | .func fn xs ys => (match fn with
      | .func f => (match hasBody P f with
        | true => fN E.size fun l => C.c f (xs.toList ++ [.func (.yield l) #[] #[]] ++ ys.toList) (fun _ E' => behX l n ke F E') (E.push (.loop F .ready none N ps a b x y))
        | false => false)
      | _ => false)
    | _ => false⟩ ⟨fun _ _ _ _ _ => false⟩)
  a

def KOk (P : Program) (Q : Exit → Fr → Heap → Prop) (ke : KE) : Prop := (∀ F E h, ke .ret F E = true → Repr P E h → Q .ret F.fr h) ∧ ∀ i F E h, ke (.exit i) F E = true → Repr P E h → Q (.exit i) F.fr h
def XSat (P : Program) (N : Nat) (x : XS) (a : AC) : Prop := ∀ C, CSat P C → IsCom P N a → ∀ (n : KT) (ke : KE) (Q : Exit → Fr → Heap → Prop), (∀ F E h, n F E = true → Repr P E h → Q .normal F.fr h) → KOk P Q ke →
  ∀ F E h, x.run C n ke F E = true → Repr P E h → AWC P N a Q F.fr h

theorem behX_sound {l N : Nat} {n : KT} {ke : KE} {Q : Exit → Fr → Heap → Prop} (hn : ∀ F E h, n F E = true → Repr P E h → Q .normal F.fr h) (hk : KOk P Q ke) {F : FT} {E : EH} {h : Heap}
    (hm : behX l n ke F E = true) (R : Repr P E h) (v : Value) : ARange P N l Q F.fr v h := by
  unfold behX at hm
  split at hm <;> (try (cases hm; done))
  rename_i o hg
  split at hm <;> (try (cases hm; done))
  rename_i F' st pe N' ps a b x y
  obtain ⟨h1, h2, h3⟩ := R.loop hg
  have R' := R.put hg (o := .loop F' .exhausted pe N' ps a b x y) ⟨h2, h3⟩
  have hb : (st == LoopState.busy) = false := by
    cases st <;> first | rfl | (simp only [reduceCtorEq] at hm; done)
  have hm' : pendX pe n ke F (E.put l (.loop F' .exhausted pe N' ps a b x y)) = true := by
    cases st <;> first | exact hm | (cases hb; done)
  unfold pendX at hm'
  split at hm'
  · exact ⟨_, h1, hb, hn _ _ _ hm' R'⟩
  · split at hm' <;> (try (cases hm'; done))
    · exact ⟨_, h1, hb, AW_ret (hk.1 _ _ _ hm' R')⟩
    · exact ⟨_, h1, hb, AW_exit (hk.2 _ _ _ _ hm' R')⟩

theorem cc_sat (N : Nat) (a : AC) : XSat P N (cc P N a) a := by
  induction a with
  | reg l => exact fun C hC hI n ke Q hn hk F E h hm R => C_reg (bosX_sat hC hn l hm R)
  | draw l => exact fun C hC hI n ke Q hn hk F E h hm R => C_draw (dosX_sat hC hn l hm R)
  | raw c => exact fun C hC hI n ke Q hn hk F E h hm R => by cases hm
  | skip => exact fun C hC hI n ke Q hn hk F E h hm R => C_skip (hn _ _ _ hm R)
  | ret => exact fun C hC hI n ke Q hn hk F E h hm R => C_ret (hk.1 _ _ _ hm R)
  | exit i => exact fun C hC hI n ke Q hn hk F E h hm R => C_exit (hk.2 _ _ _ _ hm R)
  | label i => exact fun C hC hI n ke Q hn hk F E h hm R => C_label (hn _ _ _ hm R)
  | seq x y ix iy =>
    exact fun C hC hI n ke Q hn hk F E h hm R => C_seq (ix C hC hI.seq.1 _ ke (AThen (AWC P N y Q) Q) (fun F E h hm R => iy C hC hI.seq.2 n ke Q hn hk F E h hm R) ⟨hk.1, hk.2⟩ F E h hm R)
  | cond c x y ix iy =>
    intro C hC hI n ke Q hn hk F E h hm R
    have hm' : (cond (rdOk c) (⟨fun C n ke F E => vB (fun b => Bool.rec (motive := fun _ => Bool) ((cc P N y).run C n ke F E) ((cc P N x).run C n ke F E) b) ((rd c).fn F)⟩ : XS) ⟨fun _ _ _ _ _ => false⟩).run C n ke F E = true := hm
    cases hc : rdOk c with
    | false => rw [hc] at hm'; cases hm'
    | true =>
      rw [hc, cond_true] at hm'
      obtain ⟨b, hb, hm2⟩ := vB_eq hm'
      have he := rd_ev hc F
      rw [hb] at he
      cases b with
      | true => exact C_if he (fun _ => ix C hC hI.cond.1 n ke Q hn hk F E h hm2 R) (fun z => by cases z)
      | false => exact C_if he (fun z => by cases z) (fun _ => iy C hC hI.cond.2 n ke Q hn hk F E h hm2 R)
  | block id x ix =>
    intro C hC hI n ke Q hn hk F E h hm R
    have e : cc P N (.block id x) = ⟨fun C n ke => (cc P N x).run C n (blkE id n ke)⟩ := rfl
    rw [e] at hm
    refine C_block (ix C hC hI.block n (blkE id n ke) (ABlock id Q) hn ⟨fun F E h hm R => hk.1 _ _ _ hm R, fun i F E h hm R => ?_⟩ F E h hm R)
    simp only [ABlock]
    simp only [blkE] at hm
    split at hm
    · rename_i hi
      rw [Nat.beq_eq] at hi
      rw [if_pos hi]
      exact hn _ _ _ hm R
    · rename_i hi
      rw [if_neg (fun q => by rw [beqN_true q] at hi; cases hi)]
      exact hk.2 _ _ _ _ hm R
  | loop x ix =>
    intro C hC hI n ke Q hn hk F E h hm R
    have e : cc P N (.loop x) = ⟨fun C _ ke => loopX (cc P N x) C ke fuel⟩ := rfl
    rw [e] at hm
    refine C_loop_rounds fuel ?_
    have key : ∀ (m : Nat) (F : FT) (E : EH) (h : Heap), loopX (cc P N x) C ke m F E = true → Repr P E h → CRounds P N x Q m F.fr h := by
      intro m
      induction m with
      | zero => intro F E h hm R; cases hm
      | succ m ih => intro F E h hm R; exact ix C hC hI.loop _ ke (AThen (CRounds P N x Q m) Q) ih ⟨hk.1, hk.2⟩ F E h hm R
    exact key fuel F E h hm R
  | scope x ix =>
    exact fun C hC hI n ke Q hn hk F E h hm R => C_scope (ix C hC hI.scope n ke (AScope Q) hn ⟨hk.1, hk.2⟩ F E h hm R)
  | range g ps a b x y ix iy =>
    intro C hC hI n ke Q hn hk F E h hm R
    have hm' : (cond (rdOk g) (⟨fun C n ke F E => match (rd g).fn F with
      | .func fn xs ys => (match fn with
        | .func f => (match hasBody P f with
          | true => fN E.size fun l => C.c f (xs.toList ++ [.func (.yield l) #[] #[]] ++ ys.toList) (fun _ E' => behX l n ke F E') (E.push (.loop F .ready none N ps a b x y))
          | false => false)
        | _ => false)
      | _ => false⟩ : XS) ⟨fun _ _ _ _ _ => false⟩).run C n ke F E = true := hm
    cases hc : rdOk g with
    | false => rw [hc] at hm'; cases hm'
    | true =>
      rw [hc, cond_true] at hm'
      simp only at hm'
      split at hm' <;> (try (cases hm'; done))
      rename_i fn xs ys hb
      have he := rd_ev hc F
      rw [hb] at he
      split at hm' <;> (try (cases hm'; done))
      split at hm' <;> (try (cases hm'; done))
      rename_i f hbody
      rw [fN_eq] at hm'
      have R₀ := R.push (o := .loop F .ready none N ps a b x y) hI.range
      refine C_range he hbody fun _ _ _ => ?_
      have := hC.c _ _ _ (ARange P N E.size Q F.fr) _ _ (fun v E h hm R => behX_sound hn hk hm R v) hm' R₀
      rw [R.size] at this
      exact this

/-! ### Functions -/
structure FD where
  N : Nat
  code : AC
  res : List ResultVar
structure FX where
  run : CY → List Value → KV → EH → Bool
def FSat (P : Program) (f : FuncId) (x : FX) : Prop := ∀ C, CSat P C → ∀ args k R E h, (∀ v E h, k v E = true → Repr P E h → R v h) → x.run C args k E = true → Repr P E h → ACall P f args h R

def eResult (P : Program) (F : FT) (E : EH) : ResultVar → Option Value
  | .tmp t => some (F.fr t)
  | .cell a t => match F.fr a with
    | .pointer (some ad) => eLoad P E t ad
    | _ => none
def eResults (P : Program) (F : FT) (E : EH) : List ResultVar → Option (List Value)
  | [] => some []
  | r :: rs => (eResult P F E r).bind fun v => (eResults P F E rs).map (v :: ·)
theorem eResults_sound {F : FT} {E : EH} {h : Heap} (R : Repr P E h) : ∀ {rs : List ResultVar} {vs : List Value}, eResults P F E rs = some vs → aResults P F.fr h rs = some vs
  | [], vs, hm => hm
  | r :: rs, vs, hm => by
    simp only [eResults] at hm
    obtain ⟨v, h1, h2⟩ := Option.bind_eq_some_iff.1 hm
    obtain ⟨us, h3, rfl⟩ := Option.map_eq_some_iff.1 h2
    have e1 : aResult P F.fr h r = some v := by
      cases r with
      | tmp t => exact h1
      | cell a t =>
        simp only [eResult] at h1
        simp only [aResult]
        split at h1 <;> (try (cases h1; done))
        rename_i ad had
        rw [had]
        exact eLoad_sound R h1
    simp only [aResults, e1, Option.bind_some, eResults_sound R h3, Option.map_some]
def resX (P : Program) (rs : List ResultVar) (k : KV) (F : FT) (E : EH) : Bool := match eResults P F E rs with
  | some vs => fV (retOf vs) fun v => k v E
  | none => false
def fdX (P : Program) (d : FD) : FX := ⟨fun C args k E => match Nat.ble args.length d.N && Nat.ble args.length 512 with
  | true => (cc P d.N d.code).run C (resX P d.res k) (fun e F E => match e with
    | .ret => resX P d.res k F E
    | _ => false) (FT.args args 0) E
  | false => false⟩
/-- A table of functions is right. -/
structure TabOk (P : Program) (tab : FuncId → Option FD) : Prop where
  ok : ∀ f d, tab f = some d → IsCom P d.N d.code ∧ ∀ args h R, args.length ≤ d.N → AWC P d.N d.code (RetQ P d.res R) (frOf args) h → ACall P f args h R
theorem fdX_sat {tab : FuncId → Option FD} (hT : TabOk P tab) {f : FuncId} {d : FD} (hf : tab f = some d) : FSat P f (fdX P d) := by
  intro C hC args k R E h hk hm Rh
  obtain ⟨hI, hw⟩ := hT.ok f d hf
  simp only [fdX] at hm
  split at hm <;> (try (cases hm; done))
  rename_i hl
  simp only [Bool.and_eq_true, Nat.ble_eq] at hl
  have kr : ∀ F E h, resX P d.res k F E = true → Repr P E h → optE (aResults P F.fr h d.res) (fun vs => R (retOf vs) h) False := by
    intro F E h hm Rh
    unfold resX at hm
    split at hm <;> (try (cases hm; done))
    rename_i vs hvs
    rw [fV_eq] at hm
    rw [eResults_sound Rh hvs, optE_some]
    exact hk _ _ _ hm Rh
  refine hw args h R hl.1 ?_
  rw [← FT.fr_frOf args hl.2]
  exact cc_sat d.N d.code C hC hI _ _ (RetQ P d.res R) kr ⟨kr, fun i F E h hm _ => by cases hm⟩ _ _ _ hm Rh

/-- All functions of a program, by their bodies. -/
def tabP (P : Program) (f : FuncId) : Option FD := match P.funcs[f]? with
  | some fn => match fn.body with
    | some b => cond (!(fn.name == "runtime.NumGoroutine") && fn.results.toList.all (resOk fn.ntmps)) (some ⟨fn.ntmps, com P fn.ntmps b, fn.results.toList⟩) none
    | none => none
  | none => none
theorem tabP_ok : TabOk P (tabP P) := by
  refine ⟨fun f d hf => ?_⟩
  unfold tabP at hf
  split at hf <;> (try (cases hf; done))
  rename_i fn hfn
  split at hf <;> (try (cases hf; done))
  rename_i b hb
  obtain ⟨hc, hf⟩ := bif_some hf
  simp only [Bool.and_eq_true, Bool.not_eq_true'] at hc
  cases hf
  refine ⟨⟨b, rfl⟩, fun args h R hN q => ?_⟩
  exact C_call hfn (by rw [hb]; rfl) (by rw [hb]; rfl) hc.1 hc.2 hN q

/-- Functions that are told, not run. -/
abbrev Told := FuncId → Option FX
def ToldOk (P : Program) (ext : Told) : Prop := ∀ f x, ext f = some x → FSat P f x
def fX (P : Program) (tab : FuncId → Option FD) (ext : Told) (f : FuncId) : FX := match ext f with
  | some x => x
  | none => match tab f with
    | some d => fdX P d
    | none => ⟨fun _ _ _ _ => false⟩
theorem fX_sat {tab : FuncId → Option FD} {ext : Told} (hT : TabOk P tab) (hE : ToldOk P ext) (f : FuncId) : FSat P f (fX P tab ext f) := by
  unfold fX
  split
  · exact hE _ _ ‹_›
  · split
    · exact fdX_sat hT ‹_›
    · exact fun C hC args k R E h hk hm Rh => by cases hm

/-! ### Calls of a range's yield -/
def endX (l : Nat) (E : EH) (st : LoopState) (pe : Option Code) (v : Bool) (k : KV) : Bool := match E.objs.get l with
  | some o => (match o with
    | .loop F _ _ N ps a b x y => k (.bool v) (E.put l (.loop F st pe N ps a b x y))
    | _ => false)
  | none => false
def yX (P : Program) (C : CY) (l : Nat) (args : List Value) (k : KV) (E : EH) : Bool := match E.objs.get l with
  | some o => (match o with
    | .loop F _ _ N ps a b x y => (match Nat.beq args.length ps.size && (ps.toList.all (fun p => Nat.blt p N) && ps.toList.all (fun p => Nat.blt p 512)) with
      | true => (cc P N x).run C (fun F₁ E₁ => match E₁.objs.get l with
        | some o' => (match o' with
          | .loop F' st' pe' N' ps' a' b' x' y' => (match st' with
            | .ready => (cc P N y).run C (fun _ E₂ => endX l E₂ .ready none true k) (fun e _ E₂ => match e with
              | .ret => endX l E₂ .done (some .ret) false k
              | .exit i => endX l E₂ .done (some (.exit i)) false k
              | _ => false) F₁ (E₁.put l (.loop F' .busy pe' N' ps' a' b' x' y'))
            | _ => false)
          | _ => false)
        | none => false) (fun _ _ _ => false) (FT.setPs ps.toList args F) E
      | false => false)
    | _ => false)
  | none => false
theorem endX_sound {l : Nat} {E : EH} {st : LoopState} {pe : Option Code} {b : Bool} {k : KV} {K : Value → Heap → Prop} (hk : ∀ v E h, k v E = true → Repr P E h → K v h) (hm : endX l E st pe b k = true) {h : Heap} (R : Repr P E h) :
    ∃ r, h[l]? = some (.loop r) ∧ K (.bool b) (h.set l (.loop { r with state := st, pending := pe })) := by
  unfold endX at hm
  split at hm <;> (try (cases hm; done))
  rename_i o hg
  split at hm <;> (try (cases hm; done))
  rename_i F _ _ N ps a b x y
  obtain ⟨h1, h2, h3⟩ := R.loop hg
  exact ⟨_, h1, hk _ _ _ hm (R.put hg (o := .loop F st pe N ps a b x y) ⟨h2, h3⟩)⟩
theorem yX_sat {C : CY} (hC : CSat P C) (l : Nat) (args : List Value) (k : KV) (K : Value → Heap → Prop) (E : EH) (h : Heap) (hk : ∀ v E h, k v E = true → Repr P E h → K v h) (hm : yX P C l args k E = true) (R : Repr P E h) :
    ACallV P (.func (.yield l) #[] #[]) args h K := by
  unfold yX at hm
  split at hm <;> (try (cases hm; done))
  rename_i o hg
  split at hm <;> (try (cases hm; done))
  rename_i F st pe N ps a b x y
  obtain ⟨g1, g2, g3⟩ := R.loop hg
  split at hm <;> (try (cases hm; done))
  rename_i hc
  simp only [Bool.and_eq_true, Nat.beq_eq] at hc
  obtain ⟨c1, c2, c3⟩ := hc
  have hp : ps.toList.all (fun p => decide (p < N)) = true := by
    rw [List.all_eq_true] at c2 ⊢
    intro p hp
    have := c2 p hp
    rw [Nat.blt_eq] at this
    exact decide_eq_true this
  refine ACallV_yield g1 c1 hp ?_
  have := cc_sat (P := P) N x C hC ⟨_, g2⟩ _ _ (ARound P N l b K) (fun F₁ E₁ h₁ hm R₁ => ?_) ⟨fun F E h hm => (by cases hm), fun i F E h hm => (by cases hm)⟩ _ _ _ hm R
  · rw [FT.fr_setPs _ _ _ c3] at this
    exact this a g2
  · try simp only at hm
    split at hm <;> (try (cases hm; done))
    rename_i o' hg'
    split at hm <;> (try (cases hm; done))
    rename_i F' st' pe' N' ps' a' b' x' y'
    split at hm <;> (try (cases hm; done))
    obtain ⟨k1, k2, k3⟩ := R₁.loop hg'
    have R₂ := R₁.put hg' (o := .loop F' .busy pe' N' ps' a' b' x' y') ⟨k2, k3⟩
    refine ⟨_, k1, rfl, ?_⟩
    have := cc_sat (P := P) N y C hC ⟨_, g3⟩ _ _ (AYield l K) (fun F₂ E₂ h₂ hm R₂ => endX_sound hk hm R₂) ⟨fun F₂ E₂ h₂ hm R₂ => endX_sound hk hm R₂, fun i F₂ E₂ h₂ hm R₂ => endX_sound hk hm R₂⟩ _ _ _ hm R₂
    exact this b g3

/-! ### The machine -/
def cy (P : Program) (tab : FuncId → Option FD) (ext : Told) (n : Nat) : CY := Nat.rec (motive := fun _ => CY) ⟨fun _ _ _ _ => false, fun _ _ _ _ => false⟩
  (fun _ ih => ⟨fun f args k E => (fX P tab ext f).run ih args k E, fun l args k E => yX P ih l args k E⟩) n
theorem cy_sat {tab : FuncId → Option FD} {ext : Told} (hT : TabOk P tab) (hE : ToldOk P ext) : ∀ n, CSat P (cy P tab ext n)
  | 0 => ⟨fun f args k R E h hk hm => (by cases hm), fun l args k R E h hk hm => (by cases hm)⟩
  | n + 1 => ⟨fun f args k R E h hk hm Rh => fX_sat hT hE f _ (cy_sat hT hE n) args k R E h hk hm Rh, fun l args k R E h hk hm Rh => yX_sat (cy_sat hT hE n) l args k R E h hk hm Rh⟩
/-- A call, run: its contract. -/
theorem cy_call {tab : FuncId → Option FD} {ext : Told} (hT : TabOk P tab) (hE : ToldOk P ext) (n : Nat) {f : FuncId} {args : List Value} {k : KV} {R : Value → Heap → Prop} {E : EH} {h : Heap} (hk : ∀ v E h, k v E = true → Repr P E h → R v h)
    (hm : (cy P tab ext n).c f args k E = true) (Rh : Repr P E h) : ACall P f args h R := (cy_sat hT hE n).c _ _ _ _ _ _ hk hm Rh
end
end Go.Am
