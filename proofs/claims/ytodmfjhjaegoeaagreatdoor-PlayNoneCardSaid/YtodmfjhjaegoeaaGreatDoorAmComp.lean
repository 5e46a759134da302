/- Code without what a walk doesn't ask for: the same logic over it. -/
import Derived.Test.YtodmfjhjaegoeaaGreatDoorAmLib
import Derived.Test.YtodmfjhjaegoeaaGreatDoorAmRange
import Derived.Test.YtodmfjhjaegoeaaGreatDoorAmDraw2
set_option linter.unusedVariables false
set_option linter.unusedSimpArgs false
namespace Go.Am
variable {P : Program} {N : Nat}

/-- An operation: under which test (the slot and what must stand there; no slot: never), where its value goes, what it does. -/
structure BO where
  g : Option (Option Tmp × Bool)
  d : Option Tmp
  op : Op

/-- An operation of an order that stands for all, with the reads whose values must be as they were told behind it. -/
structure DO where
  o : BO
  chk : List BO

inductive AC where
  | reg (l : List BO)
  | draw (l : List DO)
  | raw (c : Code)
  | skip
  | ret
  | exit (id : Nat)
  | seq (x y : AC)
  | cond (c : Operand) (x y : AC)
  | block (id : Nat) (x : AC)
  | loop (x : AC)
  | label (l : Nat)
  | scope (x : AC)
  | range (g : Operand) (ps : Array Tmp) (a b : Code) (x y : AC)

def comB (ops : Array Oper) (o : Oper) : BO := ⟨o.guard.map fun g => ((ops[g.1]?).bind (·.dst), g.2), o.dst, o.op⟩

/-- An order in which a region that draws may be walked for all: each operation waits for, or may be swapped with, those ahead. -/
def order (ops : Array Oper) : List Nat := Region.linearise .any ops 0
def drawOk (P : Program) (ops : Array Oper) : Bool :=
  P.follows .mixedOrders && textOk P ops (order ops) && decide ((order ops).length ≤ ops.size) && (order ops).all (fun i => decide (i < ops.size)) && (List.range ops.size).all (fun i => (order ops).contains i) && decide (order ops).Nodup

/-- Reads first, rows last. -/
def pick2 (P : Program) (ops : Array Oper) (l : List Nat) : Option Nat :=
  match l.find? (fun i => decide (clsOf P ops i ≤ 1)) with
  | some i => some i
  | none => match l.find? (fun i => match ops[i]? with | some o => !isAlloc o.op | none => false) with
    | some i => some i
    | none => l.head?
def order2 (P : Program) (ops : Array Oper) : Nat → Array Bool → List Nat
  | 0, _ => []
  | f + 1, listed => match pick2 P ops (Region.ready .any ops listed) with
    | some i => i :: order2 P ops f (listed.setIfInBounds i true)
    | none => []
def order2' (P : Program) (ops : Array Oper) : List Nat := order2 P ops ops.size (Array.replicate ops.size false)
def lates (P : Program) (ops : Array Oper) : List Nat → List Nat → List Nat
  | _, [] => []
  | prev, i :: r => if (match ops[i]? with | some o => isAlloc o.op && o.guard.isNone | none => false) && prev.any (fun j => decide (1 < clsOf P ops j) && !waits ops ops.size i j) then i :: lates P ops (prev ++ [i]) r else lates P ops (prev ++ [i]) r
def comL (ops : Array Oper) (l : List Nat) : List BO := l.filterMap fun i => (ops[i]?).map (comB ops)
def draws (P : Program) (ops : Array Oper) (lts : List Nat) : List Nat → List Nat → List DO
  | [], _ => []
  | i :: r, prev => match ops[i]? with
    | none => draws P ops lts r prev
    | some o => if kV P ops lts i = true then ⟨comB ops o, []⟩ :: draws P ops lts r (prev ++ [i]) else if lts.contains i = true then ⟨comB ops o, []⟩ :: draws P ops lts r prev
      else ⟨comB ops o, comL ops (prev.filter fun j => dyn P ops j i)⟩ :: draws P ops lts r prev
def drawOk2 (P : Program) (ops : Array Oper) (l lts : List Nat) : Bool :=
  P.follows .mixedOrders && l.all (fun i => decide (i < ops.size)) && (List.range ops.size).all (fun i => l.contains i) && decide l.Nodup && staticOk P ops lts l

def com (P : Program) (N : Nat) : Code → AC
  | .region id ops d => if opsOk N ops.toList = true then (if d = false then .reg (ops.toList.map (comB ops)) else if drawOk P ops = true then .reg ((order ops).filterMap fun i => (ops[i]?).map (comB ops))
      else if drawOk2 P ops (order2' P ops) (lates P ops [] (order2' P ops)) = true then .draw (draws P ops (lates P ops [] (order2' P ops)) (order2' P ops) []) else .raw (.region id ops d)) else .raw (.region id ops d)
  | .seq x y => .seq (com P N x) (com P N y)
  | .cond c x y => if inN N c = true then .cond c (com P N x) (com P N y) else .raw (.cond c x y)
  | .block id x => .block id (com P N x)
  | .loop x => .loop (com P N x)
  | .exit id => .exit id
  | .label l => .label l
  | .scope x => .scope (com P N x)
  | .rangeFunc g ps a b => if (inN N g && ps.toList.all (fun p => decide (p < N))) = true then .range g ps a b (com P N a) (com P N b) else .raw (.rangeFunc g ps a b)
  | .skip => .skip
  | .ret => .ret
  | c => .raw c

/-- The assignments and the bodies of a code's ranges over functions, in the text's order. -/
def rangesOf : Code → List (Code × Code)
  | .seq x y => rangesOf x ++ rangesOf y
  | .cond _ x y => rangesOf x ++ rangesOf y
  | .block _ x => rangesOf x
  | .loop x => rangesOf x
  | .scope x => rangesOf x
  | .rangeFunc _ _ a b => [(a, b)]
  | _ => []
def rcode (c : Code) (i : Nat) : Code × Code := (rangesOf c).getD i (.skip, .skip)

def guardOk (fr : Fr) : Option (Option Tmp × Bool) → Bool
  | none => true
  | some (some t, w) => match fr t with
    | .bool b => b == w
    | _ => false
  | some (none, _) => false

def BOp (P : Program) (d : Option Tmp) (op : Op) (K : Fr → Heap → Prop) (fr : Fr) (h : Heap) : Prop := AOp P { dst := d, op := op, type := 0, pos := "", after := #[], guard := none } K fr h

/-- A choice whose arms aren't gone into ahead of its test. -/
def gif (c : Bool) (A B : Prop) : Prop := if c = true then A else B
theorem gif_true {A B : Prop} : gif true A B = A := if_pos rfl
theorem gif_false {A B : Prop} : gif false A B = B := if_neg (by decide)
theorem gif_if {c : Bool} {A B : Prop} : gif c A B ↔ if c = true then A else B := Iff.rfl

def BOps (P : Program) (Q : Fr → Heap → Prop) : List BO → Fr → Heap → Prop
  | [], fr, h => Q fr h
  | o :: r, fr, h => gif (guardOk fr o.g) (BOp P o.d o.op (BOps P Q r) fr h) (BOps P Q r (put fr o.d undef) h)

theorem AOp_bop {o : Oper} {K : Fr → Heap → Prop} {fr : Fr} {h : Heap} : AOp P o K fr h = BOp P o.dst o.op K fr h := rfl

theorem guardOk_eq (ops : Array Oper) (o : Oper) (fr : Fr) : guardOk fr (comB ops o).g = wantedA ops fr o := by
  unfold wantedA comB
  cases hg : o.guard with
  | none => rfl
  | some g =>
    obtain ⟨j, w⟩ := g
    simp only [Option.map_some, ayield]
    cases hd : (ops[j]?).bind (·.dst) with
    | none => simp [guardOk]
    | some t =>
      simp only [guardOk]
      cases fr t <;> simp <;> (try rfl)

theorem BOps_ops {ops : Array Oper} {Q : Fr → Heap → Prop} : ∀ (l : List Oper) (fr : Fr) (h : Heap), BOps P Q (l.map (comB ops)) fr h → AOps P ops Q l fr h
  | [], fr, h, q => q
  | o :: l, fr, h, q => by
    simp only [List.map_cons, BOps, gif_if] at q
    simp only [AOps]
    rw [← guardOk_eq]
    split
    · rename_i hw
      rw [if_pos hw] at q
      exact AOp_mono (fun fr h => BOps_ops l fr h) q
    · rename_i hw
      rw [if_neg hw] at q
      exact BOps_ops l _ _ q

theorem BOps_list {ops : Array Oper} {Q : Fr → Heap → Prop} : ∀ (l : List Nat) (fr : Fr) (h : Heap), BOps P Q (l.filterMap fun i => (ops[i]?).map (comB ops)) fr h → AList P ops Q l fr h
  | [], fr, h, q => q
  | i :: l, fr, h, q => by
    show AAt P ops i (AList P ops Q l) fr h
    unfold AAt
    cases ho : ops[i]? with
    | none =>
      simp only [List.filterMap_cons, ho, Option.map_none] at q
      exact BOps_list l _ _ q
    | some o =>
      simp only [List.filterMap_cons, ho, Option.map_some, BOps, gif_if] at q
      simp only
      unfold AStep
      rw [← guardOk_eq]
      split
      · rename_i hw
        rw [if_pos hw] at q
        exact AOp_mono (fun fr h => BOps_list l fr h) q
      · rename_i hw
        rw [if_neg hw] at q
        exact BOps_list l _ _ q

/-- What holds of all code that is this, but for what a walk doesn't ask for. -/
def AWC (P : Program) (N : Nat) (a : AC) (Q : Exit → Fr → Heap → Prop) (fr : Fr) (h : Heap) : Prop := ∀ c, com P N c = a → AW P N c Q fr h

variable {Q : Exit → Fr → Heap → Prop} {fr : Fr} {h : Heap}

theorem AWC.mono {a : AC} {Q' : Exit → Fr → Heap → Prop} (q : AWC P N a Q fr h) (hq : ∀ e fr h, Q e fr h → Q' e fr h) : AWC P N a Q' fr h := fun c hc => (q c hc).mono hq

theorem C_raw {c : Code} (q : AW P N c Q fr h) (hc : ∀ c', com P N c' = .raw c → c' = c := by intro c' hc'; cases c' <;> simp only [com] at hc' <;> (repeat' split at hc') <;> simp_all) : AWC P N (.raw c) Q fr h := fun c' h' => by rw [hc c' h']; exact q

theorem C_reg {l : List BO} (q : BOps P (Q .normal) l fr h) : AWC P N (.reg l) Q fr h := by
  intro c hc
  cases c <;> simp only [com, reduceCtorEq] at hc <;> (try (repeat' split at hc) <;> cases hc; done)
  rename_i id ops d
  split at hc
  · rename_i hk
    split at hc
    · rename_i hd
      cases hc
      subst hd
      exact AW_region hk (BOps_ops _ _ _ q)
    · rename_i hd
      split at hc
      · rename_i hw
        cases hc
        have hd' : d = true := by cases d <;> simp_all
        subst hd'
        simp only [drawOk, Bool.and_eq_true, decide_eq_true_eq] at hw
        obtain ⟨⟨⟨⟨⟨h1, h2⟩, h3⟩, h4⟩, h5⟩, h6⟩ := hw
        refine AW_region_order h1 hk h3 (fun i => ⟨fun hi => ?_, fun hi => ?_⟩) h6 h2 (BOps_list _ _ _ q)
        · simpa using List.all_eq_true.1 h4 i hi
        · simpa using List.all_eq_true.1 h5 i (List.mem_range.2 hi)
      · split at hc <;> cases hc
  · cases hc

/-! ### An order that stands for all -/
def bcls (P : Program) (op : Op) : Nat := cls P { dst := none, op := op, type := 0, pos := "", after := #[], guard := none }
def bval (P : Program) (c : BO) (fr : Fr) (h : Heap) : Option Value := if guardOk fr c.g = true then (if bcls P c.op = 0 then pureOp P fr c.op else readOp P fr h c.op) else some undef
def BStable (P : Program) : List BO → Fr → Heap → Prop
  | [], _, _ => True
  | c :: r, fr, h => (∃ u, bval P c fr h = some u ∧ ∀ t, c.d = some t → fr t = u) ∧ BStable P r fr h
def DBOps (P : Program) (Q : Fr → Heap → Prop) : List DO → Fr → Heap → Prop
  | [], fr, h => Q fr h
  | x :: r, fr, h => gif (guardOk fr x.o.g) (BOp P x.o.d x.o.op (fun fr h => BStable P x.chk fr h ∧ DBOps P Q r fr h) fr h) (BStable P x.chk (put fr x.o.d undef) h ∧ DBOps P Q r (put fr x.o.d undef) h)

theorem bval_sval {ops : Array Oper} {o : Oper} {fr : Fr} {h : Heap} : bval P (comB ops o) fr h = sval P ops o fr h := by
  unfold bval sval
  rw [guardOk_eq]
  rfl
theorem BStable_of {ops : Array Oper} {fr : Fr} {h : Heap} {i : Nat} : ∀ {l : List Nat}, BStable P (comL ops l) fr h → (∀ j ∈ l, j < ops.size) → ∀ j ∈ l, ∃ o u, ops[j]? = some o ∧ sval P ops o fr h = some u ∧ ∀ t, o.dst = some t → fr t = u
  | [], _, _, j, hj => by cases hj
  | a :: l, q, hlt, j, hj => by
    have ha := hlt a (by simp)
    have hq : BStable P (comB ops ops[a] :: comL ops l) fr h := by
      have : comL ops (a :: l) = comB ops ops[a] :: comL ops l := by
        unfold comL
        rw [List.filterMap_cons]
        simp [Array.getElem?_eq_getElem ha]
      rw [← this]; exact q
    rcases List.mem_cons.1 hj with rfl | hj
    · obtain ⟨⟨u, e1, e2⟩, _⟩ := hq
      exact ⟨ops[j], u, Array.getElem?_eq_getElem ha, by rw [← bval_sval]; exact e1, e2⟩
    · exact BStable_of (i := i) hq.2 (fun k hk => hlt k (List.mem_cons_of_mem _ hk)) j hj

theorem DBOps_list {ops : Array Oper} {lts : List Nat} {Q : Fr → Heap → Prop} : ∀ (l prev : List Nat) (fr : Fr) (h : Heap), (∀ i ∈ l, i < ops.size) → (∀ i ∈ prev, i < ops.size) → DBOps P Q (draws P ops lts l prev) fr h → DList P ops lts Q l prev fr h
  | [], prev, fr, h, _, _, q => q
  | i :: l, prev, fr, h, hl, hp, q => by
    have hi := hl i (by simp)
    have hl' : ∀ k ∈ l, k < ops.size := fun k hk => hl k (List.mem_cons_of_mem _ hk)
    have ho : ops[i]? = some ops[i] := Array.getElem?_eq_getElem hi
    have key : ∀ (chk : List BO) (r : List DO) (K : Fr → Heap → Prop), (∀ fr h, BStable P chk fr h ∧ DBOps P Q r fr h → K fr h) → DBOps P Q (⟨comB ops ops[i], chk⟩ :: r) fr h → AAt P ops i K fr h := by
      intro chk r K hK q
      rw [AAt_some ho]
      unfold AStep
      simp only [DBOps, gif_if] at q
      rw [← guardOk_eq]
      split
      · rename_i hw
        rw [if_pos hw] at q
        exact AOp_mono hK q
      · rename_i hw
        rw [if_neg hw] at q
        exact hK _ _ q
    simp only [draws, ho] at q
    unfold DList
    split at q
    · rename_i hv
      rw [if_pos hv]
      exact key _ _ _ (fun fr h k => DBOps_list l _ fr h hl' (fun j hj => by
        rcases List.mem_append.1 hj with hj | hj
        · exact hp j hj
        · rw [List.mem_singleton.1 hj]; exact hi) k.2) q
    · rename_i hv
      rw [if_neg hv]
      split at q
      · rename_i hlt
        rw [if_pos hlt]
        exact key _ _ _ (fun fr h k => DBOps_list l _ fr h hl' hp k.2) q
      · rename_i hlt
        rw [if_neg hlt]
        refine key _ _ _ (fun fr h k => ⟨fun j hj hd => ?_, DBOps_list l _ fr h hl' hp k.2⟩) q
        exact BStable_of (i := i) k.1 (fun m hm => hp m (List.mem_filter.1 hm).1) j (List.mem_filter.2 ⟨hj, hd⟩)

theorem C_draw {l : List DO} (q : DBOps P (Q .normal) l fr h) : AWC P N (.draw l) Q fr h := by
  intro c hc
  cases c <;> simp only [com, reduceCtorEq] at hc <;> (try (repeat' split at hc) <;> cases hc; done)
  rename_i id ops d
  split at hc
  · rename_i hk
    split at hc
    · cases hc
    · rename_i hd
      split at hc
      · cases hc
      · split at hc
        · rename_i hw
          cases hc
          have hd' : d = true := by cases d <;> simp_all
          subst hd'
          simp only [drawOk2, Bool.and_eq_true, decide_eq_true_eq] at hw
          obtain ⟨⟨⟨⟨h1, h4⟩, h5⟩, h6⟩, h2⟩ := hw
          have hl : ∀ i, i ∈ order2' P ops ↔ i < ops.size := fun i => ⟨fun hi => by simpa using List.all_eq_true.1 h4 i hi, fun hi => by simpa using List.all_eq_true.1 h5 i (List.mem_range.2 hi)⟩
          exact AW_region_drawn h1 hk hl h6 h2 (DBOps_list _ _ _ _ (fun i hi => (hl i).1 hi) (fun i hi => by cases hi) q)
        · cases hc
  · cases hc

theorem C_skip (q : Q .normal fr h) : AWC P N .skip Q fr h := by
  intro c hc
  cases c <;> simp only [com, reduceCtorEq] at hc <;> (try (repeat' split at hc) <;> cases hc; done)
  exact AW_skip q
theorem C_ret (q : Q .ret fr h) : AWC P N .ret Q fr h := by
  intro c hc
  cases c <;> simp only [com, reduceCtorEq] at hc <;> (try (repeat' split at hc) <;> cases hc; done)
  exact AW_ret q
theorem C_exit {id : Nat} (q : Q (.exit id) fr h) : AWC P N (.exit id) Q fr h := by
  intro c hc
  cases c <;> simp only [com, reduceCtorEq] at hc <;> (try (repeat' split at hc) <;> cases hc; done)
  cases hc
  exact AW_exit q

theorem C_seq {x y : AC} (q : AWC P N x (AThen (AWC P N y Q) Q) fr h) : AWC P N (.seq x y) Q fr h := by
  intro c hc
  cases c <;> simp only [com, reduceCtorEq] at hc <;> (try (repeat' split at hc) <;> cases hc; done)
  cases hc
  rename_i u v
  refine AW_seq ((q u rfl).mono fun e fr h k => ?_)
  cases e <;> first | exact k v rfl | exact k

theorem C_if {c : Operand} {x y : AC} {b : Bool} (hc : ev fr c = some (.bool b)) (h1 : b = true → AWC P N x Q fr h) (h2 : b = false → AWC P N y Q fr h) : AWC P N (.cond c x y) Q fr h := by
  intro c' hc'
  cases c' <;> simp only [com, reduceCtorEq] at hc' <;> (try (repeat' split at hc') <;> cases hc'; done)
  rename_i c₁ u v
  split at hc'
  · rename_i hn
    cases hc'
    refine AW_cond (t := b) hn hc ?_
    cases b
    · exact h2 rfl v rfl
    · exact h1 rfl u rfl
  · cases hc'

theorem C_block {id : Nat} {x : AC} (q : AWC P N x (ABlock id Q) fr h) : AWC P N (.block id x) Q fr h := by
  intro c hc
  cases c <;> simp only [com, reduceCtorEq] at hc <;> (try (repeat' split at hc) <;> cases hc; done)
  cases hc
  exact AW_block (q _ rfl)

theorem C_label {l : Nat} (q : Q .normal fr h) : AWC P N (.label l) Q fr h := by
  intro c hc
  cases c <;> simp only [com, reduceCtorEq] at hc <;> (try (repeat' split at hc) <;> cases hc; done)
  exact AW_label q

theorem C_scope {x : AC} (q : AWC P N x (AScope Q) fr h) : AWC P N (.scope x) Q fr h := by
  intro c hc
  cases c <;> simp only [com, reduceCtorEq] at hc <;> (try (repeat' split at hc) <;> cases hc; done)
  cases hc
  exact AW_scope (q _ rfl)

theorem C_loop {x : AC} (I : Fr → Heap → Prop) (μ : Fr → Heap → Nat) (h₀ : I fr h) (round : ∀ fr h, I fr h → AWC P N x (AThen (fun fr' h' => I fr' h' ∧ μ fr' h' < μ fr h) Q) fr h) : AWC P N (.loop x) Q fr h := by
  intro c hc
  cases c <;> simp only [com, reduceCtorEq] at hc <;> (try (repeat' split at hc) <;> cases hc; done)
  cases hc
  exact AW_loop I μ h₀ fun fr h hI => round fr h hI _ rfl

/-- Rounds of a loop, so many at most. -/
def CRounds (P : Program) (N : Nat) (x : AC) (Q : Exit → Fr → Heap → Prop) : Nat → Fr → Heap → Prop
  | 0, _, _ => False
  | m + 1, fr, h => AWC P N x (AThen (CRounds P N x Q m) Q) fr h

theorem C_loop_rounds {x : AC} (m : Nat) (q : CRounds P N x Q m fr h) : AWC P N (.loop x) Q fr h := by
  intro c hc
  cases c <;> simp only [com, reduceCtorEq] at hc <;> (try (repeat' split at hc) <;> cases hc; done)
  cases hc
  rename_i c
  refine ⟨?_, fun n ro B G w a R F D => wpIn_loop_rounds m ?_⟩
  · induction m generalizing fr h with
    | zero => exact q.elim
    | succ m ih =>
      obtain ⟨e, f, g, z, o⟩ := (q c rfl).inh
      cases e <;> first | exact ih z | exact ⟨_, f, g, z, rfl⟩ | exact z.elim
  · have key : ∀ m fr₁ h₁ G₁ a₁ w₁, CRounds P N (com P N c) Q m fr₁ h₁ → Rel P G₁ h₁ w₁.heap → FR G₁ N fr₁ a₁.tmps → EvW G h w G₁ h₁ w₁ → RoOk B G₁ h₁ w₁.heap ro a₁.defers →
        Code.roundsIn (fence ro) n P c (WPost P N B G h w ro Q) m a₁ w₁ := by
      intro m
      induction m with
      | zero => intro _ _ _ _ _ hm; exact hm.elim
      | succ m ih =>
        intro fr₁ h₁ G₁ a₁ w₁ hm R₁ F₁ E₁ D₁
        rw [roundsIn_succ]
        refine wpIn_mono ((hm c rfl).sem n ro B G₁ w₁ a₁ R₁ F₁ D₁) ?_
        rintro e a' w' ⟨o, G', fr', h', q1, q2, q3, q4, q5⟩
        cases e with
        | normal => exact ih fr' h' G' a' w' q1 q2 q3 (E₁.trans q4) q5
        | exit id => exact ⟨rfl, G', fr', h', q1, q2, q3, E₁.trans q4, q5⟩
        | goto l => exact ⟨rfl, G', fr', h', q1, q2, q3, E₁.trans q4, q5⟩
        | ret => exact ⟨rfl, G', fr', h', q1, q2, q3, E₁.trans q4, q5⟩
        | panic c => exact q1.elim
        | outgrown => exact q1.elim
    exact key m fr h G a w q R F (EvW.refl _ _ _) D

/-! ### What is the print of a code -/
def IsCom (P : Program) (N : Nat) (a : AC) : Prop := ∃ c, com P N c = a
theorem IsCom.seq {x y : AC} (q : IsCom P N (.seq x y)) : IsCom P N x ∧ IsCom P N y := by
  obtain ⟨c, hc⟩ := q
  cases c <;> simp only [com, reduceCtorEq] at hc <;> (try (repeat' split at hc) <;> cases hc; done)
  cases hc; exact ⟨⟨_, rfl⟩, ⟨_, rfl⟩⟩
theorem IsCom.cond {c : Operand} {x y : AC} (q : IsCom P N (.cond c x y)) : IsCom P N x ∧ IsCom P N y := by
  obtain ⟨c, hc⟩ := q
  cases c <;> simp only [com, reduceCtorEq] at hc <;> (try (repeat' split at hc) <;> cases hc; done)
  split at hc
  · cases hc; exact ⟨⟨_, rfl⟩, ⟨_, rfl⟩⟩
  · cases hc
theorem IsCom.block {i : Nat} {x : AC} (q : IsCom P N (.block i x)) : IsCom P N x := by
  obtain ⟨c, hc⟩ := q
  cases c <;> simp only [com, reduceCtorEq] at hc <;> (try (repeat' split at hc) <;> cases hc; done)
  cases hc; exact ⟨_, rfl⟩
theorem IsCom.loop {x : AC} (q : IsCom P N (.loop x)) : IsCom P N x := by
  obtain ⟨c, hc⟩ := q
  cases c <;> simp only [com, reduceCtorEq] at hc <;> (try (repeat' split at hc) <;> cases hc; done)
  cases hc; exact ⟨_, rfl⟩
theorem IsCom.scope {x : AC} (q : IsCom P N (.scope x)) : IsCom P N x := by
  obtain ⟨c, hc⟩ := q
  cases c <;> simp only [com, reduceCtorEq] at hc <;> (try (repeat' split at hc) <;> cases hc; done)
  cases hc; exact ⟨_, rfl⟩
theorem IsCom.range {g : Operand} {ps : Array Tmp} {a b : Code} {x y : AC} (q : IsCom P N (.range g ps a b x y)) : com P N a = x ∧ com P N b = y := by
  obtain ⟨c, hc⟩ := q
  cases c <;> simp only [com, reduceCtorEq] at hc <;> (try (repeat' split at hc) <;> cases hc; done)
  split at hc
  · cases hc; exact ⟨rfl, rfl⟩
  · cases hc

theorem C_range {g : Operand} {ps : Array Tmp} {a b : Code} {x y : AC} {f : FuncId} {xs ys : Array Value} (hg : ev fr g = some (.func (.func f) xs ys)) (hb : hasBody P f = true)
    (q : com P N a = x → com P N b = y → ps.toList.all (fun p => decide (p < N)) = true → ACall P f (xs.toList ++ [.func (.yield h.length) #[] #[]] ++ ys.toList) (h ++ [.loop ⟨.ready, none, N, fr, ps, a, b⟩]) (ARange P N h.length Q fr)) :
    AWC P N (.range g ps a b x y) Q fr h := by
  intro c hc
  cases c <;> simp only [com, reduceCtorEq] at hc <;> (try (repeat' split at hc) <;> cases hc; done)
  split at hc
  · rename_i hk
    simp only [Bool.and_eq_true] at hk
    cases hc
    exact AW_range hk.1 hg hb (q rfl rfl hk.2)
  · cases hc

theorem C_call {f : FuncId} {fn : Func} {a : AC} {args : List Value} {h : Heap} {R : Value → Heap → Prop} (hf : P.funcs[f]? = some fn) (hb : fn.body.isSome = true) (hc : com P fn.ntmps (fn.body.getD .skip) = a)
    (hname : (fn.name == "runtime.NumGoroutine") = false) (hk : fn.results.toList.all (resOk fn.ntmps) = true) (hN : args.length ≤ fn.ntmps)
    (q : AWC P fn.ntmps a (RetQ P fn.results.toList R) (frOf args) h) : ACall P f args h R := by
  obtain ⟨c, hb⟩ := Option.isSome_iff_exists.1 hb
  rw [hb] at hc
  exact ACall_intro hf hb hname hk hN (q c hc)
end Go.Am
