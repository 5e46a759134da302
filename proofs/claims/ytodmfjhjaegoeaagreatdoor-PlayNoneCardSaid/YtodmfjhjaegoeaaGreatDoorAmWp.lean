/- The abstract logic of code: sequences, tests, blocks, loops, regions. -/
import Derived.Test.YtodmfjhjaegoeaaGreatDoorAmLogic
set_option linter.unusedVariables false
set_option linter.unusedSimpArgs false
namespace Go.Am

def markOf (r : Nat) : Deferred := { target := .collected r, args := #[] }

/-- What an activation's deferred calls are: marks of its loops over functions; in a round: none, and the round's own loop is among the abstract heap's. -/
def RoOk (B : Nat) (G : Gh) (h : Heap) (H : Array Obj) (ro : Option Nat) (ds : List Deferred) : Prop :=
  match ro with
  | none => B ≤ H.size ∧ ∃ ms : List Nat, ds = ms.map markOf ∧ ms.Nodup ∧ ∀ r ∈ ms, B ≤ r ∧ H[r]? = some (.deferred (some [])) ∧ ∀ id e x, G id e = some x → x.cb ≠ r
  | some l => ds = [] ∧ ∃ (id : Nat) (x : Ent) (r : LoopA), G id 0 = some x ∧ x.cb = l ∧ h[id]? = some (.loop r)

theorem RoOk.ev {B : Nat} {G G' : Gh} {h h' : Heap} {H H' : Array Obj} {ro : Option Nat} {ds : List Deferred} (q : RoOk B G h H ro ds) (E : Ev G h H G' h' H') : RoOk B G' h' H' ro ds := by
  cases ro with
  | none =>
    obtain ⟨h0, ms, h1, h2, h3⟩ := q
    refine ⟨Nat.le_trans h0 E.size, ms, h1, h2, fun r hr => ?_⟩
    obtain ⟨h6, h4, h5⟩ := h3 r hr
    have hlt := (Array.getElem?_eq_some_iff.1 h4).1
    refine ⟨h6, (E.keep r hlt fun id e x hx hxr => absurd hxr (h5 id e x hx)).trans h4, fun id e x hx => ?_⟩
    rcases E.new id e x hx with ⟨e₀, x₀, h0, hc⟩ | hge
    · rw [← hc]; exact h5 _ _ _ h0
    · omega
  | some l =>
    obtain ⟨h1, id, x, r, h2, h3, h4⟩ := q
    obtain ⟨r', hr'⟩ := E.loops id r h4
    exact ⟨h1, id, x, r', E.le _ _ _ h2, h3, hr'⟩

def okE : Exit → Bool
  | .panic _ => false
  | .outgrown => false
  | _ => true

def WPost (P : Program) (N : Nat) (B : Nat) (G : Gh) (h : Heap) (W : World) (ro : Option Nat) (Q : Exit → Fr → Heap → Prop) (e : Exit) (a' : Act) (w' : World) : Prop :=
  okE e = true ∧ ∃ G' fr' h', Q e fr' h' ∧ Rel P G' h' w'.heap ∧ FR G' N fr' a'.tmps ∧ EvW G h W G' h' w' ∧ RoOk B G' h' w'.heap ro a'.defers

/-- The abstract weakest precondition of code, over N temporaries. -/
structure AW (P : Program) (N : Nat) (c : Code) (Q : Exit → Fr → Heap → Prop) (fr : Fr) (h : Heap) : Prop where
  inh : ∃ e fr' h', Q e fr' h' ∧ okE e = true
  sem : ∀ (n : Nat) (ro : Option Nat) (B : Nat) (G : Gh) (w : World) (a : Act), Rel P G h w.heap → FR G N fr a.tmps → RoOk B G h w.heap ro a.defers → c.wpIn (fence ro) n P (WPost P N B G h w ro Q) a w

theorem WPost.trans {P : Program} {N B : Nat} {G G₁ : Gh} {h h₁ : Heap} {W W₁ : World} {ro : Option Nat} {Q : Exit → Fr → Heap → Prop} {e : Exit} {a' : Act} {w' : World} (E : EvW G h W G₁ h₁ W₁) (q : WPost P N B G₁ h₁ W₁ ro Q e a' w') : WPost P N B G h W ro Q e a' w' :=
  let ⟨o, G', fr', h', q1, q2, q3, q4, q5⟩ := q; ⟨o, G', fr', h', q1, q2, q3, E.trans q4, q5⟩

variable {P : Program} {N : Nat} {Q : Exit → Fr → Heap → Prop} {fr : Fr} {h : Heap}

theorem AW.mono {c : Code} {Q' : Exit → Fr → Heap → Prop} (q : AW P N c Q fr h) (hq : ∀ e fr h, Q e fr h → Q' e fr h) : AW P N c Q' fr h :=
  ⟨let ⟨e, f, g, x, o⟩ := q.inh; ⟨e, f, g, hq _ _ _ x, o⟩, fun n ro B G w a R F D => wpIn_mono (q.sem n ro B G w a R F D) fun e a' w' ⟨o, G', fr', h', q1, q2⟩ => ⟨o, G', fr', h', hq _ _ _ q1, q2⟩⟩

theorem AW_now {c : Code} {e : Exit} (he : okE e = true) (hc : ∀ (F : Fence) (n : Nat) (Q : Exit → Act → World → Prop) (a : Act) (w : World), Q e a w → c.wpIn F n P Q a w) (q : Q e fr h) : AW P N c Q fr h :=
  ⟨⟨e, fr, h, q, he⟩, fun n ro B G w a R F D => hc _ _ _ _ _ ⟨he, G, fr, h, q, R, F, EvW.refl _ _ _, D⟩⟩

theorem AW_skip (q : Q .normal fr h) : AW P N .skip Q fr h := AW_now rfl (fun _ _ _ _ _ x => wpIn_skip x) q
theorem AW_label {l : Nat} (q : Q .normal fr h) : AW P N (.label l) Q fr h := AW_now rfl (fun _ _ _ _ _ x => wpIn_label x) q
theorem AW_exit {id : Nat} (q : Q (.exit id) fr h) : AW P N (.exit id) Q fr h := AW_now rfl (fun _ _ _ _ _ x => wpIn_exit x) q
theorem AW_ret (q : Q .ret fr h) : AW P N .ret Q fr h := AW_now rfl (fun _ _ _ _ _ x => wpIn_ret x) q

@[reducible] def AThen (K : Fr → Heap → Prop) (Q : Exit → Fr → Heap → Prop) : Exit → Fr → Heap → Prop
  | .normal => K
  | .exit id => Q (.exit id)
  | .goto l => Q (.goto l)
  | .ret => Q .ret
  | .panic _ => fun _ _ => False
  | .outgrown => fun _ _ => False

theorem AW_seq {x y : Code} (q : AW P N x (AThen (AW P N y Q) Q) fr h) : AW P N (.seq x y) Q fr h := by
  refine ⟨?_, fun n ro B G w a R F D => wpIn_seq (wpIn_mono (q.sem n ro B G w a R F D) ?_)⟩
  · obtain ⟨e, f, g, z, o⟩ := q.inh
    cases e <;> first | exact z.inh | exact ⟨_, f, g, z, rfl⟩ | exact z.elim
  · rintro e a' w' ⟨o, G', fr', h', q1, q2, q3, q4, q5⟩
    cases e with
    | normal => exact wpIn_mono (q1.sem n ro B G' w' a' q2 q3 q5) fun e a'' w'' z => z.trans q4
    | exit id => exact ⟨rfl, G', fr', h', q1, q2, q3, q4, q5⟩
    | goto l => exact ⟨rfl, G', fr', h', q1, q2, q3, q4, q5⟩
    | ret => exact ⟨rfl, G', fr', h', q1, q2, q3, q4, q5⟩
    | panic c => exact q1.elim
    | outgrown => exact q1.elim

theorem AW_cond {c : Operand} {x y : Code} {t : Bool} (hn : inN N c = true) (hc : ev fr c = some (.bool t)) (q : AW P N (if t then x else y) Q fr h) : AW P N (.cond c x y) Q fr h :=
  ⟨q.inh, fun n ro B G w a R F D => wpIn_cond ((ev_sound F hn hc).of_plainAtom rfl) (q.sem n ro B G w a R F D)⟩

@[reducible] def ABlock (id : Nat) (Q : Exit → Fr → Heap → Prop) : Exit → Fr → Heap → Prop
  | .exit i => if i = id then Q .normal else Q (.exit i)
  | e => Q e

theorem AW_block {id : Nat} {c : Code} (q : AW P N c (ABlock id Q) fr h) : AW P N (.block id c) Q fr h := by
  refine ⟨?_, fun n ro B G w a R F D => wpIn_block (wpIn_mono (q.sem n ro B G w a R F D) ?_)⟩
  · obtain ⟨e, f, g, z, o⟩ := q.inh
    cases e with
    | exit i =>
      simp only [ABlock] at z
      split at z
      · exact ⟨.normal, f, g, z, rfl⟩
      · exact ⟨_, f, g, z, rfl⟩
    | normal => exact ⟨_, f, g, z, rfl⟩
    | goto l => exact ⟨_, f, g, z, rfl⟩
    | ret => exact ⟨_, f, g, z, rfl⟩
    | panic c => cases o
    | outgrown => cases o
  · rintro e a' w' ⟨o, G', fr', h', q1, q2⟩
    cases e with
    | exit i =>
      simp only [ABlock] at q1
      simp only [Exit.inBlock]
      split
      · rename_i hi; rw [if_pos hi] at q1; exact ⟨rfl, G', fr', h', q1, q2⟩
      · rename_i hi; rw [if_neg hi] at q1; exact ⟨rfl, G', fr', h', q1, q2⟩
    | normal => exact ⟨o, G', fr', h', q1, q2⟩
    | goto l => exact ⟨o, G', fr', h', q1, q2⟩
    | ret => exact ⟨o, G', fr', h', q1, q2⟩
    | panic c => cases o
    | outgrown => cases o

/-- A loop: what holds at every round's head, and what every round lowers. -/
theorem AW_loop {c : Code} (I : Fr → Heap → Prop) (μ : Fr → Heap → Nat) (h₀ : I fr h) (round : ∀ fr h, I fr h → AW P N c (AThen (fun fr' h' => I fr' h' ∧ μ fr' h' < μ fr h) Q) fr h) : AW P N (.loop c) Q fr h := by
  have inh : ∀ m fr h, μ fr h < m → I fr h → ∃ e fr' h', Q e fr' h' ∧ okE e = true := by
    intro m
    induction m with
    | zero => intro fr h hm; omega
    | succ m ih =>
      intro fr h hm hI
      obtain ⟨e, f, g, z, o⟩ := (round fr h hI).inh
      cases e <;> first | exact ih f g (by have := z.2; omega) z.1 | exact ⟨_, f, g, z, rfl⟩ | exact z.elim
  refine ⟨inh _ fr h (Nat.lt_succ_self _) h₀, fun n ro B G w a R F D => wpIn_loop_rounds (μ fr h + 1) ?_⟩
  have key : ∀ m fr₁ h₁ G₁ a₁ w₁, μ fr₁ h₁ < m → I fr₁ h₁ → Rel P G₁ h₁ w₁.heap → FR G₁ N fr₁ a₁.tmps → EvW G h w G₁ h₁ w₁ → RoOk B G₁ h₁ w₁.heap ro a₁.defers →
      Code.roundsIn (fence ro) n P c (WPost P N B G h w ro Q) m a₁ w₁ := by
    intro m
    induction m with
    | zero => intro _ _ _ _ _ hm; omega
    | succ m ih =>
      intro fr₁ h₁ G₁ a₁ w₁ hm hI R₁ F₁ E₁ D₁
      rw [roundsIn_succ]
      refine wpIn_mono ((round fr₁ h₁ hI).sem n ro B G₁ w₁ a₁ R₁ F₁ D₁) ?_
      rintro e a' w' ⟨o, G', fr', h', q1, q2, q3, q4, q5⟩
      cases e with
      | normal => exact ih fr' h' G' a' w' (by have := q1.2; omega) q1.1 q2 q3 (E₁.trans q4) q5
      | exit id => exact ⟨rfl, G', fr', h', q1, q2, q3, E₁.trans q4, q5⟩
      | goto l => exact ⟨rfl, G', fr', h', q1, q2, q3, E₁.trans q4, q5⟩
      | ret => exact ⟨rfl, G', fr', h', q1, q2, q3, E₁.trans q4, q5⟩
      | panic c => exact q1.elim
      | outgrown => exact q1.elim
  exact key _ fr h G a w (Nat.lt_succ_self _) h₀ R F (EvW.refl _ _ _) D

theorem AW_region {id : Nat} {ops : Array Oper} (hok : opsOk N ops.toList = true) (q : AOps P ops (Q .normal) ops.toList fr h) : AW P N (.region id ops false) Q fr h := by
  refine ⟨?_, fun n ro B G w a R F D => wpIn_region_list ?_⟩
  · obtain ⟨f, g, z⟩ := AOps_inh _ _ _ q
    exact ⟨.normal, f, g, z, rfl⟩
  · refine AOps_sound (Q' := WPost P N B G h w ro Q) hok (ds := a.defers) ?_ ops.toList (fun o ho => List.all_eq_true.1 hok o ho) G fr h a w q R F (EvW.refl _ _ _) rfl
    intro G' fr' h' a' w' z R' F' E' D'
    exact ⟨rfl, G', fr', h', z, R', F', E', by rw [D']; exact D.ev E'.toEv⟩

end Go.Am
