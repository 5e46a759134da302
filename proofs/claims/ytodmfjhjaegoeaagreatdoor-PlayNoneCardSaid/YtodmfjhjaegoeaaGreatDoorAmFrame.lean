/- A call that was run on no memory at all holds on any: what it makes is its own. -/
import Derived.Test.YtodmfjhjaegoeaaGreatDoorAmExt
set_option linter.unusedVariables false
set_option linter.unusedSimpArgs false
namespace Go.Am
variable {P : Program}
noncomputable section

def G0 : Gh := fun _ _ => none
theorem Rel.none (H : Array Obj) : Rel P G0 [] H :=
  ⟨fun _ _ _ h => (by cases h), fun _ _ _ h => (by cases h), fun id b h => (by simp at h), fun id b h => (by simp at h), fun id b h => (by simp at h), fun id o h => (by simp at h), fun _ _ _ _ _ _ h => (by cases h)⟩
theorem Rel.grown {G : Gh} {h : Heap} {H H' : Array Obj} (R : Rel P G h H) (hs : H.size ≤ H'.size) (hk : ∀ b, b < H.size → H'[b]? = H[b]?) : Rel P G h H' := by
  refine ⟨R.dom, fun id e x hx => Nat.lt_of_lt_of_le (R.bnd id e x hx) hs, fun id b hb e x hx hl => ?_, fun id b hb ho => ?_, R.one, fun id o ho hn => ?_, R.disj⟩
  · rw [hk _ (R.bnd _ _ _ hx)]
    exact R.blk id b hb e x hx hl
  · obtain ⟨h1, x, hx, cs, t, fr, h2, h3⟩ := R.own id b hb ho
    exact ⟨h1, x, hx, cs, t, fr, by rw [hk _ (R.bnd _ _ _ hx)]; exact h2, h3⟩
  · obtain ⟨x, o', hx, h1, h2⟩ := R.obj id o ho hn
    exact ⟨x, o', hx, by rw [hk _ (R.bnd _ _ _ hx)]; exact h1, h2⟩
theorem VL.of_atoms {G : Gh} : ∀ {vs vs' : List Value}, (vs.all plainAtom) = true → VL G vs vs' → vs' = vs
  | [], vs', _, h => h.of_nil
  | v :: vs, vs', hp, h => by
    simp only [List.all_cons, Bool.and_eq_true] at hp
    obtain ⟨y, zs, rfl, h1, h2⟩ := h.head
    rw [h1.of_plainAtom hp.1, VL.of_atoms hp.2 h2]
theorem VL.atoms {G : Gh} : ∀ {vs : List Value}, (vs.all plainAtom) = true → VL G vs vs
  | [], _ => VL.nil G
  | v :: vs, hp => by
    simp only [List.all_cons, Bool.and_eq_true] at hp
    exact VL.cons (.plain hp.1) (VL.atoms hp.2)
theorem VR.of_plainC {G : Gh} {v v' : Value} (h : VR G v v') (hp : Am.plainC v = true) : v' = v := by
  cases v <;> try (exact h.of_plainAtom hp)
  rename_i xs
  obtain ⟨ys, rfl, h1, _⟩ := h.agg_list
  rw [Array.toList_inj.1 (VL.of_atoms (by simpa [Am.plainC] using hp) h1)]

theorem ACall_frame {f : FuncId} {args : List Value} {v₀ : Value} (q : ACall P f args [] (fun v _ => v = v₀)) (ha : (args.all plainAtom) = true) (hv : plainC v₀ = true) {h : Heap} {R : Value → Heap → Prop} (hR : R v₀ h) : ACall P f args h R := by
  refine ⟨⟨_, _, hR⟩, fun n G w cargs Rl hA => ?_⟩
  have e := VL.of_atoms ha hA
  have h1 := q.sem n G0 w cargs (Rel.none _) (by rw [e]; exact VL.atoms ha)
  refine h1.mono fun v' w' z => ?_
  obtain ⟨G1, v1, h1, rfl, R1, hv1, E1⟩ := z
  have hk : ∀ b, b < w.heap.size → w'.heap[b]? = w.heap[b]? := fun b hb => E1.keep b hb fun _ _ _ hx => by cases hx
  refine ⟨G, v1, h, hR, Rl.grown E1.size hk, ?_, ⟨⟨le_refl G, E1.size, fun b hb _ => hk b hb, fun id e x hx => .inl ⟨e, x, hx, rfl⟩, fun _ _ _ _ => Iff.rfl, fun id r hr => ⟨r, hr⟩⟩, E1.os, E1.tape, E1.output⟩⟩
  rw [hv1.of_plainC hv]
  exact VR.plainC hv

/-- A function that has been run. -/
def ranX (args₀ : List Value) (v₀ : Value) : FX := ⟨fun _ args k E => match veqL args args₀ with
  | true => k v₀ E
  | false => false⟩
theorem ranX_sat {f : FuncId} {args : List Value} {v₀ : Value} (q : ACall P f args [] (fun v _ => v = v₀)) (ha : (args.all plainAtom) = true) (hv : plainC v₀ = true) : FSat P f (ranX args v₀) := by
  intro C hC as k R E h hk hm Rh
  simp only [ranX] at hm
  split at hm <;> (try (cases hm; done))
  rename_i he
  rw [veqL_spec he]
  exact ACall_frame q ha hv (hk _ _ _ hm Rh)
/-- A run on no memory: what it gives. -/
theorem ran {tab : FuncId → Option FD} {ext : Told} (hT : TabOk P tab) (hE : ToldOk P ext) (n : Nat) {f : FuncId} {args : List Value} {v₀ : Value}
    (hm : cond ((cy P tab ext n).c f args (fun v _ => veq v v₀) ⟨.nil, 0⟩) true false = true) : ACall P f args [] (fun v _ => v = v₀) := by
  refine cy_call hT hE n (fun v E h hv _ => veq_spec hv) ?_ Repr.nil
  cases hq : (cy P tab ext n).c f args (fun v _ => veq v v₀) ⟨.nil, 0⟩ with
  | true => rfl
  | false => rw [hq] at hm; cases hm

/-! ### Tables by hand -/
def FdOk (P : Program) (f : FuncId) (d : FD) : Prop := IsCom P d.N d.code ∧ ∀ args h R, args.length ≤ d.N → AWC P d.N d.code (RetQ P d.res R) (frOf args) h → ACall P f args h R
def tab1 (f : FuncId) (d : FD) (r : FuncId → Option FD) : FuncId → Option FD := fun g => match Nat.beq g f with
  | true => some d
  | false => r g
theorem tab0_ok : TabOk P (fun _ => none) := ⟨fun f d h => by cases h⟩
theorem tab1_ok {f : FuncId} {d : FD} {r : FuncId → Option FD} (h : FdOk P f d) (hr : TabOk P r) : TabOk P (tab1 f d r) := by
  refine ⟨fun g e hg => ?_⟩
  unfold tab1 at hg
  split at hg
  · rename_i hq
    rw [Nat.beq_eq] at hq
    cases hg
    subst hq
    exact h
  · exact hr.ok g e hg
end
end Go.Am
