/- All operations on abstract values and the abstract heap, and that the model does the like. First: those that ask nothing of memory. -/
import Derived.Test.YtodmfjhjaegoeaaGreatDoorAmPure3
set_option linter.unusedVariables false
set_option linter.unusedSimpArgs false
namespace Go.Am

def pureOp (P : Program) (fr : Nat → Value) : Op → Option Value
  | .move x => ev fr x
  | .assign x => ev fr x
  | .pick c a b => match ev fr c with
    | some (.bool t) => match ev fr a, ev fr b with
      | some u, some v => if t = true then some u else some v
      | _, _ => none
    | _ => none
  | .nilCheck x => (ev fr x).bind aNilCheck
  | .binOp op t x y _ => match ev fr x, ev fr y with
    | some u, some v => aBin P op t u v
    | _, _ => none
  | .unOp op _ x => (ev fr x).bind (aUn op)
  | .convert s d x => (ev fr x).bind (aConv P s d)
  | .makeInterface t x => (ev fr x).bind (aMakeIface P t)
  | .makeFunc (.func f) xs ys => match evl fr xs.toList, evl fr ys.toList with
    | some us, some vs => some (.func (.func f) us.toArray vs.toArray)
    | _, _ => none
  | .slice t x lo hi mx => match ev fr x, evo fr lo, evo fr hi, evo fr mx with
    | some u, some l, some h, some m => aSlice P t u l h m
    | _, _, _, _ => none
  | .fieldAddr s x f => (ev fr x).bind fun u => aFieldAddr P s u f
  | .field s x f => (ev fr x).bind fun u => aField P s u f
  | .indexAddr t x i => match ev fr x, ev fr i with
    | some u, some v => aIndexAddr P t u v
    | _, _ => none
  | .index t x i => match ev fr x, ev fr i with
    | some u, some v => aIndex P t u v
    | _, _ => none
  | .extract x i => (ev fr x).bind fun u => aExtract u i
  | .build t ps => (aParts fr ps.toList).bind (aBuild P t)
  | .call c => match c.callee with
    | .builtin .len => match evl fr c.args.toList, c.argTypes.toList with
      | some [x], [t] => aLen P t x
      | _, _ => none
    | .builtin .min => (evl fr c.args.toList).bind (aMinMax false)
    | .builtin .max => (evl fr c.args.toList).bind (aMinMax true)
    | _ => none
  | _ => none

theorem evo_sound {G : Gh} {N : Nat} {fr : Nat → Value} {a : Act} (hf : FR G N fr a.tmps) {x : Option Operand} {v : Option Value} (hn : (x.toArray.toList.all (inN N)) = true) (h : evo fr x = some v) : OVR G v (x.map a.eval) := by
  cases x with
  | none => simp only [evo, Option.some.injEq] at h; subst h; trivial
  | some x =>
    obtain ⟨u, hu, rfl⟩ := Option.map_eq_some_iff.1 h
    exact ev_sound hf (by simpa using hn) hu

theorem eqGuard_run {P : Program} (op : BinOp) (t : TypeId) (x y : Operand) (a b : Value) (h : (∀ xs, a ≠ .agg xs) ∧ a ≠ .nilIface) (w : World) : (eqGuard op t x y a b).run P w = .ok () w := by
  unfold eqGuard
  cases op <;> simp <;> (split <;> simp_all)

theorem aBin_sound {P : Program} {G : Gh} {op : BinOp} {t : TypeId} {u v u' v' r : Value} (h : aBin P op t u v = some r) (hu : VR G u u') (hv : VR G v v') (x y : Operand) :
    (∀ w, (do eqGuard op t x y u' v'; binOp op t u' v').run P w = .ok r w) ∧ plainAtom r = true := by
  have ng : (∀ xs, u' ≠ .agg xs) ∧ u' ≠ .nilIface := by
    refine ⟨fun xs hq => ?_, fun hq => ?_⟩ <;> subst hq <;> cases hu <;>
      (first
        | (rename_i hp; simp [plainAtom] at hp; done)
        | (cases v <;> cases op <;> simp [aBin, aEq] at h; done))
  unfold aBin at h
  split at h
  · have e1 := hu.of_plainAtom rfl; have e2 := hv.of_plainAtom rfl; subst e1 e2
    refine ⟨fun w => ?_, ?_⟩
    · rw [Sem.run_bind, eqGuard_run _ _ _ _ _ _ ng, Result.andThen_ok]
      exact (aBin_int (by unfold aBin; exact h) w).1
    · exact (aBin_int (P := P) (t := t) (by unfold aBin; exact h) default).2
  · have e1 := hu.of_plainAtom rfl; have e2 := hv.of_plainAtom rfl; subst e1 e2
    refine ⟨fun w => ?_, ?_⟩
    · rw [Sem.run_bind, eqGuard_run _ _ _ _ _ _ ng, Result.andThen_ok]
      exact (aBin_string (by unfold aBin; exact h) w).1
    · exact (aBin_string (P := P) (t := t) (by unfold aBin; exact h) default).2
  · rename_i n1 n2
    have hEq : ∀ b, aEq P t u v = some b → ∀ w, (binOp .eql t u' v').run P w = .ok (.bool b) w ∧ (binOp .neq t u' v').run P w = .ok (.bool !b) w := by
      intro b hb w
      have he := equal_sound hb hu hv w
      unfold aEq at hb
      split at hb <;> (try (cases hb; done)) <;> cases hu <;> cases hv <;> simp_all [binOp, plainAtom]
    cases op <;> simp only [reduceCtorEq] at h
    · obtain ⟨b, hb, rfl⟩ := Option.map_eq_some_iff.1 h
      exact ⟨fun w => by rw [Sem.run_bind, eqGuard_run _ _ _ _ _ _ ng, Result.andThen_ok]; exact (hEq b hb w).1, rfl⟩
    · obtain ⟨b, hb, rfl⟩ := Option.map_eq_some_iff.1 h
      exact ⟨fun w => by rw [Sem.run_bind, eqGuard_run _ _ _ _ _ _ ng, Result.andThen_ok]; exact (hEq b hb w).2, rfl⟩

theorem all_app {α : Type} {p : α → Bool} {xs ys : List α} (h : (xs ++ ys).all p = true) : xs.all p = true ∧ ys.all p = true := by
  simpa [List.all_append] using h

theorem evl_arr {G : Gh} {N : Nat} {fr : Nat → Value} {a : Act} (hf : FR G N fr a.tmps) {xs : Array Operand} {vs : List Value} (hn : (xs.toList.all (inN N)) = true) (h : evl fr xs.toList = some vs) :
    VL G vs (xs.map a.eval).toList := by
  have := evl_sound hf hn h
  simpa using this

theorem pureOp_sound {P : Program} {G : Gh} {N : Nat} {fr : Nat → Value} {a : Act} (hf : FR G N fr a.tmps) {o : Oper} {v : Value} (hn : (o.op.operands.toList.all (inN N)) = true) (h : pureOp P fr o.op = some v) :
    ∃ v', (∀ w, (execOp a.eval o).run P w = .ok (.value v') w) ∧ VR G v v' := by
  have wrap : ∀ {s : Sem Value} {v'}, (∀ w, s.run P w = .ok v' w) → ∀ w, (do pure (Next.value (← s)) : Sem Next).run P w = .ok (.value v') w := by
    intro s v' hs w; simp [hs]
  cases ho : o.op <;> rw [ho] at h hn <;> simp only [pureOp, reduceCtorEq] at h
  case move x => exact ⟨a.eval x, fun w => by simp [execOp, ho], ev_sound hf (by simpa [Op.operands] using hn) h⟩
  case assign x => exact ⟨a.eval x, fun w => by simp [execOp, ho], ev_sound hf (by simpa [Op.operands] using hn) h⟩
  case pick c x y =>
    simp only [Op.operands, List.all_cons, List.all_nil, Bool.and_true, Bool.and_eq_true] at hn
    split at h <;> (try (cases h; done))
    rename_i t hc
    split at h <;> (try (cases h; done))
    rename_i u w' hx hy
    have e := (ev_sound hf hn.1 hc).of_plainAtom rfl
    have hvx := ev_sound hf hn.2.1 hx
    have hvy := ev_sound hf hn.2.2 hy
    cases t
    · simp only [Bool.false_eq_true, if_false, Option.some.injEq] at h; subst h
      exact ⟨a.eval y, fun w => by simp [execOp, ho, e, asBool], hvy⟩
    · simp only [if_true, Option.some.injEq] at h; subst h
      exact ⟨a.eval x, fun w => by simp [execOp, ho, e, asBool], hvx⟩
  case nilCheck x =>
    obtain ⟨u, hu, h⟩ := Option.bind_eq_some_iff.1 h
    have hv := ev_sound hf (by simpa [Op.operands] using hn) hu
    unfold aNilCheck at h
    split at h <;> (try (cases h; done)) <;> simp only [Option.some.injEq] at h <;> subst h
    all_goals
      refine ⟨a.eval x, fun w => ?_, hv⟩
      cases hq : a.eval x <;> rw [hq] at hv <;> simp only [execOp, ho, hq] <;> cases hv <;> first | rfl | (rename_i hp; simp [plainAtom] at hp)
  case binOp op t x y ty =>
    simp only [Op.operands, List.all_cons, List.all_nil, Bool.and_true, Bool.and_eq_true] at hn
    split at h <;> (try (cases h; done))
    rename_i u w' hx hy
    obtain ⟨h1, h2⟩ := aBin_sound h (ev_sound hf hn.1 hx) (ev_sound hf hn.2 hy) x y
    exact ⟨v, fun w => by simp only [execOp, ho]; exact wrap h1 w, .plain h2⟩
  case unOp op t x =>
    obtain ⟨u, hu, h⟩ := Option.bind_eq_some_iff.1 h
    obtain ⟨h1, h2⟩ := aUn_sound (P := P) h (ev_sound hf (by simpa [Op.operands] using hn) hu)
    exact ⟨v, fun w => by simp only [execOp, ho]; exact wrap h1 w, .plain h2⟩
  case convert s d x =>
    obtain ⟨u, hu, h⟩ := Option.bind_eq_some_iff.1 h
    obtain ⟨h1, h2⟩ := aConv_sound h (ev_sound hf (by simpa [Op.operands] using hn) hu)
    exact ⟨v, fun w => by simp only [execOp, ho]; exact wrap h1 w, .plain h2⟩
  case makeInterface t x =>
    obtain ⟨u, hu, h⟩ := Option.bind_eq_some_iff.1 h
    obtain ⟨h1, h2⟩ := aMakeIface_sound h (ev_sound hf (by simpa [Op.operands] using hn) hu)
    exact ⟨_, fun w => by simp only [execOp, ho]; exact wrap h1 w, h2⟩
  case makeFunc fn xs ys =>
    cases fn <;> simp only [reduceCtorEq] at h
    rename_i f
    split at h <;> (try (cases h; done))
    rename_i us vs hx hy
    simp only [Option.some.injEq] at h; subst h
    simp only [Op.operands, Array.toList_append] at hn
    obtain ⟨n1, n2⟩ := all_app hn
    have v1 := evl_arr hf n1 hx
    have v2 := evl_arr hf n2 hy
    obtain ⟨a1, a2⟩ := arrays_of_vl (xs := us.toArray) (ys := xs.map a.eval) (by simpa using v1)
    obtain ⟨b1, b2⟩ := arrays_of_vl (xs := vs.toArray) (ys := ys.map a.eval) (by simpa using v2)
    exact ⟨.func (.func f) (xs.map a.eval) (ys.map a.eval), fun w => by simp only [execOp, ho]; exact wrap (fun w => rfl) w, .func a1 a2 b1 b2⟩
  case slice t x lo hi mx =>
    split at h <;> (try (cases h; done))
    rename_i u l m r hx hl hh hm
    simp only [Op.operands, Array.toList_append] at hn
    obtain ⟨n1, n4⟩ := all_app hn
    obtain ⟨n1, n3⟩ := all_app n1
    obtain ⟨n1, n2⟩ := all_app n1
    obtain ⟨r', h1, h2⟩ := aSlice_sound h (ev_sound hf (by simpa using n1) hx) (evo_sound hf n2 hl) (evo_sound hf n3 hh) (evo_sound hf n4 hm)
    exact ⟨_, fun w => by simp only [execOp, ho]; exact wrap h1 w, h2⟩
  case fieldAddr s x f =>
    obtain ⟨u, hu, h⟩ := Option.bind_eq_some_iff.1 h
    obtain ⟨r', h1, h2⟩ := aFieldAddr_sound h (ev_sound hf (by simpa [Op.operands] using hn) hu)
    exact ⟨_, fun w => by simp only [execOp, ho]; exact wrap h1 w, h2⟩
  case field s x f =>
    obtain ⟨u, hu, h⟩ := Option.bind_eq_some_iff.1 h
    obtain ⟨r', h1, h2⟩ := aField_sound h (ev_sound hf (by simpa [Op.operands] using hn) hu)
    exact ⟨_, fun w => by simp only [execOp, ho]; exact wrap h1 w, h2⟩
  case indexAddr t x i =>
    simp only [Op.operands, List.all_cons, List.all_nil, Bool.and_true, Bool.and_eq_true] at hn
    split at h <;> (try (cases h; done))
    rename_i u w' hx hy
    obtain ⟨r', h1, h2⟩ := aIndexAddr_sound h (ev_sound hf hn.1 hx) (ev_sound hf hn.2 hy)
    exact ⟨_, fun w => by simp only [execOp, ho]; exact wrap h1 w, h2⟩
  case index t x i =>
    simp only [Op.operands, List.all_cons, List.all_nil, Bool.and_true, Bool.and_eq_true] at hn
    split at h <;> (try (cases h; done))
    rename_i u w' hx hy
    obtain ⟨r', h1, h2⟩ := aIndex_sound h (ev_sound hf hn.1 hx) (ev_sound hf hn.2 hy)
    exact ⟨_, fun w => by simp only [execOp, ho]; exact wrap h1 w, h2⟩
  case extract x i =>
    obtain ⟨u, hu, h⟩ := Option.bind_eq_some_iff.1 h
    obtain ⟨r', h1, h2⟩ := aExtract_sound (P := P) h (ev_sound hf (by simpa [Op.operands] using hn) hu)
    exact ⟨_, fun w => by simp only [execOp, ho]; exact wrap h1 w, h2⟩
  case build t ps =>
    obtain ⟨us, hu, h⟩ := Option.bind_eq_some_iff.1 h
    obtain ⟨p1, p2⟩ := aParts_sound hf (ps := ps.toList) (by simpa [Op.operands, List.all_map] using hn) hu
    obtain ⟨r', h1, h2⟩ := aBuild_sound h p1 p2
    refine ⟨_, fun w => ?_, h2⟩
    simp only [execOp, ho]
    have e : (ps.map fun p => (p.1, a.eval p.2)) = ((ps.toList.map fun p => (p.1, a.eval p.2)).toArray) := by apply Array.ext'; simp
    refine wrap (fun w => ?_) w
    have h1 := h1 w
    rw [← e] at h1
    exact h1
  case call c =>
    obtain ⟨callee, args, argTypes⟩ := c
    simp only at h
    cases callee with
    | value f => simp at h
    | invoke r m => simp at h
    | builtin b =>
      simp only [Op.operands, Call.operands, Array.toList_append] at hn
      have hn := (all_app hn).2
      cases b <;> simp only [reduceCtorEq] at h
      case len =>
        split at h <;> (try (cases h; done))
        rename_i x t hx ht
        have hv := evl_arr hf hn hx
        obtain ⟨y, zs, e1, hy, hz⟩ := hv.head
        have := hz.of_nil; subst this
        have ea : args.map a.eval = #[y] := by apply Array.toList_inj.1; simpa using e1
        have et : argTypes = #[t] := by apply Array.toList_inj.1; simpa using ht
        obtain ⟨h1, h2⟩ := aLen_sound (ty := o.type) h hy
        refine ⟨v, fun w => ?_, .plain h2⟩
        simp only [execOp, ho, resolve, ea, et, Sem.run_bind, Sem.run_pure, Result.andThen_ok, invoke, builtin]
        simp [h1 w]
      case min =>
        obtain ⟨us, hu, h⟩ := Option.bind_eq_some_iff.1 h
        have hv := evl_arr hf hn hu
        obtain ⟨h1, h2⟩ := aMinMax_sound (P := P) h hv argTypes o.type
        refine ⟨v, fun w => ?_, .plain h2⟩
        have h1 := h1 w
        simp only [Bool.false_eq_true, if_false] at h1
        simp only [execOp, ho, resolve, Sem.run_bind, Sem.run_pure, Result.andThen_ok, invoke, builtin]
        simp [h1]
      case max =>
        obtain ⟨us, hu, h⟩ := Option.bind_eq_some_iff.1 h
        have hv := evl_arr hf hn hu
        obtain ⟨h1, h2⟩ := aMinMax_sound (P := P) h hv argTypes o.type
        refine ⟨v, fun w => ?_, .plain h2⟩
        have h1 := h1 w
        simp only [if_true] at h1
        simp only [execOp, ho, resolve, Sem.run_bind, Sem.run_pure, Result.andThen_ok, invoke, builtin]
        simp [h1]

end Go.Am
