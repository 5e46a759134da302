/- A region that draws its order of evaluation, in the abstract logic: the text's order will do where what isn't ordered doesn't touch. And scopes through which nothing jumps. -/
import Derived.Test.YtodmfjhjaegoeaaGreatDoorAmFun
set_option linter.unusedVariables false
set_option linter.unusedSimpArgs false
namespace Go.Am
variable {P : Program}

/-! ### What an operation reads of the frame -/
theorem evl_congr {fr fr' : Fr} : ∀ {l : List Operand}, (∀ x ∈ l, ev fr x = ev fr' x) → evl fr l = evl fr' l
  | [], _ => rfl
  | x :: l, h => by
    simp only [evl, h x List.mem_cons_self, evl_congr (fun y hy => h y (List.mem_cons_of_mem _ hy))]
theorem evo_congr {fr fr' : Fr} : ∀ {o : Option Operand}, (∀ x ∈ o.toArray, ev fr x = ev fr' x) → evo fr o = evo fr' o
  | none, _ => rfl
  | some x, h => by simp only [evo, h x (by simp)]
theorem aParts_congr {fr fr' : Fr} : ∀ {l : List (Nat × Operand)}, (∀ x ∈ l.map (·.2), ev fr x = ev fr' x) → aParts fr l = aParts fr' l
  | [], _ => rfl
  | (i, x) :: l, h => by
    simp only [aParts, h x (by simp), aParts_congr (l := l) (fun y hy => h y (by simp only [List.map_cons]; exact List.mem_cons_of_mem _ hy))]

theorem pureOp_congr {fr fr' : Fr} {op : Op} (h : ∀ x ∈ op.operands, ev fr x = ev fr' x) : pureOp P fr op = pureOp P fr' op := by
  cases op
  case makeFunc f xs ys =>
    have h1 : evl fr xs.toList = evl fr' xs.toList := evl_congr fun x hx => h x (by simp only [Op.operands, Array.mem_append]; exact .inl (by simpa using hx))
    have h2 : evl fr ys.toList = evl fr' ys.toList := evl_congr fun x hx => h x (by simp only [Op.operands, Array.mem_append]; exact .inr (by simpa using hx))
    cases f <;> simp only [pureOp, h1, h2]
  case slice t x lo hi mx =>
    have h0 := h x (by simp [Op.operands])
    have h1 : evo fr lo = evo fr' lo := evo_congr fun y hy => h y (by simp [Op.operands] at hy ⊢; exact .inr (.inl hy))
    have h2 : evo fr hi = evo fr' hi := evo_congr fun y hy => h y (by simp [Op.operands] at hy ⊢; exact .inr (.inr (.inl hy)))
    have h3 : evo fr mx = evo fr' mx := evo_congr fun y hy => h y (by simp [Op.operands] at hy ⊢; exact .inr (.inr (.inr hy)))
    simp only [pureOp, h0, h1, h2, h3]
  case build t ps =>
    have h1 : aParts fr ps.toList = aParts fr' ps.toList := aParts_congr fun x hx => h x (by simpa [Op.operands] using hx)
    simp only [pureOp, h1]
  case call c =>
    obtain ⟨callee, args, argTypes⟩ := c
    have h1 : evl fr args.toList = evl fr' args.toList := evl_congr fun x hx => h x (by simp [Op.operands, Call.operands] at hx ⊢; exact .inr hx)
    cases callee with
    | builtin b => cases b <;> simp only [pureOp, h1]
    | _ => rfl
  all_goals first
    | rfl
    | (simp only [pureOp]; repeat (rw [h _ (by simp [Op.operands])]))

theorem readOp_congr {fr fr' : Fr} {hp : Heap} {op : Op} (h : ∀ x ∈ op.operands, ev fr x = ev fr' x) : readOp P fr hp op = readOp P fr' hp op := by
  cases op
  case call c =>
    obtain ⟨callee, args, argTypes⟩ := c
    have h1 : evl fr args.toList = evl fr' args.toList := evl_congr fun x hx => h x (by simp [Op.operands, Call.operands] at hx ⊢; exact .inr hx)
    cases callee with
    | builtin b => cases b <;> simp only [readOp, h1]
    | _ => rfl
  all_goals first | rfl | (simp only [readOp]; repeat (rw [h _ (by simp [Op.operands])]))

theorem effOp_congr {fr fr' : Fr} {hp : Heap} {op : Op} (h : ∀ x ∈ op.operands, ev fr x = ev fr' x) : effOp P fr hp op = effOp P fr' hp op := by
  cases op
  case buildSlice t l ps =>
    have h1 : aParts fr ps.toList = aParts fr' ps.toList := aParts_congr fun x hx => h x (by simpa [Op.operands] using hx)
    simp only [effOp, h1]
  case call c =>
    obtain ⟨callee, args, argTypes⟩ := c
    have h1 : evl fr args.toList = evl fr' args.toList := evl_congr fun x hx => h x (by simp [Op.operands, Call.operands] at hx ⊢; exact .inr hx)
    cases callee with
    | builtin b => cases b <;> simp only [effOp, h1]
    | _ => rfl
  all_goals first
    | rfl
    | (simp only [effOp]; repeat (rw [h _ (by simp [Op.operands])]))

theorem AOp_congr {o : Oper} {K K' : Fr → Heap → Prop} {fr fr' : Fr} {h : Heap} (he : ∀ x ∈ o.op.operands, ev fr x = ev fr' x) (hk : ∀ v h', K (put fr o.dst v) h' → K' (put fr' o.dst v) h')
    (hop : AOp P o K fr h) : AOp P o K' fr' h := by
  have hp := pureOp_congr (P := P) he
  have hr := readOp_congr (P := P) (hp := h) he
  have hf := effOp_congr (P := P) (hp := h) he
  unfold AOp at hop ⊢
  cases ho : o.op <;> rw [ho] at hop hp hr hf he <;> simp only at hop ⊢
  case call c =>
    obtain ⟨callee, args, argTypes⟩ := c
    have h1 : evl fr args.toList = evl fr' args.toList := evl_congr fun x hx => he x (by simp [Op.operands, Call.operands] at hx ⊢; exact .inr hx)
    simp only at hop ⊢
    cases callee with
    | invoke r m => exact hop
    | builtin b =>
      cases b <;> simp only at hop ⊢ <;> first
        | (rw [hp] at hop; exact optE_mono (fun _ q => hk _ _ q) (fun x => x) hop)
        | (rw [hp, hr] at hop; exact optE_mono (fun _ q => hk _ _ q) (fun q => optE_mono (fun _ q => hk _ _ q) (fun x => x) q) hop)
        | (rw [hf] at hop; exact optE_mono (fun _ q => hk _ _ q) (fun x => x) hop)
    | value f =>
      have h2 := he f (by simp [Op.operands, Call.operands])
      cases f with
      | func g => rw [h1] at hop; exact optE_mono (fun _ q => ACall.mono q fun _ _ q => hk _ _ q) (fun x => x) hop
      | tmp t => simp only at hop ⊢; rw [h1, h2] at hop; exact optE_mono (fun _ q => optE_mono (fun _ q => ACallV.mono q fun _ _ q => hk _ _ q) (fun x => x) q) (fun x => x) hop
      | const t => simp only at hop ⊢; rw [h1, h2] at hop; exact optE_mono (fun _ q => optE_mono (fun _ q => ACallV.mono q fun _ _ q => hk _ _ q) (fun x => x) q) (fun x => x) hop
      | global t => simp only at hop ⊢; rw [h1, h2] at hop; exact optE_mono (fun _ q => optE_mono (fun _ q => ACallV.mono q fun _ _ q => hk _ _ q) (fun x => x) q) (fun x => x) hop
  case convert s d x =>
    rw [hp, hr, hf] at hop
    exact optE_mono (fun _ q => hk _ _ q) (fun q => optE_mono (fun _ q => hk _ _ q) (fun q => optE_mono (fun _ q => hk _ _ q) (fun x => x) q) q) hop
  all_goals first
    | (rw [hp] at hop; exact optE_mono (fun _ q => hk _ _ q) (fun x => x) hop)
    | (rw [hr] at hop; exact optE_mono (fun _ q => hk _ _ q) (fun x => x) hop)
    | (rw [hf] at hop; exact optE_mono (fun _ q => hk _ _ q) (fun x => x) hop)

/-! ### Classes of operations: 0 is of the frame alone, 1 reads the heap too, 2 is any. -/
def isNumT (P : Program) (t : TypeId) : Bool := match P.underlying t with | some (.int _) => true | _ => false

def clsLen (P : Program) : List TypeId → Nat
  | [t] => if isMapT P t = true then 1 else 0
  | _ => 0
theorem readOp_len0 {fr : Fr} {hp : Heap} {args : Array Operand} {ts : Array TypeId} (h : clsLen P ts.toList = 0) : readOp P fr hp (.call { callee := .builtin .len, args := args, argTypes := ts }) = none := by
  simp only [readOp]
  split
  · rename_i x t h1 h2
    rw [h2] at h
    simp only [clsLen] at h
    have : isMapT P t = false := by cases hq : isMapT P t <;> simp_all
    simp [aLenMap, this]
  · rfl
theorem pureOp_len1 {fr : Fr} {args : Array Operand} {ts : Array TypeId} (h : clsLen P ts.toList ≠ 0) : pureOp P fr (.call { callee := .builtin .len, args := args, argTypes := ts }) = none := by
  simp only [pureOp]
  split
  · rename_i x t h1 h2
    rw [h2] at h
    simp only [clsLen] at h
    have hm : isMapT P t = true := by cases hq : isMapT P t <;> simp_all
    unfold isMapT at hm
    split at hm
    · rename_i hq
      unfold aLen; rw [hq]
    · cases hm
  · rfl
theorem clsLen_le (ts : List TypeId) : clsLen P ts ≤ 1 := by
  unfold clsLen
  split
  · split <;> omega
  · omega

def cls (P : Program) (o : Oper) : Nat := match o.op with
  | .call c => match c.callee with
    | .builtin .append => 2
    | .builtin .copy => 2
    | .builtin .delete => 2
    | .builtin .len => clsLen P c.argTypes.toList
    | .builtin _ => 0
    | _ => 2
  | .load _ _ => 1
  | .lookup _ _ _ _ => 1
  | .typeAssert _ _ _ _ => 1
  | .makeMap _ _ => 2
  | .mapUpdate _ _ _ _ => 2
  | .range _ _ => 2
  | .next _ _ => 2
  | .convert s d _ => if isNumT P d = true then 0 else if (isSliceT P s && isStrT P d) = true then 1 else 2
  | .alloc _ => 2
  | .box _ _ => 2
  | .buildSlice _ _ _ => 2
  | .store _ _ _ => 2
  | .makeSlice _ _ _ => 2
  | _ => 0

/-- What an operation of the classes 0 and 1 yields. -/
def oval (P : Program) (o : Oper) (fr : Fr) (h : Heap) : Option Value := if cls P o = 0 then pureOp P fr o.op else readOp P fr h o.op

theorem optE_false {α : Type} {o : Option α} {K : α → Prop} : optE o K False ↔ ∃ v, o = some v ∧ K v := by
  cases o with
  | none => simp [optE]
  | some x => simp [optE]

theorem AOp_value {o : Oper} (hc : cls P o ≤ 1) {K : Fr → Heap → Prop} {fr : Fr} {h : Heap} : AOp P o K fr h ↔ ∃ v, oval P o fr h = some v ∧ K (put fr o.dst v) h := by
  unfold AOp oval cls at *
  cases ho : o.op <;> rw [ho] at hc <;> simp only at hc ⊢ <;> (try (exact absurd hc (by decide)))
  case call c =>
    obtain ⟨callee, args, argTypes⟩ := c
    cases callee with
    | builtin b =>
      cases b <;> simp only at hc ⊢ <;> first | exact absurd hc (by decide) | (simp only [if_true]; exact optE_false) | skip
      -- len
      by_cases hz : clsLen P argTypes.toList = 0
      · rw [readOp_len0 hz, if_pos hz]; exact optE_false
      · rw [pureOp_len1 hz, if_neg hz]; exact optE_false
    | _ => exact absurd hc (by simp)
  case convert s d x =>
    by_cases hn : isNumT P d = true
    · simp only [hn, if_true]
      have hd : ∃ k, P.underlying d = some (.int k) := by
        unfold isNumT at hn
        split at hn
        · exact ⟨_, ‹_›⟩
        · cases hn
      obtain ⟨k, hk⟩ := hd
      have hr : readOp P fr h (.convert s d x) = none := by
        simp only [readOp, Option.bind_eq_none_iff]
        intro v _; unfold aStrOf; rw [hk]; split <;> simp_all
      have he : effOp P fr h (.convert s d x) = none := by
        simp only [effOp, Option.bind_eq_none_iff]
        intro v _
        have e1 : aBytes P h s d v = none := by unfold aBytes; rw [hk]; split <;> simp_all
        have e2 : aSame P h s d v = none := by unfold aSame; rw [hk]; split <;> simp_all
        simp only [e1, e2]
      rw [hr, he]
      exact optE_false
    · simp only [hn, Bool.false_eq_true, if_false] at hc ⊢
      by_cases hs : (isSliceT P s && isStrT P d) = true
      · simp only [hs, if_true, Nat.one_ne_zero, if_false]
        simp only [Bool.and_eq_true] at hs
        have hd := isStrT_spec hs.2
        have hp : pureOp P fr (.convert s d x) = none := by
          simp only [pureOp, Option.bind_eq_none_iff]
          intro v _
          have h1 := hs.1
          unfold isSliceT at h1
          split at h1
          · rename_i hq
            unfold aConv; rw [hd, hq]
          · cases h1
        have he : effOp P fr h (.convert s d x) = none := by
          simp only [effOp, Option.bind_eq_none_iff]
          intro v _
          have e1 : aBytes P h s d v = none := by unfold aBytes; rw [hd]; split <;> simp_all
          have e2 : aSame P h s d v = none := by unfold aSame; rw [hd]; split <;> simp_all
          simp only [e1, e2]
        rw [hp, he]
        exact optE_false
      · simp only [hs] at hc; exact absurd hc (by decide)
  all_goals first | (simp only [if_true]; exact optE_false) | (simp only [Nat.one_ne_zero, if_false]; exact optE_false)

/-! ### One operation of a region, by its number -/
def AStep (P : Program) (ops : Array Oper) (o : Oper) (K : Fr → Heap → Prop) (fr : Fr) (h : Heap) : Prop :=
  if wantedA ops fr o = true then AOp P o K fr h else K (put fr o.dst undef) h

def AAt (P : Program) (ops : Array Oper) (i : Nat) (K : Fr → Heap → Prop) (fr : Fr) (h : Heap) : Prop := match ops[i]? with
  | none => K fr h
  | some o => AStep P ops o K fr h

def AList (P : Program) (ops : Array Oper) (Q : Fr → Heap → Prop) : List Nat → Fr → Heap → Prop
  | [] => Q
  | i :: r => AAt P ops i (AList P ops Q r)

variable {ops : Array Oper}

theorem AStep_mono {o : Oper} {K K' : Fr → Heap → Prop} (hk : ∀ fr h, K fr h → K' fr h) {fr : Fr} {h : Heap} (q : AStep P ops o K fr h) : AStep P ops o K' fr h := by
  unfold AStep at *
  split
  · rename_i hw; rw [if_pos hw] at q; exact AOp_mono hk q
  · rename_i hw; rw [if_neg hw] at q; exact hk _ _ q
theorem AAt_mono {i : Nat} {K K' : Fr → Heap → Prop} (hk : ∀ fr h, K fr h → K' fr h) {fr : Fr} {h : Heap} (q : AAt P ops i K fr h) : AAt P ops i K' fr h := by
  unfold AAt at *
  split
  · rename_i ho; rw [ho] at q; exact hk _ _ q
  · rename_i ho; rw [ho] at q; exact AStep_mono hk q
theorem AStep_inh {o : Oper} {K : Fr → Heap → Prop} {fr : Fr} {h : Heap} (q : AStep P ops o K fr h) : ∃ v h', K (put fr o.dst v) h' := by
  unfold AStep at q
  split at q
  · exact AOp_inh q
  · exact ⟨_, _, q⟩
theorem AAt_inh {i : Nat} {K : Fr → Heap → Prop} {fr : Fr} {h : Heap} (q : AAt P ops i K fr h) : ∃ fr' h', K fr' h' := by
  unfold AAt at q
  split at q
  · exact ⟨_, _, q⟩
  · obtain ⟨v, h', q⟩ := AStep_inh q; exact ⟨_, _, q⟩

theorem put_at {fr : Fr} {d : Option Tmp} {v : Value} {t : Tmp} (h : ∀ e, d = some e → e ≠ t) : put fr d v t = fr t := by
  cases d with
  | none => rfl
  | some e => simp only [put, upd]; rw [if_neg (fun q => h e rfl q.symm)]

theorem ev_put {fr : Fr} {d : Option Tmp} {v : Value} {o : Oper} (h : ∀ e, d = some e → e ∉ o.looksAt ops) : ∀ x ∈ o.op.operands, ev (put fr d v) x = ev fr x := by
  intro x hx
  cases x with
  | tmp t =>
    simp only [ev]
    rw [put_at]
    rintro e he rfl
    exact h e he (List.mem_append_left _ (List.mem_filterMap.2 ⟨.tmp e, by simpa using hx, rfl⟩))
  | _ => rfl

theorem wantedA_put {fr : Fr} {d : Option Tmp} {v : Value} {o : Oper} (h : ∀ e, d = some e → e ∉ o.looksAt ops) : wantedA ops (put fr d v) o = wantedA ops fr o := by
  unfold wantedA
  cases hg : o.guard with
  | none => rfl
  | some g =>
    obtain ⟨j, want⟩ := g
    simp only
    congr 1
    unfold ayield
    cases hd : (ops[j]?).bind (·.dst) with
    | none => rfl
    | some e =>
      simp only
      rw [put_at]
      rintro e' he rfl
      exact h e' he (List.mem_append_right _ (by rw [hg]; simp [hd]))

theorem AStep_congr {o : Oper} {K K' : Fr → Heap → Prop} {fr fr' : Fr} {h : Heap} (he : ∀ x ∈ o.op.operands, ev fr x = ev fr' x) (hw : wantedA ops fr o = wantedA ops fr' o)
    (hk : ∀ v h', K (put fr o.dst v) h' → K' (put fr' o.dst v) h') (q : AStep P ops o K fr h) : AStep P ops o K' fr' h := by
  unfold AStep at *
  rw [hw] at q
  split
  · rename_i hw; rw [if_pos hw] at q; exact AOp_congr he hk q
  · rename_i hw; rw [if_neg hw] at q; exact hk _ _ q

/-- What an operation of the classes 0 and 1 yields in a region. -/
def sval (P : Program) (ops : Array Oper) (o : Oper) (fr : Fr) (h : Heap) : Option Value := if wantedA ops fr o = true then oval P o fr h else some undef

theorem AStep_value {o : Oper} (hc : cls P o ≤ 1) {K : Fr → Heap → Prop} {fr : Fr} {h : Heap} : AStep P ops o K fr h ↔ ∃ v, sval P ops o fr h = some v ∧ K (put fr o.dst v) h := by
  unfold AStep sval
  split
  · exact AOp_value hc
  · simp

theorem sval_congr {o : Oper} {fr fr' : Fr} {h : Heap} (he : ∀ x ∈ o.op.operands, ev fr x = ev fr' x) (hw : wantedA ops fr o = wantedA ops fr' o) : sval P ops o fr h = sval P ops o fr' h := by
  unfold sval oval
  rw [hw, pureOp_congr he, readOp_congr he]
theorem sval_heap {o : Oper} (hc : cls P o = 0) {fr : Fr} {h h' : Heap} : sval P ops o fr h = sval P ops o fr h' := by
  unfold sval oval
  simp only [hc, if_true]

theorem put_comm {fr : Fr} {d e : Option Tmp} {u v : Value} (h : ∀ t, d = some t → e ≠ some t) : put (put fr d u) e v = put (put fr e v) d u := by
  cases d with
  | none => rfl
  | some t =>
    cases e with
    | none => rfl
    | some s =>
      have : t ≠ s := fun q => h t rfl (by rw [q])
      funext x
      simp only [put, upd]
      split <;> split <;> simp_all

def swapOk (P : Program) (ops : Array Oper) (x y : Oper) : Bool := x.apart ops y && (cls P x == 0 || cls P y == 0 || (decide (cls P x ≤ 1) && decide (cls P y ≤ 1)))

theorem AStep_swap {x y : Oper} (hs : swapOk P ops x y = true) {K : Fr → Heap → Prop} {fr : Fr} {h : Heap} (q : AStep P ops x (AStep P ops y K) fr h) : AStep P ops y (AStep P ops x K) fr h := by
  simp only [swapOk, Bool.and_eq_true, Bool.or_eq_true, beq_iff_eq, decide_eq_true_eq] at hs
  obtain ⟨ha, hc⟩ := hs
  obtain ⟨h1, h2, h3⟩ := Oper.apart_spec ha
  have h2' : ∀ t, y.dst = some t → x.dst ≠ some t := fun t ht hx => h2 t hx ht
  have ex : ∀ (fr : Fr) v, ∀ z ∈ x.op.operands, ev (put fr y.dst v) z = ev fr z := fun fr v => ev_put h3
  have ey : ∀ (fr : Fr) v, ∀ z ∈ y.op.operands, ev (put fr x.dst v) z = ev fr z := fun fr v => ev_put h1
  have wx : ∀ (fr : Fr) v, wantedA ops (put fr y.dst v) x = wantedA ops fr x := fun fr v => wantedA_put h3
  have wy : ∀ (fr : Fr) v, wantedA ops (put fr x.dst v) y = wantedA ops fr y := fun fr v => wantedA_put h1
  have sx : ∀ (fr : Fr) v h, sval P ops x (put fr y.dst v) h = sval P ops x fr h := fun fr v h => sval_congr (ex fr v) (wx fr v)
  have sy : ∀ (fr : Fr) v h, sval P ops y (put fr x.dst v) h = sval P ops y fr h := fun fr v h => sval_congr (ey fr v) (wy fr v)
  by_cases hx : cls P x = 0
  · -- x is of the frame alone
    obtain ⟨v, hv, q⟩ := (AStep_value (by omega)).1 q
    refine AStep_congr (ey fr v) (wy fr v) (fun u h' k => ?_) q
    refine (AStep_value (by omega)).2 ⟨v, ?_, ?_⟩
    · rw [sx, sval_heap hx (h' := h)]; exact hv
    · rw [put_comm h2']; exact k
  · by_cases hy : cls P y = 0
    · -- y is of the frame alone
      have q' := AStep_mono (P := P) (ops := ops) (o := x) (K' := fun fr' h' => ∃ v, sval P ops y fr' h' = some v ∧ K (put fr' y.dst v) h') (fun fr h k => (AStep_value (by omega)).1 k) q
      obtain ⟨u₀, h₀, v, hv, _⟩ := AStep_inh q'
      rw [sy, sval_heap hy (h' := h)] at hv
      refine (AStep_value (by omega)).2 ⟨v, hv, ?_⟩
      refine AStep_congr (fun z hz => (ex fr v z hz).symm) (wx fr v).symm (fun u h' k => ?_) q'
      obtain ⟨v', hv', k⟩ := k
      rw [sy, sval_heap hy (h' := h), hv] at hv'
      cases hv'
      rw [put_comm h2']
      exact k
    · have hb : cls P x ≤ 1 ∧ cls P y ≤ 1 := by
        rcases hc with (hc | hc) | hc
        · exact absurd hc hx
        · exact absurd hc hy
        · exact hc
      obtain ⟨v, hv, q⟩ := (AStep_value hb.1).1 q
      obtain ⟨u, hu, q⟩ := (AStep_value hb.2).1 q
      rw [sy] at hu
      refine (AStep_value hb.2).2 ⟨u, hu, (AStep_value hb.1).2 ⟨v, ?_, ?_⟩⟩
      · rw [sx]; exact hv
      · rw [put_comm h2']; exact q

/-! ### Any order -/
def AAny (P : Program) (ops : Array Oper) (Q : Fr → Heap → Prop) : Nat → Array Bool → Fr → Heap → Prop
  | 0, listed, fr, h => Region.ready .any ops listed = [] ∧ Q fr h
  | fuel + 1, listed, fr, h => (Region.ready .any ops listed = [] → Q fr h) ∧ ∀ i ∈ Region.ready .any ops listed, AAt P ops i (AAny P ops Q fuel (listed.setIfInBounds i true)) fr h

theorem AAny_inh {Q : Fr → Heap → Prop} : ∀ (fuel : Nat) (listed : Array Bool) (fr : Fr) (h : Heap), AAny P ops Q fuel listed fr h → ∃ fr' h', Q fr' h'
  | 0, _, fr, h, q => ⟨fr, h, q.2⟩
  | fuel + 1, listed, fr, h, q => by
    cases hr : Region.ready .any ops listed with
    | nil => exact ⟨fr, h, q.1 hr⟩
    | cons i r =>
      obtain ⟨fr', h', q'⟩ := AAt_inh (q.2 i (by rw [hr]; exact List.mem_cons_self))
      exact AAny_inh fuel _ _ _ q'

theorem AAny_mono {Q Q' : Fr → Heap → Prop} (hq : ∀ fr h, Q fr h → Q' fr h) : ∀ (fuel : Nat) (listed : Array Bool) (fr : Fr) (h : Heap), AAny P ops Q fuel listed fr h → AAny P ops Q' fuel listed fr h
  | 0, _, fr, h, q => ⟨q.1, hq _ _ q.2⟩
  | fuel + 1, listed, fr, h, q => ⟨fun e => hq _ _ (q.1 e), fun i hi => AAt_mono (fun fr h => AAny_mono hq fuel _ fr h) (q.2 i hi)⟩

theorem AAny_sound {N n : Nat} {ro : Option Nat} {Q : Fr → Heap → Prop} {Q' : Exit → Act → World → Prop} (hok : opsOk N ops.toList = true) {G₀ : Gh} {h₀ : Heap} {W₀ : World} {ds : List Deferred}
    (hQ : ∀ G fr h a w, Q fr h → Rel P G h w.heap → FR G N fr a.tmps → EvW G₀ h₀ W₀ G h w → a.defers = ds → Q' .normal a w) :
    ∀ (fuel : Nat) (listed : Array Bool) (G : Gh) (fr : Fr) (h : Heap) (a : Act) (w : World), AAny P ops Q fuel listed fr h → Rel P G h w.heap → FR G N fr a.tmps → EvW G₀ h₀ W₀ G h w → a.defers = ds →
      wpAnyIn (fence ro) n P .any ops Q' fuel listed a w
  | 0, listed, G, fr, h, a, w, q, R, F, E, D => ⟨q.1, hQ G fr h a w q.2 R F E D⟩
  | fuel + 1, listed, G, fr, h, a, w, q, R, F, E, D => by
    refine ⟨fun e => hQ G fr h a w (q.1 e) R F E D, fun i hi => ?_⟩
    have q := q.2 i hi
    unfold AAt at q
    unfold wpOpIn
    cases ho : ops[i]? with
    | none => rw [ho] at q; exact AAny_sound hok hQ fuel _ G fr h a w q R F E D
    | some o =>
      rw [ho] at q
      simp only at q ⊢
      have hmem : operOk N o = true := List.all_eq_true.1 hok o (Array.mem_toList_iff.2 (Array.mem_of_getElem? ho))
      rw [wanted_eq F hok o]
      unfold AStep at q
      split at q
      · rename_i hw
        rw [if_pos hw]
        refine Oper.wpIn_mono (fun a' w' z => ?_) (AOp_sound (Q := Q') R F hmem q)
        obtain ⟨G', fr', h', q1, q2, q3, q4, u, rfl⟩ := z
        exact AAny_sound hok hQ fuel _ G' fr' h' _ w' q1 q2 q3 (E.trans q4) ((put_defers _ _ _).trans D)
      · rename_i hw
        rw [if_neg hw]
        exact ⟨fun _ _ => trivial, AAny_sound hok hQ fuel _ G _ h _ w q R (F.put (operOk_dst hmem) (VR.undef G)) E ((put_defers _ _ _).trans D)⟩

theorem AW_region_any {N : Nat} {Q : Exit → Fr → Heap → Prop} {fr : Fr} {h : Heap} {id : Nat} (hm : P.follows .mixedOrders = true) (hok : opsOk N ops.toList = true)
    (q : AAny P ops (Q .normal) ops.size (Array.replicate ops.size false) fr h) : AW P N (.region id ops true) Q fr h := by
  refine ⟨?_, fun n ro B G w a R F D => wpIn_region_any hm ?_⟩
  · obtain ⟨f, g, z⟩ := AAny_inh _ _ _ _ q
    exact ⟨.normal, f, g, z, rfl⟩
  · refine AAny_sound (Q' := WPost P N B G h w ro Q) hok (ds := a.defers) ?_ _ _ G fr h a { w with drawn := w.drawn + 1 } q R F (EvW.refl _ _ _) rfl
    intro G' fr' h' a' w' z R' F' E' D'
    exact ⟨rfl, G', fr', h', z, R', F', ⟨E'.toEv, E'.os, E'.tape, E'.output⟩, by rw [D']; exact D.ev E'.toEv⟩

/-! ### The text's order stands for all -/
theorem bubble {Q : Fr → Heap → Prop} {i : Nat} {oi : Oper} (hi : ops[i]? = some oi) : ∀ (xs ys : List Nat) (fr : Fr) (h : Heap), (∀ j ∈ xs, ∃ oj, ops[j]? = some oj ∧ swapOk P ops oj oi = true) →
    AList P ops Q (xs ++ i :: ys) fr h → AAt P ops i (AList P ops Q (xs ++ ys)) fr h
  | [], ys, fr, h, _, q => q
  | j :: xs, ys, fr, h, hs, q => by
    obtain ⟨oj, hj, hsw⟩ := hs j List.mem_cons_self
    have ih := bubble (Q := Q) hi xs ys
    have q1 : AAt P ops j (AAt P ops i (AList P ops Q (xs ++ ys))) fr h := AAt_mono (fun fr h => ih fr h (fun k hk => hs k (List.mem_cons_of_mem _ hk))) q
    unfold AAt at q1 ⊢
    rw [hj] at q1
    rw [hi] at q1 ⊢
    simp only at q1 ⊢
    have q2 := AStep_swap hsw q1
    refine AStep_mono (fun fr h k => ?_) q2
    show AAt P ops j (AList P ops Q (xs ++ ys)) fr h
    unfold AAt
    rw [hj]
    exact k

def direct (ops : Array Oper) (i j : Nat) : Bool := match ops[i]? with
  | some o => o.after.any fun e => Region.binds .any e && e.on == j
  | none => false

/-- i waits for j. -/
def waits (ops : Array Oper) : Nat → Nat → Nat → Bool
  | 0, i, j => direct ops i j
  | f + 1, i, j => direct ops i j || match ops[i]? with
    | some o => o.after.any fun e => Region.binds .any e && waits ops f e.on j
    | none => false

/-- Of the operations of l, in the text's order, each waits for, or may be swapped with, each one ahead. -/
def textOk (P : Program) (ops : Array Oper) : List Nat → Bool
  | [] => true
  | j :: r => (match ops[j]? with
    | some o => o.after.all fun e => !Region.binds .any e || (decide (e.on < ops.size) && !(j :: r).contains e.on)
    | none => false) && (r.all fun i => waits ops ops.size i j || match ops[i]?, ops[j]? with
    | some oi, some oj => swapOk P ops oj oi
    | _, _ => false) && textOk P ops r

def Shut (ops : Array Oper) (listed : Array Bool) : Prop := ∀ i o, ops[i]? = some o → listed.getD i true = true → ∀ e ∈ o.after, Region.binds .any e = true → listed.getD e.on false = true

theorem waits_unlisted {listed : Array Bool} (hs : Shut ops listed) (hsz : listed.size = ops.size) : ∀ (f i j : Nat), waits ops f i j = true → listed.getD j true = false → i ∉ Region.ready .any ops listed ∧ listed.getD i true = false ∨ i ∉ Region.ready .any ops listed := by
  have base : ∀ i j, direct ops i j = true → listed.getD j true = false → (∃ o, ops[i]? = some o ∧ ∃ e ∈ o.after, Region.binds .any e = true ∧ listed.getD e.on false = false) := by
    intro i j hd hj
    unfold direct at hd
    split at hd
    · rename_i o ho
      obtain ⟨e, he, hq⟩ := Array.any_eq_true'.1 hd
      simp only [Bool.and_eq_true, beq_iff_eq] at hq
      refine ⟨o, ho, e, he, hq.1, ?_⟩
      rw [hq.2]
      rcases Nat.lt_or_ge j listed.size with hl | hl
      · simp only [Array.getD_eq_getD_getElem?, Array.getElem?_eq_getElem hl, Option.getD_some] at hj ⊢; exact hj
      · simp only [Array.getD_eq_getD_getElem?, Array.getElem?_eq_none hl, Option.getD_none] at hj ⊢
    · cases hd
  have key : ∀ (f i j : Nat), waits ops f i j = true → listed.getD j true = false → (∃ o, ops[i]? = some o ∧ ∃ e ∈ o.after, Region.binds .any e = true ∧ listed.getD e.on false = false) := by
    intro f
    induction f with
    | zero => exact base
    | succ f ih =>
      intro i j hw hj
      simp only [waits, Bool.or_eq_true] at hw
      rcases hw with hw | hw
      · exact base i j hw hj
      · split at hw
        · rename_i o ho
          obtain ⟨e, he, hq⟩ := Array.any_eq_true'.1 hw
          simp only [Bool.and_eq_true] at hq
          obtain ⟨o', ho', e', he', hb', hl'⟩ := ih e.on j hq.2 hj
          refine ⟨o, ho, e, he, hq.1, ?_⟩
          cases hc : listed.getD e.on false with
          | false => rfl
          | true =>
            have hlt : e.on < listed.size := by
              rcases Nat.lt_or_ge e.on listed.size with hl | hl
              · exact hl
              · simp [Array.getD_eq_getD_getElem?, Array.getElem?_eq_none hl] at hc
            have hc' : listed.getD e.on true = true := by
              simp only [Array.getD_eq_getD_getElem?, Array.getElem?_eq_getElem hlt, Option.getD_some] at hc ⊢; exact hc
            rw [hs e.on o' ho' hc' e' he' hb'] at hl'
            cases hl'
        · cases hw
  intro f i j hw hj
  refine .inr fun hr => ?_
  obtain ⟨o, ho, e, he, hb, hl⟩ := key f i j hw hj
  obtain ⟨_, o', ho', hall⟩ := mem_ready.1 hr
  rw [ho] at ho'
  cases ho'
  rw [hall e he hb] at hl
  cases hl

theorem textOk_split : ∀ {xs ys : List Nat} {i : Nat}, textOk P ops (xs ++ i :: ys) = true → ∀ j ∈ xs, (waits ops ops.size i j || match ops[i]?, ops[j]? with
    | some oi, some oj => swapOk P ops oj oi
    | _, _ => false) = true
  | j :: xs, ys, i, h, k, hk => by
    simp only [List.cons_append, textOk, Bool.and_eq_true] at h
    rcases List.mem_cons.1 hk with rfl | hk
    · exact List.all_eq_true.1 h.1.2 i (by simp)
    · exact textOk_split h.2 k hk
theorem textOk_drop : ∀ {xs ys : List Nat} {i : Nat}, textOk P ops (xs ++ i :: ys) = true → textOk P ops (xs ++ ys) = true
  | [], ys, i, h => by simp only [List.nil_append, textOk, Bool.and_eq_true] at h; exact h.2
  | j :: xs, ys, i, h => by
    simp only [List.cons_append, textOk, Bool.and_eq_true] at h ⊢
    refine ⟨⟨?_, List.all_eq_true.2 fun k hk => List.all_eq_true.1 h.1.2 k ?_⟩, textOk_drop h.2⟩
    · have h0 := h.1.1
      split
      · rename_i o ho
        rw [ho] at h0
        simp only [Array.all_eq_true_iff_forall_mem, Bool.or_eq_true, Bool.not_eq_true', Bool.and_eq_true, decide_eq_true_eq] at h0 ⊢
        intro e he
        rcases h0 e he with hb | ⟨hb, hc⟩
        · exact .inl hb
        · refine .inr ⟨hb, ?_⟩
          simp only [List.contains_eq_mem, decide_eq_false_iff_not, List.mem_cons, List.mem_append, not_or] at hc ⊢
          exact ⟨hc.1, hc.2.1, hc.2.2.2⟩
      · rename_i ho
        rw [ho] at h0; cases h0
    · rcases List.mem_append.1 hk with hk | hk
      · exact List.mem_append_left _ hk
      · exact List.mem_append_right _ (List.mem_cons_of_mem _ hk)

theorem getD_lt {l : Array Bool} {i : Nat} (h : i < l.size) (a b : Bool) : l.getD i a = l.getD i b := by
  simp only [Array.getD_eq_getD_getElem?, Array.getElem?_eq_getElem h, Option.getD_some]

theorem AAny_text {Q : Fr → Heap → Prop} : ∀ (fuel : Nat) (listed : Array Bool) (l : List Nat), l.length ≤ fuel → listed.size = ops.size → Shut ops listed → (∀ i, i ∈ l ↔ (i < ops.size ∧ listed.getD i true = false)) → l.Nodup →
    textOk P ops l = true → ∀ (fr : Fr) (h : Heap), AList P ops Q l fr h → AAny P ops Q fuel listed fr h := by
  have none_ : ∀ (listed : Array Bool), (∀ i, i ∈ ([] : List Nat) ↔ (i < ops.size ∧ listed.getD i true = false)) → Region.ready .any ops listed = [] := by
    intro listed hm
    refine List.eq_nil_iff_forall_not_mem.2 fun i hi => ?_
    obtain ⟨h1, o, h2, _⟩ := mem_ready.1 hi
    have := (hm i).2 ⟨(Array.getElem?_eq_some_iff.1 h2).1, h1⟩
    cases this
  intro fuel
  induction fuel with
  | zero =>
    intro listed l hl hsz hsh hm hn ht fr h q
    have : l = [] := List.length_eq_zero_iff.1 (by omega)
    subst this
    exact ⟨none_ listed hm, q⟩
  | succ fuel ih =>
    intro listed l hl hsz hsh hm hn ht fr h q
    cases l with
    | nil => exact ⟨fun _ => q, fun i hi => by rw [none_ listed hm] at hi; cases hi⟩
    | cons j r =>
      have hjr : j ∈ Region.ready .any ops listed := by
        obtain ⟨h1, h2⟩ := (hm j).1 List.mem_cons_self
        refine mem_ready.2 ⟨h2, ops[j], Array.getElem?_eq_getElem h1, fun e he hb => ?_⟩
        simp only [textOk, Bool.and_eq_true] at ht
        have h3 := ht.1.1
        rw [Array.getElem?_eq_getElem h1] at h3
        simp only [Array.all_eq_true_iff_forall_mem, Bool.or_eq_true, Bool.not_eq_true', Bool.and_eq_true, decide_eq_true_eq] at h3
        rcases h3 e he with h4 | ⟨h4, h5⟩
        · rw [hb] at h4; cases h4
        · have h6 : e.on ∉ j :: r := by simpa [List.contains_eq_mem] using h5
          cases hc : listed.getD e.on false with
          | true => rfl
          | false => exact absurd ((hm e.on).2 ⟨h4, by rw [getD_lt (by omega) true false]; exact hc⟩) h6
      refine ⟨fun e => (by rw [e] at hjr; cases hjr), fun i hi => ?_⟩
      obtain ⟨h1, oi, h2, hall⟩ := mem_ready.1 hi
      have hlt : i < ops.size := (Array.getElem?_eq_some_iff.1 h2).1
      have hil : i ∈ j :: r := (hm i).2 ⟨hlt, h1⟩
      obtain ⟨xs, ys, hxy⟩ := List.append_of_mem hil
      rw [hxy] at q ht hn hl hm
      have hnd := List.nodup_append.1 hn
      have hpre : ∀ k ∈ xs, ∃ ok, ops[k]? = some ok ∧ swapOk P ops ok oi = true := by
        intro k hk
        obtain ⟨hk1, hk2⟩ := (hm k).1 (List.mem_append_left _ hk)
        refine ⟨ops[k], Array.getElem?_eq_getElem hk1, ?_⟩
        have := textOk_split ht k hk
        rw [h2, Array.getElem?_eq_getElem hk1] at this
        simp only [Bool.or_eq_true] at this
        rcases this with hw | hw
        · rcases waits_unlisted hsh hsz _ i k hw hk2 with hx | hx
          · exact absurd hi hx.1
          · exact absurd hi hx
        · exact hw
      refine AAt_mono (fun fr h q => ?_) (bubble h2 xs ys fr h hpre q)
      have hii : i ∉ xs ++ ys := by
        intro hq
        rcases List.mem_append.1 hq with hq | hq
        · exact hnd.2.2 i hq i List.mem_cons_self rfl
        · exact (List.nodup_cons.1 hnd.2.1).1 hq
      have hset : ∀ k b, k ≠ i → (listed.setIfInBounds i true).getD k b = listed.getD k b := fun k b hk => getD_set_ne b (Ne.symm hk)
      have hsame : ∀ b, (listed.setIfInBounds i true).getD i b = true := fun b => by
        simp [Array.getD_eq_getD_getElem?, hsz, hlt]
      refine ih (listed.setIfInBounds i true) (xs ++ ys) (by simp at hl ⊢; omega) (by simp [hsz]) ?_ ?_ ?_ (textOk_drop ht) fr h q
      · intro k o ho hk e he hb
        by_cases hki : k = i
        · subst hki
          rw [h2] at ho; cases ho
          exact getD_set_true (hall e he hb)
        · rw [hset k true hki] at hk
          exact getD_set_true (hsh k o ho hk e he hb)
      · intro k
        by_cases hki : k = i
        · subst hki
          rw [hsame]
          exact ⟨fun q => absurd q hii, fun q => by cases q.2⟩
        · rw [hset k true hki, ← hm k]
          simp [hki]
      · exact List.nodup_append.2 ⟨hnd.1, (List.nodup_cons.1 hnd.2.1).2, fun a ha b hb => hnd.2.2 a ha b (List.mem_cons_of_mem _ hb)⟩

theorem AOps_list {Q : Fr → Heap → Prop} : ∀ (l : List Oper) (k : Nat) (fr : Fr) (h : Heap), ops.toList.drop k = l → AOps P ops Q l fr h → AList P ops Q (List.range' k l.length) fr h
  | [], k, fr, h, _, q => q
  | o :: l, k, fr, h, hd, q => by
    have hk : ops[k]? = some o := by
      have := congrArg (fun l => l[0]?) hd
      simpa using this
    have hrest : ops.toList.drop (k + 1) = l := by
      have := congrArg List.tail hd
      simpa using this
    show AAt P ops k (AList P ops Q (List.range' (k + 1) l.length)) fr h
    unfold AAt AStep
    rw [hk]
    simp only [AOps] at q ⊢
    split
    · rename_i hw; rw [if_pos hw] at q; exact AOp_mono (fun fr h q => AOps_list l (k + 1) fr h hrest q) q
    · rename_i hw; rw [if_neg hw] at q; exact AOps_list l (k + 1) _ _ hrest q

/-- The remaining operations of a region that draws, in the text's order. -/
theorem AAny_start {Q : Fr → Heap → Prop} {fr : Fr} {h : Heap} (ht : textOk P ops (List.range ops.size) = true) (q : AOps P ops Q ops.toList fr h) : AAny P ops Q ops.size (Array.replicate ops.size false) fr h := by
  refine AAny_text ops.size _ (List.range ops.size) (by simp) (by simp) ?_ ?_ List.nodup_range ht fr h ?_
  · intro i o ho hl
    have hlt := (Array.getElem?_eq_some_iff.1 ho).1
    simp [Array.getD_eq_getD_getElem?, hlt] at hl
  · intro i
    simp only [List.mem_range]
    constructor
    · intro hi; exact ⟨hi, by simp [Array.getD_eq_getD_getElem?, hi]⟩
    · exact fun q => q.1
  · have := AOps_list (Q := Q) ops.toList 0 fr h (by simp) q
    simpa [List.range_eq_range'] using this

theorem AAny_order {Q : Fr → Heap → Prop} {fr : Fr} {h : Heap} {l : List Nat} (hl : l.length ≤ ops.size) (hm : ∀ i, i ∈ l ↔ i < ops.size) (hn : l.Nodup) (ht : textOk P ops l = true) (q : AList P ops Q l fr h) : AAny P ops Q ops.size (Array.replicate ops.size false) fr h := by
  refine AAny_text ops.size _ l hl (by simp) ?_ ?_ hn ht fr h q
  · intro i o ho hl
    have hlt := (Array.getElem?_eq_some_iff.1 ho).1
    simp [Array.getD_eq_getD_getElem?, hlt] at hl
  · intro i
    rw [hm i]
    constructor
    · intro hi; exact ⟨hi, by simp [Array.getD_eq_getD_getElem?, hi]⟩
    · exact fun q => q.1

theorem AW_region_order {N : Nat} {Q : Exit → Fr → Heap → Prop} {fr : Fr} {h : Heap} {id : Nat} {l : List Nat} (hmix : P.follows .mixedOrders = true) (hok : opsOk N ops.toList = true)
    (hl : l.length ≤ ops.size) (hm : ∀ i, i ∈ l ↔ i < ops.size) (hn : l.Nodup) (ht : textOk P ops l = true) (q : AList P ops (Q .normal) l fr h) : AW P N (.region id ops true) Q fr h := AW_region_any hmix hok (AAny_order hl hm hn ht q)

theorem AW_region_text {N : Nat} {Q : Exit → Fr → Heap → Prop} {fr : Fr} {h : Heap} {id : Nat} (hm : P.follows .mixedOrders = true) (hok : opsOk N ops.toList = true) (ht : textOk P ops (List.range ops.size) = true)
    (q : AOps P ops (Q .normal) ops.toList fr h) : AW P N (.region id ops true) Q fr h := AW_region_any hm hok (AAny_start ht q)

/-- A scope through which nothing jumps. -/
@[reducible] def AScope (Q : Exit → Fr → Heap → Prop) : Exit → Fr → Heap → Prop
  | .goto _ => fun _ _ => False
  | e => Q e

theorem stepR_scope {P : Program} {b : Frame} {a : Act} {k : List Item} {cs : List Frame} {w : World} {c : Code} : step P (lone (b.atR a (.code (.scope c) :: k)) cs w) = .next (lone (b.atR a (.code c :: .inScope c :: k)) cs w) :=
  step_lone_go (by simp [stepG, stepG.exec, Frame.atR])
theorem stepR_inScope {P : Program} {b : Frame} {a : Act} {k : List Item} {cs : List Frame} {w : World} {c : Code} : step P (lone (b.atR a (.inScope c :: k)) cs w) = .next (lone (b.atR a k) cs w) :=
  step_lone_go (by simp [stepG, stepG.exec, Frame.atR])

/-- What is asked behind a scope through which nothing jumps. -/
def ngoto (Q : Exit → Act → World → Prop) : Exit → Act → World → Prop
  | .goto _, _, _ => False
  | e, a, w => Q e a w

theorem wpIn_scope {P : Program} {F : Fence} {n : Nat} {Q : Exit → Act → World → Prop} {a : Act} {w : World} {c : Code} (h : c.wpIn F n P (ngoto Q) a w) : (Code.scope c).wpIn F n P Q a w := by
  intro b k cs hro hb hr
  have h0 : (lone (b.atR a (.code (.scope c) :: k)) cs w).fenced P F := fenced_calm hb hr rfl
  obtain ⟨e, a₁, w₁, hq, harr⟩ := h b (.inScope c :: k) cs hro hb hr
  cases e with
  | normal => exact ⟨.normal, a₁, w₁, hq, .head h0 stepR_scope (StepsIn.trans harr (.one (fenced_calm hb hr rfl) stepR_inScope))⟩
  | exit id =>
    have hx : exitTo id (.inScope c :: k) = exitTo id k := by simp [exitTo]
    exact ⟨.exit id, a₁, w₁, hq, fun k' hk => .head h0 stepR_scope (harr.1 k' (by rw [hx]; exact hk)), fun hr' hk => let ⟨k₁, h1, h2⟩ := harr.2 hr' (by rw [hx]; exact hk); ⟨k₁, h1, .head h0 stepR_scope h2⟩⟩
  | goto l => exact hq.elim
  | ret => exact ⟨_, a₁, w₁, hq, .of_steps (.one h0 stepR_scope) harr⟩
  | panic ch => exact ⟨_, a₁, w₁, hq, .of_steps (.one h0 stepR_scope) harr⟩
  | outgrown => exact ⟨_, a₁, w₁, hq, .of_steps (.one h0 stepR_scope) harr⟩

theorem AW_scope {P : Program} {N : Nat} {Q : Exit → Fr → Heap → Prop} {fr : Fr} {h : Heap} {c : Code} (q : AW P N c (AScope Q) fr h) : AW P N (.scope c) Q fr h := by
  refine ⟨?_, fun n ro B G w a R F D => wpIn_scope (wpIn_mono (q.sem n ro B G w a R F D) ?_)⟩
  · obtain ⟨e, f, g, z, o⟩ := q.inh
    cases e <;> first | exact ⟨_, f, g, z, o⟩ | exact z.elim
  · rintro e a' w' ⟨o, G', fr', h', q1, q2⟩
    cases e <;> first | exact ⟨o, G', fr', h', q1, q2⟩ | exact q1.elim

end Go.Am
