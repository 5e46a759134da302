/- An order that stands for all orders of a region that draws. -/
import Derived.Test.YtodmfjhjaegoeaaGreatDoorAmDraw
set_option linter.unusedVariables false
set_option linter.unusedSimpArgs false
namespace Go.Am
variable {P : Program} {ops : Array Oper}

/-! ### Reads go on beside a new row -/
theorem get_new {h : Heap} {i : Nat} {o : AObj} {cells : List Value} {t : TypeId} (hi : h[i]? = some o) : (aNew h cells t)[i]? = some o := by
  unfold aNew
  rw [List.getElem?_append_left (List.getElem?_eq_some_iff.1 hi).1]; exact hi
theorem rowAt_new {h : Heap} {a : Addr} {n : Nat} {cs cells : List Value} {t : TypeId} (hr : rowAt h a n = some cs) : rowAt (aNew h cells t) a n = some cs := by
  unfold rowAt at hr ⊢
  split at hr <;> (try (cases hr; done))
  rename_i e b he hb
  rw [he, get_new hb]
  exact hr
theorem readOp_new {fr : Fr} {h : Heap} {op : Op} {v : Value} {cells : List Value} {t : TypeId} (hr : readOp P fr h op = some v) : readOp P fr (aNew h cells t) op = some v := by
  cases op <;> simp only [readOp, reduceCtorEq] at hr ⊢
  case load ty x =>
    split at hr <;> (try (cases hr; done))
    rename_i a hx
    unfold aLoad at hr ⊢
    split at hr <;> (try (cases hr; done))
    rename_i hc
    rw [if_pos hc]
    split at hr
    · rename_i hg
      rw [if_pos hg]
      obtain ⟨cs, h1, rfl⟩ := Option.map_eq_some_iff.1 hr
      rw [rowAt_new h1]; rfl
    · rename_i hg
      rw [if_neg hg]
      split at hr <;> (try (cases hr; done))
      rename_i u hu
      rw [rowAt_new hu]
      exact hr
  case convert s d x =>
    obtain ⟨u, hu, hr⟩ := Option.bind_eq_some_iff.1 hr
    rw [hu, Option.bind_some]
    unfold aStrOf at hr ⊢
    split at hr <;> (try (cases hr; done))
    rename_i e hs hd
    split at hr <;> (try (cases hr; done))
    rename_i hb
    rw [if_pos hb]
    split at hr <;> (try (cases hr; done))
    · exact hr
    · rename_i a n c
      split at hr
      · rename_i h0; rw [if_pos h0]; exact hr
      · rename_i h0
        rw [if_neg h0]
        split at hr <;> (try (cases hr; done))
        rename_i cs hcs
        rw [rowAt_new hcs]
        exact hr
  case lookup ty m k ok =>
    split at hr <;> (try (cases hr; done))
    rename_i u u' hx hy
    unfold aLookup at hr ⊢
    split at hr <;> (try (cases hr; done))
    rename_i kt el s hu
    split at hr <;> (try (cases hr; done))
    rename_i hs
    split at hr <;> (try (cases hr; done))
    rename_i es hes
    have : aEntries (aNew h cells t) u = some es := by
      unfold aEntries at hes ⊢
      split at hes <;> (try (cases hes; done))
      · exact hes
      · split at hes <;> (try (cases hes; done))
        rename_i ho
        cases hes
        rw [get_new ho]
    rw [if_pos hs, this]
    exact hr
  case typeAssert x xt u ok => exact hr
  case call c =>
    obtain ⟨callee, args, ts⟩ := c
    cases callee with
    | value f => simp at hr
    | invoke r m => simp at hr
    | builtin b =>
      cases b <;> simp only [reduceCtorEq] at hr ⊢
      split at hr <;> (try (cases hr; done))
      rename_i x ty hx ht
      unfold aLenMap at hr ⊢
      split at hr <;> (try (cases hr; done))
      rename_i hm
      rw [if_pos hm]
      obtain ⟨es, hes, rfl⟩ := Option.map_eq_some_iff.1 hr
      have : aEntries (aNew h cells t) x = some es := by
        unfold aEntries at hes ⊢
        split at hes <;> (try (cases hes; done))
        · exact hes
        · split at hes <;> (try (cases hes; done))
          rename_i ho
          cases hes
          rw [get_new ho]
      rw [this]; rfl
theorem sval_new {o : Oper} {fr : Fr} {h : Heap} {v : Value} {cells : List Value} {t : TypeId} (hv : sval P ops o fr h = some v) : sval P ops o fr (aNew h cells t) = some v := by
  unfold sval oval at hv ⊢
  split at hv
  · rename_i hw
    rw [if_pos hw]
    split at hv
    · rename_i hc; rw [if_pos hc]; exact hv
    · rename_i hc; rw [if_neg hc]; exact readOp_new hv
  · rename_i hw
    rw [if_neg hw]; exact hv

/-! ### Kinds of operations in an order -/
section
variable (P ops) (lts : List Nat)
def dstOf (i : Nat) : Option Tmp := (ops[i]?).bind (·.dst)
def looksOf (i : Nat) : List Tmp := match ops[i]? with
  | some o => o.looksAt ops
  | none => []
def clsOf (i : Nat) : Nat := match ops[i]? with
  | some o => cls P o
  | none => 0
def kV (i : Nat) : Bool := decide (clsOf P ops i ≤ 1) && !lts.contains i
def dyn (j i : Nat) : Bool := clsOf P ops j == 1 && !waits ops ops.size i j
def noClob (k j : Nat) : Bool := match dstOf ops j with
  | some d => !(looksOf ops k).contains d && dstOf ops k != some d
  | none => true
def pairOk (j i : Nat) : Bool := waits ops ops.size i j || ((match ops[j]?, ops[i]? with
  | some oj, some oi => oj.apart ops oi
  | _, _ => false) && (lts.contains i || kV P ops lts j))
def lateOk (i : Nat) : Bool := !lts.contains i || (match ops[i]? with
  | some o => isAlloc o.op && o.guard.isNone
  | none => false)
def selfOk (i : Nat) : Bool := match dstOf ops i with
  | some d => !(looksOf ops i).contains d
  | none => true
def staticOk : List Nat → Bool
  | [] => true
  | j :: r => (match ops[j]? with
    | some o => o.after.all fun e => !Region.binds .any e || (decide (e.on < ops.size) && !(j :: r).contains e.on)
    | none => false) && (selfOk ops j && (lateOk ops lts j && (r.all (fun i => pairOk P ops lts j i && (noClob ops j i && (kV P ops lts j || (!lts.contains i || (List.range ops.size).all fun k => !waits ops ops.size k i || waits ops ops.size k j))))
      && staticOk r)))
end
variable {lts : List Nat}

structure PairOk (P : Program) (ops : Array Oper) (lts : List Nat) (j i : Nat) : Prop where
  pair : pairOk P ops lts j i = true
  clob : noClob ops j i = true
  late : kV P ops lts j = false → lts.contains i = true → ∀ k, k < ops.size → waits ops ops.size k i = true → waits ops ops.size k j = true

structure OneOk (ops : Array Oper) (lts : List Nat) (j : Nat) : Prop where
  self : selfOk ops j = true
  late : lateOk ops lts j = true

theorem staticOk_cons {j : Nat} {r : List Nat} (h : staticOk P ops lts (j :: r) = true) : (∃ o, ops[j]? = some o ∧ ∀ e ∈ o.after, Region.binds .any e = true → e.on < ops.size ∧ e.on ∉ j :: r) ∧ OneOk ops lts j ∧ (∀ i ∈ r, PairOk P ops lts j i) ∧ staticOk P ops lts r = true := by
  simp only [staticOk, Bool.and_eq_true, List.all_eq_true] at h
  obtain ⟨h1, h2, h3, h4, h5⟩ := h
  refine ⟨?_, ⟨h2, h3⟩, fun i hi => ?_, h5⟩
  · split at h1
    · rename_i o ho
      refine ⟨o, ho, fun e he hb => ?_⟩
      have := Array.all_eq_true_iff_forall_mem.1 h1 e he
      simp only [hb, Bool.not_true, Bool.false_or, Bool.and_eq_true, decide_eq_true_eq, Bool.not_eq_true', List.contains_eq_mem, decide_eq_false_iff_not] at this
      exact this
    · cases h1
  · obtain ⟨p1, p2, p3⟩ := h4 i hi
    refine ⟨p1, p2, fun q1 q2 k hk hw => ?_⟩
    rw [q1, q2] at p3
    simp only [Bool.false_or, Bool.not_true, List.all_eq_true, List.mem_range] at p3
    have := p3 k hk
    rw [hw] at this
    simpa using this

theorem staticOk_split : ∀ {xs ys : List Nat} {i : Nat}, staticOk P ops lts (xs ++ i :: ys) = true → (∀ j ∈ xs, PairOk P ops lts j i) ∧ OneOk ops lts i
  | [], ys, i, h => ⟨fun j hj => (by cases hj), (staticOk_cons h).2.1⟩
  | j :: xs, ys, i, h => by
    obtain ⟨_, _, h3, h4⟩ := staticOk_cons (r := xs ++ i :: ys) h
    obtain ⟨k1, k2⟩ := staticOk_split h4
    refine ⟨fun k hk => ?_, k2⟩
    rcases List.mem_cons.1 hk with rfl | hk
    · exact h3 i (by simp)
    · exact k1 k hk
theorem staticOk_drop : ∀ {xs ys : List Nat} {i : Nat}, staticOk P ops lts (xs ++ i :: ys) = true → staticOk P ops lts (xs ++ ys) = true
  | [], ys, i, h => (staticOk_cons h).2.2.2
  | j :: xs, ys, i, h => by
    simp only [List.cons_append, staticOk, Bool.and_eq_true, List.all_eq_true] at h ⊢
    obtain ⟨h1, h2, h3, h4, h5⟩ := h
    refine ⟨?_, h2, h3, fun k hk => h4 k ?_, staticOk_drop h5⟩
    · split
      · rename_i o ho
        rw [ho] at h1
        simp only [Array.all_eq_true_iff_forall_mem, Bool.or_eq_true, Bool.not_eq_true', Bool.and_eq_true, decide_eq_true_eq, List.contains_eq_mem, decide_eq_false_iff_not, List.mem_cons, List.mem_append, not_or] at h1 ⊢
        intro e he
        rcases h1 e he with hb | ⟨hb, hc⟩
        · exact .inl hb
        · exact .inr ⟨hb, hc.1, hc.2.1, hc.2.2.2⟩
      · rename_i ho
        rw [ho] at h1; cases h1
    · rcases List.mem_append.1 hk with hk | hk
      · exact List.mem_append_left _ hk
      · exact List.mem_append_right _ (List.mem_cons_of_mem _ hk)
theorem staticOk_pairs : ∀ {xs ys : List Nat}, staticOk P ops lts (xs ++ ys) = true → ∀ j ∈ xs, ∀ i ∈ ys, PairOk P ops lts j i
  | [], ys, h, j, hj, i, hi => by cases hj
  | k :: xs, ys, h, j, hj, i, hi => by
    obtain ⟨_, _, h3, h4⟩ := staticOk_cons (r := xs ++ ys) h
    rcases List.mem_cons.1 hj with rfl | hj
    · exact h3 i (List.mem_append_right _ hi)
    · exact staticOk_pairs h4 j hj i hi

/-! ### An order, run, with what must be as it was told where a call stands behind a read -/
def Stable (P : Program) (ops : Array Oper) (prev : List Nat) (i : Nat) (fr : Fr) (h : Heap) : Prop :=
  ∀ j ∈ prev, dyn P ops j i = true → ∃ o u, ops[j]? = some o ∧ sval P ops o fr h = some u ∧ ∀ t, o.dst = some t → fr t = u

def DList (P : Program) (ops : Array Oper) (lts : List Nat) (Q : Fr → Heap → Prop) : List Nat → List Nat → Fr → Heap → Prop
  | [], _ => Q
  | i :: r, prev => if kV P ops lts i = true then AAt P ops i (DList P ops lts Q r (prev ++ [i])) else if lts.contains i = true then AAt P ops i (DList P ops lts Q r prev)
    else AAt P ops i (fun fr h => Stable P ops prev i fr h ∧ DList P ops lts Q r prev fr h)

theorem DList_prev {Q : Fr → Heap → Prop} : ∀ (r : List Nat) {p p' : List Nat} (hp : ∀ i ∈ p', i ∈ p) {fr : Fr} {h : Heap}, DList P ops lts Q r p fr h → DList P ops lts Q r p' fr h
  | [], p, p', hp, fr, h, q => q
  | i :: r, p, p', hp, fr, h, q => by
    unfold DList at q ⊢
    split at q
    · rename_i hv
      rw [if_pos hv]
      exact AAt_mono (fun fr h => DList_prev r (fun j hj => by
        rcases List.mem_append.1 hj with hj | hj
        · exact List.mem_append_left _ (hp j hj)
        · exact List.mem_append_right _ hj)) q
    · rename_i hv
      rw [if_neg hv]
      split at q
      · rename_i hl
        rw [if_pos hl]
        exact AAt_mono (fun fr h => DList_prev r hp) q
      · rename_i hl
        rw [if_neg hl]
        exact AAt_mono (fun fr h q => ⟨fun j hj => q.1 j (hp j hj), DList_prev r hp q.2⟩) q

theorem kV_spec {i : Nat} {o : Oper} (ho : ops[i]? = some o) (h : kV P ops lts i = true) : cls P o ≤ 1 := by
  simp only [kV, clsOf, ho, Bool.and_eq_true, decide_eq_true_eq] at h
  exact h.1
theorem PairOk.apart {j i : Nat} {oj oi : Oper} (q : PairOk P ops lts j i) (hj : ops[j]? = some oj) (hi : ops[i]? = some oi) (hw : waits ops ops.size i j = false) : oj.apart ops oi = true ∧ (lts.contains i = true ∨ kV P ops lts j = true) := by
  have := q.pair
  simp only [pairOk, hw, Bool.false_or, hj, hi, Bool.and_eq_true, Bool.or_eq_true] at this
  exact this

/-- A read and what comes behind it, the other way round, where the read's value stays. -/
theorem AStep_swap_dyn {x y : Oper} (ha : x.apart ops y = true) (hx : cls P x ≤ 1) (hself : ∀ d, x.dst = some d → d ∉ x.looksAt ops) {K : Fr → Heap → Prop} {fr : Fr} {h : Heap}
    (q : AStep P ops x (AStep P ops y (fun fr h => (∃ u, sval P ops x fr h = some u ∧ ∀ t, x.dst = some t → fr t = u) ∧ K fr h)) fr h) : AStep P ops y (AStep P ops x K) fr h := by
  obtain ⟨h1, h2, h3⟩ := Oper.apart_spec ha
  have h2' : ∀ t, y.dst = some t → x.dst ≠ some t := fun t ht hx => h2 t hx ht
  obtain ⟨v, hv, q⟩ := (AStep_value hx).1 q
  refine AStep_congr (ev_put h1) (wantedA_put h1) (fun u h' k => ?_) q
  obtain ⟨⟨u', hu', hd⟩, k⟩ := k
  have e1 : sval P ops x (put (put fr x.dst v) y.dst u) h' = sval P ops x (put fr y.dst u) h' := by
    rw [← put_comm h2']
    exact sval_congr (ev_put hself) (wantedA_put hself)
  rw [e1] at hu'
  refine (AStep_value hx).2 ⟨u', hu', ?_⟩
  rw [put_comm h2']
  cases hxd : x.dst with
  | none => rw [hxd] at k; exact k
  | some t =>
    have e2 := hd t hxd
    rw [hxd] at e2 k
    have e3 : put (put fr (some t) v) y.dst u t = v := by
      rw [put_at (fun e he q => h2 t hxd (by rw [he, q]))]
      simp [put, upd]
    rw [e3] at e2
    subst e2
    exact k

theorem looks_of {i : Nat} {o : Oper} (ho : ops[i]? = some o) : looksOf ops i = o.looksAt ops := by simp [looksOf, ho]
theorem dst_of {i : Nat} {o : Oper} (ho : ops[i]? = some o) : dstOf ops i = o.dst := by simp [dstOf, ho]
theorem noClob_spec {k j : Nat} {ok oj : Oper} (hk : ops[k]? = some ok) (hj : ops[j]? = some oj) (h : noClob ops k j = true) : ∀ d, oj.dst = some d → d ∉ ok.looksAt ops ∧ ok.dst ≠ some d := by
  intro d hd
  simp only [noClob, dst_of hj, hd, looks_of hk, dst_of hk, Bool.and_eq_true, Bool.not_eq_true', List.contains_eq_mem, decide_eq_false_iff_not, bne_iff_ne, ne_eq] at h
  exact h
theorem selfOk_spec {k : Nat} {ok : Oper} (hk : ops[k]? = some ok) (h : selfOk ops k = true) : ∀ d, ok.dst = some d → d ∉ ok.looksAt ops := by
  intro d hd
  simp only [selfOk, dst_of hk, hd, looks_of hk, Bool.not_eq_true', List.contains_eq_mem, decide_eq_false_iff_not] at h
  exact h

theorem AAt_some {i : Nat} {o : Oper} (ho : ops[i]? = some o) {K : Fr → Heap → Prop} {fr : Fr} {h : Heap} : AAt P ops i K fr h = AStep P ops o K fr h := by unfold AAt; rw [ho]

/-- An operation that waits for none of those ahead comes first. -/
theorem bubbleV {Q : Fr → Heap → Prop} {i : Nat} {oi : Oper} (hi : ops[i]? = some oi) (hiv : kV P ops lts i = true) : ∀ (xs ys prev : List Nat) (fr : Fr) (h : Heap),
    (∀ j ∈ xs, (∃ oj, ops[j]? = some oj ∧ oj.apart ops oi = true) ∧ kV P ops lts j = true) → DList P ops lts Q (xs ++ i :: ys) prev fr h → AAt P ops i (DList P ops lts Q (xs ++ ys) prev) fr h
  | [], ys, prev, fr, h, _, q => by
    simp only [List.nil_append, DList, hiv, if_true] at q
    exact AAt_mono (fun fr h => DList_prev ys (fun j hj => List.mem_append_left _ hj)) q
  | j :: xs, ys, prev, fr, h, hs, q => by
    obtain ⟨⟨oj, hj, hap⟩, hjv⟩ := hs j List.mem_cons_self
    simp only [List.cons_append, DList, hjv, if_true] at q
    have q1 := AAt_mono (fun fr h => bubbleV hi hiv xs ys (prev ++ [j]) fr h (fun k hk => hs k (List.mem_cons_of_mem _ hk))) q
    rw [AAt_some hj] at q1
    rw [AAt_some hi]
    have hsw : swapOk P ops oj oi = true := by
      have h1 := kV_spec hj hjv
      have h2 := kV_spec hi hiv
      simp only [swapOk, hap, Bool.true_and, Bool.or_eq_true, Bool.and_eq_true, decide_eq_true_eq]
      exact .inr ⟨h1, h2⟩
    have q2 : AStep P ops oj (AStep P ops oi (DList P ops lts Q (xs ++ ys) (prev ++ [j]))) fr h := AStep_mono (fun fr h k => by rw [AAt_some hi] at k; exact k) q1
    refine AStep_mono (fun fr h k => ?_) (AStep_swap hsw q2)
    simp only [List.cons_append, DList, hjv, if_true]
    rw [AAt_some hj]; exact k

theorem bubbleE {Q : Fr → Heap → Prop} {i : Nat} {oi : Oper} (hi : ops[i]? = some oi) (hiv : kV P ops lts i = false) (hil : lts.contains i = false) : ∀ (xs ys prev : List Nat) (fr : Fr) (h : Heap),
    (∀ j ∈ xs, (∃ oj, ops[j]? = some oj ∧ oj.apart ops oi = true ∧ ∀ d, oj.dst = some d → d ∉ oj.looksAt ops) ∧ kV P ops lts j = true ∧ waits ops ops.size i j = false) →
    (∀ k ∈ prev, ∀ j ∈ xs, ∀ ok oj, ops[k]? = some ok → ops[j]? = some oj → ∀ d, oj.dst = some d → d ∉ ok.looksAt ops ∧ ok.dst ≠ some d) →
    (xs.Pairwise fun k j => ∀ ok oj, ops[k]? = some ok → ops[j]? = some oj → ∀ d, oj.dst = some d → d ∉ ok.looksAt ops ∧ ok.dst ≠ some d) →
    DList P ops lts Q (xs ++ i :: ys) prev fr h → AAt P ops i (fun fr h => Stable P ops prev i fr h ∧ DList P ops lts Q (xs ++ ys) prev fr h) fr h
  | [], ys, prev, fr, h, _, _, _, q => by
    simp only [List.nil_append, DList, hiv, Bool.false_eq_true, if_false, hil] at q
    exact q
  | j :: xs, ys, prev, fr, h, hs, hp, hpw, q => by
    obtain ⟨⟨oj, hj, hap, hself⟩, hjv, hjw⟩ := hs j List.mem_cons_self
    obtain ⟨pw1, pw2⟩ := List.pairwise_cons.1 hpw
    simp only [List.cons_append, DList, hjv, if_true] at q
    have q1 := AAt_mono (fun fr h => bubbleE hi hiv hil xs ys (prev ++ [j]) fr h (fun k hk => hs k (List.mem_cons_of_mem _ hk)) (fun k hk m hm => by
      rcases List.mem_append.1 hk with hk | hk
      · exact hp k hk m (List.mem_cons_of_mem _ hm)
      · rw [List.mem_singleton.1 hk]; exact pw1 m hm) pw2) q
    rw [AAt_some hj] at q1
    rw [AAt_some hi]
    have hjc := kV_spec hj hjv
    -- the read's value stays
    have fin : ∀ (fr : Fr) (h : Heap), AStep P ops oj (fun fr h => Stable P ops (prev ++ [j]) i fr h ∧ DList P ops lts Q (xs ++ ys) (prev ++ [j]) fr h) fr h → Stable P ops prev i fr h ∧ DList P ops lts Q (j :: xs ++ ys) prev fr h := by
      intro fr h k
      obtain ⟨u, hu, k1, k2⟩ := (AStep_value hjc).1 k
      refine ⟨fun m hm hd => ?_, ?_⟩
      · obtain ⟨om, w, e1, e2, e3⟩ := k1 m (List.mem_append_left _ hm) hd
        have hcl := hp m hm j List.mem_cons_self om oj e1 hj
        refine ⟨om, w, e1, ?_, fun t ht => ?_⟩
        · rw [← e2]
          exact (sval_congr (ev_put (fun d hd => (hcl d hd).1)) (wantedA_put (fun d hd => (hcl d hd).1))).symm
        · rw [← e3 t ht]
          exact (put_at (fun e he q => (hcl e he).2 (by rw [ht, q]))).symm
      · simp only [List.cons_append, DList, hjv, if_true]
        rw [AAt_some hj]
        exact (AStep_value hjc).2 ⟨u, hu, k2⟩
    by_cases hc0 : cls P oj = 0
    · have hsw : swapOk P ops oj oi = true := by
        simp only [swapOk, hap, hc0, Bool.true_and, Bool.or_eq_true, beq_iff_eq]
        exact .inl (.inl trivial)
      have q2 : AStep P ops oj (AStep P ops oi (fun fr h => Stable P ops (prev ++ [j]) i fr h ∧ DList P ops lts Q (xs ++ ys) (prev ++ [j]) fr h)) fr h := AStep_mono (fun fr h k => by rw [AAt_some hi] at k; exact k) q1
      exact AStep_mono fin (AStep_swap hsw q2)
    · have hdyn : dyn P ops j i = true := by
        have : clsOf P ops j = 1 := by simp only [clsOf, hj]; omega
        simp [dyn, this, hjw]
      have q2 : AStep P ops oj (AStep P ops oi (fun fr h => (∃ u, sval P ops oj fr h = some u ∧ ∀ t, oj.dst = some t → fr t = u) ∧ (Stable P ops (prev ++ [j]) i fr h ∧ DList P ops lts Q (xs ++ ys) (prev ++ [j]) fr h))) fr h :=
        AStep_mono (fun fr h k => by
          rw [AAt_some hi] at k
          refine AStep_mono (fun fr h k => ⟨?_, k⟩) k
          obtain ⟨o, u, e1, e2, e3⟩ := k.1 j (List.mem_append_right _ (by simp)) hdyn
          rw [hj] at e1; cases e1
          exact ⟨u, e2, e3⟩) q1
      exact AStep_mono fin (AStep_swap_dyn hap hjc hself q2)

/-- A row is taken in ahead of reads. -/
theorem AStep_late {o : Oper} (ha : isAlloc o.op = true) (hg : o.guard = none) {K : Fr → Heap → Prop} {fr : Fr} {h : Heap} (q : AStep P ops o K fr h) :
    ∃ cells t val, allocOp P fr o.op = some (cells, t, val) ∧ K (put fr o.dst (val h.length)) (aNew h cells t) := by
  have hw : wantedA ops fr o = true := by simp [wantedA, hg]
  unfold AStep at q
  rw [if_pos hw] at q
  unfold AOp at q
  cases ho : o.op <;> rw [ho] at ha q <;> simp only [isAlloc, reduceCtorEq] at ha <;> simp only at q
  all_goals
    obtain ⟨⟨v, h'⟩, he, k⟩ := optE_false.1 q
    obtain ⟨cells, t, val, h1, rfl, rfl⟩ := allocOp_eff (by rfl) he
    exact ⟨cells, t, val, h1, k⟩

theorem commit {Q : Fr → Heap → Prop} {i : Nat} {oi : Oper} (hi : ops[i]? = some oi) (hiv : kV P ops lts i = false) (hil : lts.contains i = true) (ha : isAlloc oi.op = true) (hg : oi.guard = none) : ∀ (xs ys prev : List Nat) (fr : Fr) (h : Heap),
    (∀ j ∈ xs, (∃ oj, ops[j]? = some oj ∧ oj.apart ops oi = true) ∧ kV P ops lts j = true) → DList P ops lts Q (xs ++ i :: ys) prev fr h →
    ∃ cells t val, allocOp P fr oi.op = some (cells, t, val) ∧ DList P ops lts Q (xs ++ ys) prev (put fr oi.dst (val h.length)) (aNew h cells t)
  | [], ys, prev, fr, h, _, q => by
    simp only [List.nil_append, DList, hiv, Bool.false_eq_true, if_false, hil, if_true] at q
    rw [AAt_some hi] at q
    exact AStep_late ha hg q
  | j :: xs, ys, prev, fr, h, hs, q => by
    obtain ⟨⟨oj, hj, hap⟩, hjv⟩ := hs j List.mem_cons_self
    obtain ⟨h1, h2, h3⟩ := Oper.apart_spec hap
    have h2' : ∀ t, oi.dst = some t → oj.dst ≠ some t := fun t ht hx => h2 t hx ht
    have hjc := kV_spec hj hjv
    simp only [List.cons_append, DList, hjv, if_true] at q
    rw [AAt_some hj] at q
    obtain ⟨v, hv, q⟩ := (AStep_value hjc).1 q
    obtain ⟨cells, t, val, e1, e2⟩ := commit hi hiv hil ha hg xs ys (prev ++ [j]) _ h (fun k hk => hs k (List.mem_cons_of_mem _ hk)) q
    refine ⟨cells, t, val, by rw [← e1]; exact (allocOp_congr (ev_put h1)).symm, ?_⟩
    simp only [List.cons_append, DList, hjv, if_true]
    rw [AAt_some hj]
    refine (AStep_value hjc).2 ⟨v, ?_, ?_⟩
    · rw [sval_congr (ev_put h3) (wantedA_put h3)]; exact sval_new hv
    · rw [put_comm h2']; exact e2

/-- What an operation of an order is met with: a frame that differs at most where those ahead have written. -/
theorem DList_reach {Q : Fr → Heap → Prop} : ∀ (xs : List Nat) {i : Nat} {ys prev : List Nat} {fr : Fr} {h : Heap}, DList P ops lts Q (xs ++ i :: ys) prev fr h → ∃ prev' fr' h', DList P ops lts Q (i :: ys) prev' fr' h' ∧ ∀ t, (∀ j ∈ xs, dstOf ops j ≠ some t) → fr' t = fr t
  | [], i, ys, prev, fr, h, q => ⟨prev, fr, h, q, fun _ _ => rfl⟩
  | j :: xs, i, ys, prev, fr, h, q => by
    have step : ∀ K : Fr → Heap → Prop, (∀ fr h, K fr h → ∃ prev', DList P ops lts Q (xs ++ i :: ys) prev' fr h) → AAt P ops j K fr h → ∃ prev' fr' h', DList P ops lts Q (i :: ys) prev' fr' h' ∧ ∀ t, (∀ k ∈ j :: xs, dstOf ops k ≠ some t) → fr' t = fr t := by
      intro K hK q
      unfold AAt at q
      split at q
      · rename_i hn
        obtain ⟨p, q⟩ := hK _ _ q
        obtain ⟨p', fr', h', e1, e2⟩ := DList_reach xs q
        exact ⟨p', fr', h', e1, fun t ht => e2 t fun k hk => ht k (List.mem_cons_of_mem _ hk)⟩
      · rename_i o ho
        obtain ⟨v, h₁, q⟩ := AStep_inh q
        obtain ⟨p, q⟩ := hK _ _ q
        obtain ⟨p', fr', h', e1, e2⟩ := DList_reach xs q
        refine ⟨p', fr', h', e1, fun t ht => ?_⟩
        rw [e2 t fun k hk => ht k (List.mem_cons_of_mem _ hk)]
        exact put_at (fun e he q => ht j List.mem_cons_self (by rw [dst_of ho, he, q]))
    simp only [List.cons_append, DList] at q
    split at q
    · exact step _ (fun fr h k => ⟨_, k⟩) q
    · split at q
      · exact step _ (fun fr h k => ⟨_, k⟩) q
      · exact step _ (fun fr h k => ⟨_, k.2⟩) q

/-! ### All orders -/
def heldOf (P : Program) (ops : Array Oper) (fr : Fr) (i : Nat) : Hd := match ops[i]? with
  | some o => match allocOp P fr o.op with
    | some (cells, t, val) => ⟨o.dst, cells, t, val⟩
    | none => ⟨o.dst, [], 0, fun _ => undef⟩
  | none => ⟨none, [], 0, fun _ => undef⟩
def mask (ops : Array Oper) (hl : List Nat) (fr : Fr) : Fr := fun t => if hl.any (fun i => dstOf ops i == some t) then topV else fr t

theorem mask_ne {hl : List Nat} {fr : Fr} {t : Tmp} (h : ∀ i ∈ hl, dstOf ops i ≠ some t) : mask ops hl fr t = fr t := by
  unfold mask
  rw [if_neg]
  simp only [List.any_eq_true, beq_iff_eq, not_exists, not_and]
  exact h
theorem mask_hold {hl : List Nat} {fr : Fr} {i : Nat} {o : Oper} (ho : ops[i]? = some o) : put (mask ops hl fr) o.dst topV = mask ops (hl ++ [i]) fr := by
  funext t
  cases hd : o.dst with
  | none =>
    simp only [put, mask, List.any_append, List.any_cons, List.any_nil, Bool.or_false, dst_of ho, hd]
    simp
  | some d =>
    simp only [put, upd, mask, List.any_append, List.any_cons, List.any_nil, Bool.or_false, dst_of ho, hd]
    by_cases ht : t = d
    · subst ht; simp
    · have : (some d == some t) = false := by simp [Ne.symm ht]
      rw [if_neg ht, this, Bool.or_false]
theorem mask_put {hl : List Nat} {fr : Fr} {d : Option Tmp} {v : Value} (h : ∀ t, d = some t → ∀ i ∈ hl, dstOf ops i ≠ some t) : put (mask ops hl fr) d v = mask ops hl (put fr d v) := by
  funext t
  cases d with
  | none => rfl
  | some d =>
    simp only [put, upd]
    by_cases ht : t = d
    · subst ht; rw [if_pos rfl, mask_ne (h t rfl)]; simp [upd]
    · rw [if_neg ht]
      unfold mask
      simp [ht, upd]

theorem first_held {hl : List Nat} : ∀ {r : List Nat}, (∃ x ∈ r, x ∈ hl) → ∃ vs x ws, r = vs ++ x :: ws ∧ x ∈ hl ∧ ∀ v ∈ vs, v ∉ hl
  | [], ⟨x, hx, _⟩ => by cases hx
  | a :: r, ⟨x, hx, hxl⟩ => by
    by_cases ha : a ∈ hl
    · exact ⟨[], a, r, rfl, ha, fun v hv => by cases hv⟩
    · have hx' : x ∈ r := by
        rcases List.mem_cons.1 hx with rfl | h
        · exact absurd hxl ha
        · exact h
      obtain ⟨vs, y, ws, h1, h2, h3⟩ := first_held ⟨x, hx', hxl⟩
      refine ⟨a :: vs, y, ws, by rw [h1]; rfl, h2, fun v hv => ?_⟩
      rcases List.mem_cons.1 hv with rfl | hv
      · exact ha
      · exact h3 v hv

/-- The state in which the orders are gone through. -/
structure Inv (P : Program) (ops : Array Oper) (lts : List Nat) (Q : Fr → Heap → Prop) (listed : Array Bool) (r hl : List Nat) (fr : Fr) (h : Heap) : Prop where
  size : listed.size = ops.size
  shut : Shut ops listed
  mem : ∀ i, (i < ops.size ∧ listed.getD i true = false) ↔ (i ∈ r ∧ i ∉ hl)
  nodup : r.Nodup
  hnodup : hl.Nodup
  hmem : ∀ i ∈ hl, i ∈ r ∧ lts.contains i = true
  lt : ∀ i ∈ r, i < ops.size
  ok : staticOk P ops lts r = true
  alloc : ∀ i ∈ hl, ∃ o x, ops[i]? = some o ∧ allocOp P fr o.op = some x
  free : ∀ i ∈ hl, ∀ j ∈ r, j ≠ i → waits ops ops.size i j = false
  list : DList P ops lts Q r [] fr h

theorem Inv.listed_of {Q : Fr → Heap → Prop} {listed : Array Bool} {r hl : List Nat} {fr : Fr} {h : Heap} (I : Inv P ops lts Q listed r hl fr h) {i : Nat} (hi : i < ops.size) (hq : i ∉ r ∨ i ∈ hl) : listed.getD i true = true := by
  cases hc : listed.getD i true with
  | true => rfl
  | false =>
    obtain ⟨h1, h2⟩ := (I.mem i).1 ⟨hi, hc⟩
    rcases hq with hq | hq
    · exact absurd h1 hq
    · exact absurd hq h2

theorem waits_down {listed : Array Bool} (hs : Shut ops listed) (hsz : listed.size = ops.size) : ∀ (f i j : Nat), waits ops f i j = true → j < ops.size → (∀ o, ops[i]? = some o → ∀ e ∈ o.after, Region.binds .any e = true → listed.getD e.on false = true) → listed.getD j true = true := by
  have d2 : ∀ i j, direct ops i j = true → j < ops.size → (∀ o, ops[i]? = some o → ∀ e ∈ o.after, Region.binds .any e = true → listed.getD e.on false = true) → listed.getD j true = true := by
    intro i j hd hj hall
    unfold direct at hd
    split at hd
    · rename_i o ho
      obtain ⟨e, he, hq⟩ := Array.any_eq_true'.1 hd
      simp only [Bool.and_eq_true, beq_iff_eq] at hq
      have := hall o ho e he hq.1
      rw [hq.2] at this
      rw [← getD_lt (by omega) false true]; exact this
    · cases hd
  intro f
  induction f with
  | zero => exact d2
  | succ f ih =>
    intro i j hw hj hall
    simp only [waits, Bool.or_eq_true] at hw
    rcases hw with hw | hw
    · exact d2 i j hw hj hall
    · split at hw
      · rename_i o ho
        obtain ⟨e, he, hq⟩ := Array.any_eq_true'.1 hw
        simp only [Bool.and_eq_true] at hq
        refine ih e.on j hq.2 hj fun o' ho' e' he' hb' => ?_
        have hl := hall o ho e he hq.1
        have hlt : e.on < listed.size := by
          rcases Nat.lt_or_ge e.on listed.size with hl' | hl'
          · exact hl'
          · simp [Array.getD_eq_getD_getElem?, Array.getElem?_eq_none hl'] at hl
        exact hs e.on o' ho' (by rw [getD_lt hlt true false]; exact hl) e' he' hb'
      · cases hw

theorem nodup_len : ∀ {l m : List Nat}, l.Nodup → (∀ i ∈ l, i ∈ m) → l.length ≤ m.length
  | [], m, _, _ => Nat.zero_le _
  | a :: l, m, hn, hs => by
    obtain ⟨n1, n2⟩ := List.nodup_cons.1 hn
    obtain ⟨p, q, hpq⟩ := List.append_of_mem (hs a (by simp))
    have := nodup_len (l := l) (m := p ++ q) n2 (fun i hi => by
      have h1 := hs i (List.mem_cons_of_mem _ hi)
      have h2 : i ≠ a := fun h => n1 (h ▸ hi)
      rw [hpq] at h1
      simpa [h2] using h1)
    rw [hpq]
    simp at this ⊢
    omega

theorem mask_commit {p q : List Nat} {x : Nat} {o : Oper} {fr : Fr} {v : Value} (ho : ops[x]? = some o) (hne : ∀ y ∈ p ++ q, ∀ d, o.dst = some d → dstOf ops y ≠ some d) : put (mask ops (p ++ x :: q) fr) o.dst v = mask ops (p ++ q) (put fr o.dst v) := by
  funext t
  have key : ∀ t, (∀ d, o.dst = some d → d ≠ t) → ((p ++ x :: q).any fun i => dstOf ops i == some t) = ((p ++ q).any fun i => dstOf ops i == some t) := by
    intro t ht
    have : (dstOf ops x == some t) = false := by
      rw [dst_of ho]
      cases hd : o.dst with
      | none => rfl
      | some d => simpa using ht d hd
    simp [List.any_append, List.any_cons, this]
  cases hd : o.dst with
  | none =>
    simp only [put]
    unfold mask
    rw [key t (fun d h => by rw [hd] at h; cases h)]
  | some d =>
    simp only [put, upd]
    by_cases ht : t = d
    · subst ht
      rw [mask_ne (fun y hy => hne y hy t hd)]
      simp [upd]
    · rw [if_neg ht]
      unfold mask
      rw [key t (fun d' h => by rw [hd] at h; cases h; exact Ne.symm ht)]
      simp [upd, ht]

theorem heldOf_eq {fr : Fr} {i : Nat} {o : Oper} {cells : List Value} {t : TypeId} {val : Nat → Value} (ho : ops[i]? = some o) (ha : allocOp P fr o.op = some (cells, t, val)) : heldOf P ops fr i = ⟨o.dst, cells, t, val⟩ := by
  simp [heldOf, ho, ha]
theorem heldOf_d {fr : Fr} {i : Nat} : (heldOf P ops fr i).d = dstOf ops i := by
  unfold heldOf dstOf
  cases ho : ops[i]? with
  | none => rfl
  | some o =>
    simp only [Option.bind_some]
    split <;> rfl
theorem heldOf_put {fr : Fr} {i : Nat} {d : Option Tmp} {v : Value} (h : ∀ e, d = some e → e ∉ looksOf ops i) : heldOf P ops (put fr d v) i = heldOf P ops fr i := by
  unfold heldOf
  cases ho : ops[i]? with
  | none => rfl
  | some o =>
    simp only
    rw [allocOp_congr (ev_put (fun e he => by have := h e he; rw [looks_of ho] at this; exact this))]

theorem ev_mask {hl : List Nat} {fr : Fr} {o : Oper} (h : ∀ i ∈ hl, ∀ d, dstOf ops i = some d → d ∉ o.looksAt ops) : ∀ x ∈ o.op.operands, ev (mask ops hl fr) x = ev fr x := by
  intro x hx
  cases x with
  | tmp t =>
    simp only [ev]
    rw [mask_ne]
    intro i hi hd
    exact h i hi t hd (List.mem_append_left _ (List.mem_filterMap.2 ⟨.tmp t, by simpa using hx, rfl⟩))
  | _ => rfl
theorem wantedA_mask {hl : List Nat} {fr : Fr} {o : Oper} (h : ∀ i ∈ hl, ∀ d, dstOf ops i = some d → d ∉ o.looksAt ops) : wantedA ops (mask ops hl fr) o = wantedA ops fr o := by
  unfold wantedA
  cases hg : o.guard with
  | none => rfl
  | some g =>
    obtain ⟨j, want⟩ := g
    simp only
    congr 1
    unfold ayield
    cases hd : (ops[j]?).bind (·.dst) with
    | none => rfl
    | some e =>
      simp only
      rw [mask_ne]
      intro i hi hdi
      exact h i hi e hdi (List.mem_append_right _ (by rw [hg]; simp [hd]))

theorem Inv.unlisted {Q : Fr → Heap → Prop} {listed : Array Bool} {r hl : List Nat} {fr : Fr} {h : Heap} (I : Inv P ops lts Q listed r hl fr h) {i : Nat} (h1 : i ∈ r) (h2 : i ∉ hl) : listed.getD i true = false := ((I.mem i).2 ⟨h1, h2⟩).2

theorem kV_late {i : Nat} (h : lts.contains i = true) : kV P ops lts i = false := by unfold kV; rw [h]; simp

/-- Rows that nothing but reads stands ahead of are taken in. -/
theorem Inv.commits {Q : Fr → Heap → Prop} {listed : Array Bool} : ∀ (n : Nat) {r hl : List Nat} {fr : Fr} {h : Heap}, hl.length ≤ n → Inv P ops lts Q listed r hl fr h →
    ∃ r' hl' fr' h', Com (hl.map (heldOf P ops fr)) (mask ops hl fr) h (hl'.map (heldOf P ops fr')) (mask ops hl' fr') h' ∧ Inv P ops lts Q listed r' hl' fr' h' ∧
      ∀ x ∈ hl', ∃ vs ws y, r' = vs ++ x :: ws ∧ y ∈ vs ∧ y ∉ hl' ∧ kV P ops lts y = false
  | n, r, [], fr, h, hn, I => ⟨r, [], fr, h, .nil, I, fun x hx => by cases hx⟩
  | 0, r, a :: hl, fr, h, hn, I => by simp at hn
  | n + 1, r, a :: hl₀, fr, h, hn, I => by
    obtain ⟨hl, hhl⟩ : ∃ hl, hl = a :: hl₀ := ⟨_, rfl⟩
    rw [← hhl] at hn I ⊢
    obtain ⟨vs, x, ws, hr, hxl, hvs⟩ := first_held (hl := hl) (r := r) ⟨a, (I.hmem a (by rw [hhl]; simp)).1, by rw [hhl]; simp⟩
    have hnr := I.nodup
    rw [hr] at hnr
    obtain ⟨n1, n2, n3⟩ := List.nodup_append.1 hnr
    obtain ⟨n4, n5⟩ := List.nodup_cons.1 n2
    by_cases hall : ∀ v ∈ vs, kV P ops lts v = true
    · obtain ⟨ox, y, hox, hax⟩ := I.alloc x hxl
      have hok := I.ok
      rw [hr] at hok
      obtain ⟨sp, so⟩ := staticOk_split hok
      have hxlate := (I.hmem x hxl).2
      have hlo := so.late
      simp only [lateOk, hxlate, Bool.not_true, Bool.false_or, hox, Bool.and_eq_true, Option.isNone_iff_eq_none] at hlo
      have hlist := I.list
      rw [hr] at hlist
      have hcond : ∀ j ∈ vs, (∃ oj, ops[j]? = some oj ∧ oj.apart ops ox = true) ∧ kV P ops lts j = true := by
        intro j hj
        have hjr : j ∈ r := by rw [hr]; exact List.mem_append_left _ hj
        have hjx : j ≠ x := fun q => n3 j hj x (by simp) q
        have hjlt := I.lt j hjr
        refine ⟨⟨ops[j], Array.getElem?_eq_getElem hjlt, ?_⟩, hall j hj⟩
        exact ((sp j hj).apart (Array.getElem?_eq_getElem hjlt) hox (I.free x hxl j hjr hjx)).1
      obtain ⟨cells, t, val, e1, e2⟩ := commit hox (kV_late hxlate) hxlate hlo.1 hlo.2 vs ws [] fr h hcond hlist
      obtain ⟨p, q, hpq⟩ := List.append_of_mem hxl
      have hnp := I.hnodup
      rw [hpq] at hnp
      obtain ⟨m1, m2, m3⟩ := List.nodup_append.1 hnp
      obtain ⟨m4, m5⟩ := List.nodup_cons.1 m2
      have hxpq : x ∉ p ++ q := fun hq => by
        rcases List.mem_append.1 hq with hq | hq
        · exact m3 x hq x (by simp) rfl
        · exact m4 hq
      -- the other held rows stand behind
      have hoth : ∀ y ∈ p ++ q, (∀ d, ox.dst = some d → dstOf ops y ≠ some d) ∧ ∀ d, ox.dst = some d → d ∉ looksOf ops y := by
        intro y hy
        have hyl : y ∈ hl := by rw [hpq]; rcases List.mem_append.1 hy with hy | hy <;> simp [hy]
        have hyx : y ≠ x := fun q => hxpq (q ▸ hy)
        have hyr := (I.hmem y hyl).1
        have hyw : y ∈ ws := by
          rw [hr] at hyr
          rcases List.mem_append.1 hyr with h | h
          · exact absurd hyl (hvs y h)
          · rcases List.mem_cons.1 h with h | h
            · exact absurd h hyx
            · exact h
        have hylt := I.lt y (I.hmem y hyl).1
        have hpo := staticOk_pairs (xs := vs ++ [x]) (ys := ws) (by simpa using hok) x (by simp) y hyw
        have hap := (hpo.apart hox (Array.getElem?_eq_getElem hylt) (I.free y hyl x (by rw [hr]; simp) (Ne.symm hyx))).1
        obtain ⟨a1, a2, a3⟩ := Oper.apart_spec hap
        exact ⟨fun d hd => by rw [dst_of (Array.getElem?_eq_getElem hylt)]; exact a2 d hd, fun d hd => by rw [looks_of (Array.getElem?_eq_getElem hylt)]; exact a1 d hd⟩
      have hI : Inv P ops lts Q listed (vs ++ ws) (p ++ q) (put fr ox.dst (val h.length)) (aNew h cells t) := by
        refine ⟨I.size, I.shut, fun i => ?_, ?_, ?_, fun i hi => ?_, fun i hi => I.lt i ?_, staticOk_drop hok, fun i hi => ?_, fun i hi j hj hji => ?_, e2⟩
        · rw [I.mem i, hr, hpq]
          constructor
          · rintro ⟨h1, h2⟩
            have hix : i ≠ x := fun q => h2 (by rw [q]; simp)
            refine ⟨?_, fun hq => h2 ?_⟩
            · rcases List.mem_append.1 h1 with h | h
              · exact List.mem_append_left _ h
              · rcases List.mem_cons.1 h with h | h
                · exact absurd h hix
                · exact List.mem_append_right _ h
            · rcases List.mem_append.1 hq with h | h <;> simp [h]
          · rintro ⟨h1, h2⟩
            have hix : i ≠ x := fun hq => by
              subst hq
              rcases List.mem_append.1 h1 with h | h
              · exact n3 i h i (by simp) rfl
              · exact n4 h
            refine ⟨?_, fun hq => h2 ?_⟩
            · rcases List.mem_append.1 h1 with h | h <;> simp [h]
            · rcases List.mem_append.1 hq with h | h
              · exact List.mem_append_left _ h
              · rcases List.mem_cons.1 h with h | h
                · exact absurd h hix
                · exact List.mem_append_right _ h
        · exact List.nodup_append.2 ⟨n1, n5, fun a ha b hb => n3 a ha b (List.mem_cons_of_mem _ hb)⟩
        · exact List.nodup_append.2 ⟨m1, m5, fun a ha b hb => m3 a ha b (List.mem_cons_of_mem _ hb)⟩
        · have hil : i ∈ hl := by rw [hpq]; rcases List.mem_append.1 hi with h | h <;> simp [h]
          have hix : i ≠ x := fun q => hxpq (q ▸ hi)
          obtain ⟨k1, k2⟩ := I.hmem i hil
          refine ⟨?_, k2⟩
          rw [hr] at k1
          rcases List.mem_append.1 k1 with h | h
          · exact List.mem_append_left _ h
          · rcases List.mem_cons.1 h with h | h
            · exact absurd h hix
            · exact List.mem_append_right _ h
        · rw [hr]; rcases List.mem_append.1 hi with h | h <;> simp [h]
        · have hil : i ∈ hl := by rw [hpq]; rcases List.mem_append.1 hi with h | h <;> simp [h]
          obtain ⟨oi, xi, g1, g2⟩ := I.alloc i hil
          refine ⟨oi, xi, g1, ?_⟩
          rw [← g2]
          exact allocOp_congr (ev_put (fun e he => by have := (hoth i hi).2 e he; rw [looks_of g1] at this; exact this))
        · have hil : i ∈ hl := by rw [hpq]; rcases List.mem_append.1 hi with h | h <;> simp [h]
          exact I.free i hil j (by rw [hr]; rcases List.mem_append.1 hj with h | h <;> simp [h]) hji
      obtain ⟨r', hl', fr', h', c1, c2, c3⟩ := Inv.commits n (by rw [hpq] at hn; simp at hn ⊢; omega) hI
      refine ⟨r', hl', fr', h', ?_, c2, c3⟩
      have hm : hl.map (heldOf P ops fr) = (p.map (heldOf P ops fr)) ++ (⟨ox.dst, cells, t, val⟩ : Hd) :: (q.map (heldOf P ops fr)) := by
        rw [hpq, List.map_append, List.map_cons, heldOf_eq hox e1]
      rw [hm]
      refine .cons ?_
      have hm2 : (p ++ q).map (heldOf P ops (put fr ox.dst (val h.length))) = p.map (heldOf P ops fr) ++ q.map (heldOf P ops fr) := by
        rw [← List.map_append]
        exact List.map_congr_left fun y hy => heldOf_put (hoth y hy).2
      rw [← hm2, hpq]
      simp only
      rw [mask_commit hox (fun y hy => (hoth y hy).1)]
      exact c1
    · obtain ⟨v, hv⟩ := Classical.not_forall.1 hall
      obtain ⟨hv, hvk⟩ := Classical.not_imp.1 hv
      refine ⟨r, hl, fr, h, .nil, I, fun y hy => ?_⟩
      have hvk' : kV P ops lts v = false := by simpa using hvk
      have hyr := (I.hmem y hy).1
      rw [hr] at hyr
      rcases List.mem_append.1 hyr with hy' | hy'
      · exact absurd hy (hvs y hy')
      · rcases List.mem_cons.1 hy' with rfl | hy'
        · exact ⟨vs, ws, v, hr, hv, hvs v hv, hvk'⟩
        · obtain ⟨b, c, hbc⟩ := List.append_of_mem hy'
          exact ⟨vs ++ x :: b, c, v, by rw [hr, hbc]; simp, List.mem_append_left _ hv, hvs v hv, hvk'⟩

theorem ready_waits {listed : Array Bool} (hs : Shut ops listed) (hsz : listed.size = ops.size) {i j : Nat} (hi : i ∈ Region.ready .any ops listed) (hw : waits ops ops.size i j = true) (hj : j < ops.size) : listed.getD j true = true := by
  obtain ⟨_, o, ho, hall⟩ := mem_ready.1 hi
  exact waits_down hs hsz _ i j hw hj fun o' ho' => by rw [ho] at ho'; cases ho'; exact hall

theorem all_orders {Q : Fr → Heap → Prop} : ∀ (k : Nat) {listed : Array Bool} {r hl : List Nat} {fr : Fr} {h : Heap}, (r.filter fun i => !hl.contains i).length ≤ k → Inv P ops lts Q listed r hl fr h →
    AAnyH P ops Q k listed (hl.map (heldOf P ops fr)) (mask ops hl fr) h := by
  intro k
  induction k with
  | zero =>
    intro listed r hl fr h hk I
    have hnone : ∀ i, ¬ (i < ops.size ∧ listed.getD i true = false) := fun i hi => by
      obtain ⟨h1, h2⟩ := (I.mem i).1 hi
      have : i ∈ r.filter fun i => !hl.contains i := List.mem_filter.2 ⟨h1, by simpa using h2⟩
      rw [List.length_eq_zero_iff.1 (Nat.le_zero.1 hk)] at this
      cases this
    obtain ⟨r', hl', fr', h', c1, c2, c3⟩ := I.commits hl.length (Nat.le_refl _)
    have hl0 : hl' = [] := by
      cases hl' with
      | nil => rfl
      | cons x l =>
        obtain ⟨vs, ws, y, e1, e2, e3, _⟩ := c3 x (by simp)
        exact absurd ((c2.mem y).2 ⟨by rw [e1]; exact List.mem_append_left _ e2, e3⟩) (hnone y)
    subst hl0
    have hr0 : r' = [] := by
      cases r' with
      | nil => rfl
      | cons x l => exact absurd ((c2.mem x).2 ⟨by simp, by simp⟩) (hnone x)
    subst hr0
    have hm : mask ops [] fr' = fr' := by funext t; simp [mask]
    refine ⟨fr', h', by rw [← hm]; exact c1, ?_, c2.list⟩
    refine List.eq_nil_iff_forall_not_mem.2 fun i hi => ?_
    obtain ⟨h1, o, h2, _⟩ := mem_ready.1 hi
    exact hnone i ⟨(Array.getElem?_eq_some_iff.1 h2).1, h1⟩
  | succ k ih =>
    intro listed r₀ hl₀ fr₀ h₀ hk I₀
    obtain ⟨r, hl, fr, h, c1, I, c3⟩ := I₀.commits hl₀.length (Nat.le_refl _)
    have hk' : (r.filter fun i => !hl.contains i).length ≤ k + 1 := by
      refine Nat.le_trans ?_ hk
      have hsub : ∀ i ∈ r.filter (fun i => !hl.contains i), i ∈ r₀.filter (fun i => !hl₀.contains i) := fun i hi => by
        obtain ⟨h1, h2⟩ := List.mem_filter.1 hi
        obtain ⟨h3, h4⟩ := (I₀.mem i).1 ((I.mem i).2 ⟨h1, by simpa using h2⟩)
        exact List.mem_filter.2 ⟨h3, by simpa using h4⟩
      exact nodup_len (I.nodup.filter _) hsub
    have hun : ∀ i, i ∈ r → i ∉ hl → listed.getD i true = false := fun i h1 h2 => I.unlisted h1 h2
    refine ⟨_, _, _, c1, fun he => ?_, fun i hi => ?_⟩
    · -- nothing is ready: nothing is left
      have hr0 : r = [] := by
        cases hr : r with
        | nil => rfl
        | cons a l =>
          exfalso
          have hok := I.ok
          rw [hr] at hok
          obtain ⟨⟨o, ho, hto⟩, _⟩ := staticOk_cons hok
          have hnd := I.nodup
          rw [hr] at hnd
          have hal : a ∉ hl := fun ha => by
            obtain ⟨vs, ws, y, e1, e2, _⟩ := c3 a ha
            rw [hr] at e1
            cases vs with
            | nil => cases e2
            | cons b vs =>
              simp only [List.cons_append, List.cons.injEq] at e1
              have : a ∈ l := by rw [e1.2]; simp
              exact (List.nodup_cons.1 hnd).1 this
          have : a ∈ Region.ready .any ops listed := mem_ready.2 ⟨hun a (by rw [hr]; simp) hal, o, ho, fun e he hb => by
            obtain ⟨g1, g2⟩ := hto e he hb
            have := I.listed_of g1 (.inl (by rw [hr]; exact g2))
            rw [getD_lt (by rw [I.size]; exact g1) false true]; exact this⟩
          rw [he] at this
          cases this
      have hl0 : hl = [] := by
        cases hl with
        | nil => rfl
        | cons x l => have := (I.hmem x (by simp)).1; rw [hr0] at this; cases this
      subst hl0
      have hm : mask ops [] fr = fr := by funext t; simp [mask]
      have := I.list
      rw [hr0] at this
      exact ⟨rfl, by rw [hm]; exact this⟩
    · obtain ⟨hiu, oi, hoi, hall⟩ := mem_ready.1 hi
      have hilt : i < ops.size := (Array.getElem?_eq_some_iff.1 hoi).1
      obtain ⟨hir, hil⟩ := (I.mem i).1 ⟨hilt, hiu⟩
      have hok := I.ok
      -- it waits for nothing that is left
      have hfree : ∀ j ∈ r, waits ops ops.size i j = false := by
        intro j hj
        cases hw : waits ops ops.size i j with
        | false => rfl
        | true =>
          exfalso
          have hjl := ready_waits I.shut I.size hi hw (I.lt j hj)
          have hjh : j ∈ hl := by
            by_cases hq : j ∈ hl
            · exact hq
            · rw [hun j hj hq] at hjl; cases hjl
          obtain ⟨vs, ws, y, e1, e2, e3, e4⟩ := c3 j hjh
          rw [e1] at hok
          have hpo := (staticOk_split hok).1 y e2
          have hyr : y ∈ r := by rw [e1]; exact List.mem_append_left _ e2
          have hwy := hpo.late e4 (I.hmem j hjh).2 i hilt hw
          have := ready_waits I.shut I.size hi hwy (I.lt y hyr)
          rw [hun y hyr e3] at this
          cases this
      obtain ⟨xs, ys, hxy⟩ := List.append_of_mem hir
      have hnd := I.nodup
      rw [hxy] at hnd hok
      obtain ⟨n1, n2, n3⟩ := List.nodup_append.1 hnd
      obtain ⟨n4, n5⟩ := List.nodup_cons.1 n2
      obtain ⟨sp, so⟩ := staticOk_split hok
      have get : ∀ j ∈ r, ops[j]? = some (ops.getD j default) := fun j hj => by
        have := I.lt j hj
        rw [Array.getElem?_eq_getElem this]; simp [Array.getD_eq_getD_getElem?, this]
      have apX : ∀ j ∈ xs, ∀ oj, ops[j]? = some oj → oj.apart ops oi = true ∧ (lts.contains i = true ∨ kV P ops lts j = true) := fun j hj oj ho =>
        (sp j hj).apart ho hoi (hfree j (by rw [hxy]; exact List.mem_append_left _ hj))
      -- beside held rows
      have apH : ∀ x ∈ hl, ∀ ox, ops[x]? = some ox → (∀ d, oi.dst = some d → ox.dst ≠ some d) ∧ (∀ d, ox.dst = some d → d ∉ oi.looksAt ops) ∧ (∀ d, oi.dst = some d → d ∉ ox.looksAt ops) := by
        intro x hx ox hox
        have hxr := (I.hmem x hx).1
        have hxi : x ≠ i := fun q => hil (q ▸ hx)
        rw [hxy] at hxr
        rcases List.mem_append.1 hxr with hxs | hxs
        · obtain ⟨a1, a2, a3⟩ := Oper.apart_spec (apX x hxs ox hox).1
          exact ⟨fun d hd hq => a2 d hq hd, a1, a3⟩
        · rcases List.mem_cons.1 hxs with hxs | hxs
          · exact absurd hxs hxi
          · have hpo := staticOk_pairs (xs := xs ++ [i]) (ys := ys) (by simpa using hok) i (by simp) x hxs
            have := (hpo.apart hoi hox (I.free x hx i hir (Ne.symm hxi))).1
            obtain ⟨a1, a2, a3⟩ := Oper.apart_spec this
            exact ⟨fun d hd => a2 d hd, a3, a1⟩
      have dstH : ∀ x ∈ hl, ∀ d, oi.dst = some d → dstOf ops x ≠ some d := fun x hx d hd => by
        have hg := get x (I.hmem x hx).1
        rw [dst_of hg]; exact (apH x hx _ hg).1 d hd
      have lookH : ∀ x ∈ hl, ∀ d, dstOf ops x = some d → d ∉ oi.looksAt ops := fun x hx d hd => by
        have hg := get x (I.hmem x hx).1
        rw [dst_of hg] at hd; exact (apH x hx _ hg).2.1 d hd
      have backH : ∀ x ∈ hl, ∀ d, oi.dst = some d → d ∉ looksOf ops x := fun x hx d hd => by
        have hg := get x (I.hmem x hx).1
        rw [looks_of hg]; exact (apH x hx _ hg).2.2 d hd
      have hds : ∀ t, oi.dst = some t → ∀ x ∈ hl.map (heldOf P ops fr), x.d ≠ some t := fun t ht x hx => by
        obtain ⟨y, hy, rfl⟩ := List.mem_map.1 hx
        rw [heldOf_d]; exact dstH y hy t ht
      -- the lists behind
      have hset : ∀ k b, k ≠ i → (listed.setIfInBounds i true).getD k b = listed.getD k b := fun k b hk => getD_set_ne b (Ne.symm hk)
      have hsame : ∀ b, (listed.setIfInBounds i true).getD i b = true := fun b => by simp [Array.getD_eq_getD_getElem?, I.size, hilt]
      have hshut : Shut ops (listed.setIfInBounds i true) := by
        intro k o ho hkl e he hb
        by_cases hki : k = i
        · subst hki
          rw [hoi] at ho; cases ho
          exact getD_set_true (hall e he hb)
        · rw [hset k true hki] at hkl
          exact getD_set_true (I.shut k o ho hkl e he hb)
      by_cases hlate : lts.contains i = true
      · -- held
        left
        have hlo := so.late
        simp only [lateOk, hlate, Bool.not_true, Bool.false_or, hoi, Bool.and_eq_true, Option.isNone_iff_eq_none] at hlo
        have hlist := I.list
        rw [hxy] at hlist
        obtain ⟨p', fr₂, h₂, g1, g2⟩ := DList_reach xs hlist
        simp only [DList, kV_late hlate, Bool.false_eq_true, if_false, hlate, if_true] at g1
        rw [AAt_some hoi] at g1
        obtain ⟨cells, t, val, e1, _⟩ := AStep_late hlo.1 hlo.2 g1
        have hfr : allocOp P fr oi.op = some (cells, t, val) := by
          rw [← e1]
          refine allocOp_congr fun x hx => ?_
          cases x with
          | tmp s =>
            simp only [ev]
            rw [g2 s fun j hj hd => ?_]
            have hg := get j (by rw [hxy]; exact List.mem_append_left _ hj)
            rw [dst_of hg] at hd
            exact (Oper.apart_spec (apX j hj _ hg).1).1 s hd (List.mem_append_left _ (List.mem_filterMap.2 ⟨.tmp s, by simpa using hx, rfl⟩))
          | _ => rfl
        refine ⟨oi, cells, t, val, hoi, by simp [wantedA, hlo.2], by rw [allocOp_congr (ev_mask lookH)]; exact hfr, hds, ?_⟩
        have hI : Inv P ops lts Q (listed.setIfInBounds i true) r (hl ++ [i]) fr h := by
          refine ⟨by simp [I.size], hshut, fun j => ?_, I.nodup, ?_, fun j hj => ?_, I.lt, I.ok, fun j hj => ?_, fun j hj m hm hmj => ?_, I.list⟩
          · by_cases hji : j = i
            · subst hji
              rw [hsame]
              exact ⟨fun q => (by cases q.2), fun q => absurd (by simp) q.2⟩
            · rw [hset j true hji, I.mem j]
              simp [hji]
          · rw [List.nodup_append]
            exact ⟨I.hnodup, by simp, fun a ha b hb => by rw [List.mem_singleton.1 hb]; exact fun q => hil (q ▸ ha)⟩
          · rcases List.mem_append.1 hj with hj | hj
            · exact I.hmem j hj
            · rw [List.mem_singleton.1 hj]; exact ⟨hir, hlate⟩
          · rcases List.mem_append.1 hj with hj | hj
            · exact I.alloc j hj
            · rw [List.mem_singleton.1 hj]; exact ⟨oi, _, hoi, hfr⟩
          · rcases List.mem_append.1 hj with hj | hj
            · exact I.free j hj m hm hmj
            · rw [List.mem_singleton.1 hj]; exact hfree m hm
        have hcount : (r.filter fun j => !(hl ++ [i]).contains j).length ≤ k := by
          have h1 : (r.filter fun j => !(hl ++ [i]).contains j) = (r.filter fun j => !hl.contains j).filter (fun j => !decide (j = i)) := by
            rw [List.filter_filter]
            apply List.filter_congr
            intro j _
            simp [List.contains_eq_mem, Bool.and_comm]
          have h2 : i ∈ r.filter fun j => !hl.contains j := List.mem_filter.2 ⟨hir, by simpa using hil⟩
          rw [h1]
          have h3 := List.length_filter_lt_length_iff_exists (p := fun j => !decide (j = i)) (l := r.filter fun j => !hl.contains j) |>.2 ⟨i, h2, by simp⟩
          omega
        have := ih hcount hI
        rw [List.map_append, List.map_cons, List.map_nil, heldOf_eq hoi hfr, ← mask_hold hoi] at this
        exact this
      · -- done at once
        right
        refine ⟨fun o ho t ht x hx => by rw [hoi] at ho; cases ho; exact hds t ht x hx, ?_⟩
        have hlist := I.list
        rw [hxy] at hlist
        have hlate' : lts.contains i = false := by simpa using hlate
        have hV : ∀ j ∈ xs, kV P ops lts j = true := fun j hj => by
          rcases (apX j hj _ (get j (by rw [hxy]; exact List.mem_append_left _ hj))).2 with h | h
          · rw [hlate'] at h; cases h
          · exact h
        have q : AAt P ops i (DList P ops lts Q (xs ++ ys) []) fr h := by
          cases hiv : kV P ops lts i with
          | true => exact bubbleV hoi hiv xs ys [] fr h (fun j hj => ⟨⟨_, get j (by rw [hxy]; exact List.mem_append_left _ hj), (apX j hj _ (get j (by rw [hxy]; exact List.mem_append_left _ hj))).1⟩, hV j hj⟩) hlist
          | false =>
            refine AAt_mono (fun fr h k => k.2) (bubbleE hoi hiv hlate' xs ys [] fr h (fun j hj => ⟨⟨_, get j (by rw [hxy]; exact List.mem_append_left _ hj), (apX j hj _ (get j (by rw [hxy]; exact List.mem_append_left _ hj))).1, ?_⟩, hV j hj, hfree j (by rw [hxy]; exact List.mem_append_left _ hj)⟩) (fun k hk => by cases hk) ?_ hlist)
            · have hsj : OneOk ops lts j := by
                obtain ⟨b, c, hbc⟩ := List.append_of_mem hj
                rw [hbc] at hok
                exact (staticOk_split (xs := b) (ys := c ++ i :: ys) (by simpa using hok)).2
              exact selfOk_spec (get j (by rw [hxy]; exact List.mem_append_left _ hj)) hsj.self
            · clear hV apX sp
              have : ∀ zs : List Nat, staticOk P ops lts (zs ++ i :: ys) = true → zs.Pairwise fun k j => ∀ ok oj, ops[k]? = some ok → ops[j]? = some oj → ∀ d, oj.dst = some d → d ∉ ok.looksAt ops ∧ ok.dst ≠ some d := by
                intro zs
                induction zs with
                | nil => exact fun _ => List.Pairwise.nil
                | cons z zs ihz =>
                  intro hz
                  obtain ⟨_, _, hz3, hz4⟩ := staticOk_cons (r := zs ++ i :: ys) hz
                  exact List.pairwise_cons.2 ⟨fun j hj ok oj hk hj' => noClob_spec hk hj' (hz3 j (List.mem_append_left _ hj)).clob, ihz hz4⟩
              exact this xs hok
        rw [AAt_some hoi] at q ⊢
        refine AStep_congr (fun x hx => (ev_mask lookH x hx).symm) (wantedA_mask lookH).symm (fun v h' kq => ?_) q
        rw [mask_put (fun t ht x hx => dstH x hx t ht)]
        have hm : hl.map (heldOf P ops fr) = hl.map (heldOf P ops (put fr oi.dst v)) := List.map_congr_left fun y hy => (heldOf_put (backH y hy)).symm
        rw [hm]
        have hI : Inv P ops lts Q (listed.setIfInBounds i true) (xs ++ ys) hl (put fr oi.dst v) h' := by
          refine ⟨by simp [I.size], hshut, fun j => ?_, ?_, I.hnodup, fun j hj => ?_, fun j hj => I.lt j ?_, staticOk_drop hok, fun j hj => ?_, fun j hj m hm hmj => ?_, kq⟩
          · by_cases hji : j = i
            · subst hji
              rw [hsame]
              refine ⟨fun q => (by cases q.2), fun q => ?_⟩
              exfalso
              rcases List.mem_append.1 q.1 with h | h
              · exact n3 j h j (by simp) rfl
              · exact n4 h
            · rw [hset j true hji, I.mem j, hxy]
              simp [hji]
          · exact List.nodup_append.2 ⟨n1, n5, fun a ha b hb => n3 a ha b (List.mem_cons_of_mem _ hb)⟩
          · obtain ⟨k1, k2⟩ := I.hmem j hj
            refine ⟨?_, k2⟩
            have hji : j ≠ i := fun q => hil (q ▸ hj)
            rw [hxy] at k1
            simpa [hji] using k1
          · rw [hxy]; rcases List.mem_append.1 hj with h | h <;> simp [h]
          · obtain ⟨o, x, g1, g2⟩ := I.alloc j hj
            refine ⟨o, x, g1, ?_⟩
            rw [← g2]
            exact allocOp_congr (ev_put (fun e he => by have := backH j hj e he; rw [looks_of g1] at this; exact this))
          · exact I.free j hj m (by rw [hxy]; rcases List.mem_append.1 hm with h | h <;> simp [h]) hmj
        have hcount : ((xs ++ ys).filter fun j => !hl.contains j).length ≤ k := by
          have h1 : (r.filter fun j => !hl.contains j).length = ((xs ++ ys).filter fun j => !hl.contains j).length + 1 := by
            rw [hxy, List.filter_append, List.filter_append, List.filter_cons]
            have : (!hl.contains i) = true := by simpa using hil
            rw [if_pos this]
            simp; omega
          omega
        exact ih hcount hI

theorem AW_region_drawn {N : Nat} {Q : Exit → Fr → Heap → Prop} {fr : Fr} {h : Heap} {id : Nat} {l : List Nat} (hm : P.follows .mixedOrders = true) (hok : opsOk N ops.toList = true) (hl : ∀ i, i ∈ l ↔ i < ops.size) (hnd : l.Nodup) (hs : staticOk P ops lts l = true)
    (q : DList P ops lts (Q .normal) l [] fr h) : AW P N (.region id ops true) Q fr h := by
  have hlen : l.length ≤ ops.size := by
    have hsub : ∀ i ∈ l, i ∈ List.range ops.size := fun i hi => List.mem_range.2 ((hl i).1 hi)
    have := nodup_len hnd hsub
    simpa using this
  have := all_orders (P := P) (ops := ops) (lts := lts) (Q := Q .normal) ops.size (listed := Array.replicate ops.size false) (r := l) (hl := []) (fr := fr) (h := h) (Nat.le_trans (List.length_filter_le _ _) hlen)
    ⟨by simp, fun i o ho hq => by
      have hlt := (Array.getElem?_eq_some_iff.1 ho).1
      simp [Array.getD_eq_getD_getElem?, hlt] at hq, fun i => by
      rw [hl i]
      constructor
      · exact fun q => ⟨q.1, by simp⟩
      · exact fun q => ⟨q.1, by simp [Array.getD_eq_getD_getElem?, q.1]⟩, hnd, List.nodup_nil, fun i hi => (by cases hi), fun i hi => (hl i).1 hi, hs, fun i hi => (by cases hi), fun i hi => (by cases hi), q⟩
  have hmk : mask ops [] fr = fr := by funext t; simp [mask]
  rw [hmk] at this
  exact AW_region_held hm hok this
end Go.Am
