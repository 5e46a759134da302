/- The fast machine, second part: all operations of one kind or another, slowly. -/
import Derived.Test.YtodmfjhjaegoeaaGreatDoorAmZ1
set_option linter.unusedVariables false
set_option linter.unusedSimpArgs false
namespace Go.Am
variable {P : Program}
noncomputable section

/-! ### Maps, ranges over strings -/
def eEntries (E : EH) : Value → Option (List (Value × Value))
  | .map none => some []
  | .map (some id) => match E.objs.get id with
    | some (.map es) => some es
    | _ => none
  | _ => none
theorem Repr.map {E : EH} {h : Heap} (R : Repr P E h) {i : Nat} {es : List (Value × Value)} (hi : E.objs.get i = some (.map es)) : h[i]? = some (.map es) := by rw [← R.get, hi]; rfl
theorem Repr.siter {E : EH} {h : Heap} (R : Repr P E h) {i n : Nat} {s : ByteArray} (hi : E.objs.get i = some (.siter s n)) : h[i]? = some (.siter s n) := by rw [← R.get, hi]; rfl
theorem eEntries_sound {E : EH} {h : Heap} (R : Repr P E h) {m : Value} {es : List (Value × Value)} (hm : eEntries E m = some es) : aEntries h m = some es := by
  unfold eEntries at hm
  unfold aEntries
  split at hm <;> (try (cases hm; done))
  · exact hm
  · split at hm <;> (try (cases hm; done))
    rename_i es' hg
    cases hm
    simp only
    rw [R.map hg]
def eLookup (P : Program) (E : EH) (t : TypeId) (m k : Value) (ok : Bool) : Option Value :=
  match P.underlying t, k with
  | some (.map kt el), .string s => if isStrT P kt = true then
      (match eEntries E m with
      | some es => match aFind s es 0 with
        | some (some (_, v)) => some (if ok = true then .tuple #[v, .bool true] else v)
        | some none => match aZero P el with
          | some z => some (if ok = true then .tuple #[z, .bool false] else z)
          | none => none
        | none => none
      | none => none) else none
  | _, _ => none
theorem eLookup_sound {E : EH} {h : Heap} (R : Repr P E h) {t : TypeId} {m k v : Value} {ok : Bool} (hm : eLookup P E t m k ok = some v) : aLookup P h t m k ok = some v := by
  unfold eLookup at hm
  unfold aLookup
  split at hm <;> (try (cases hm; done))
  rename_i kt el s hu
  simp only [hu]
  by_cases hs : isStrT P kt = true
  · rw [if_pos hs] at hm ⊢
    split at hm <;> (try (cases hm; done))
    rename_i es he
    rw [eEntries_sound R he]
    exact hm
  · rw [if_neg hs] at hm; cases hm
def eLenMap (P : Program) (E : EH) (t : TypeId) (m : Value) : Option Value := if isMapT P t = true then (eEntries E m).map fun es => .int .i64 es.length else none
theorem eLenMap_sound {E : EH} {h : Heap} (R : Repr P E h) {t : TypeId} {m v : Value} (hm : eLenMap P E t m = some v) : aLenMap P h t m = some v := by
  unfold eLenMap at hm
  unfold aLenMap
  by_cases hs : isMapT P t = true
  · rw [if_pos hs] at hm ⊢
    obtain ⟨es, h1, h2⟩ := Option.map_eq_some_iff.1 hm
    rw [eEntries_sound R h1]
    exact congrArg some h2
  · rw [if_neg hs] at hm; cases hm
def eMapUpdate (P : Program) (E : EH) (t : TypeId) (m k v : Value) : Option EH :=
  match P.underlying t, m, k with
  | some (.map kt _), .map (some id), .string s => if isStrT P kt = true then
      (match E.objs.get id with
      | some (.map es) => match aFind s es 0 with
        | some (some (i, _)) => some (E.put id (.map (es.set i (.string s, v))))
        | some none => some (E.put id (.map (es ++ [(.string s, v)])))
        | none => none
      | _ => none) else none
  | _, _, _ => none
theorem eMapUpdate_sound {E E' : EH} {h : Heap} (R : Repr P E h) {t : TypeId} {m k v : Value} (hm : eMapUpdate P E t m k v = some E') : ∃ h', aMapUpdate P h t m k v = some h' ∧ Repr P E' h' := by
  unfold eMapUpdate at hm
  unfold aMapUpdate
  split at hm <;> (try (cases hm; done))
  rename_i kt el id s hu
  simp only [hu]
  by_cases hs : isStrT P kt = true
  · rw [if_pos hs] at hm ⊢
    split at hm <;> (try (cases hm; done))
    rename_i es hg
    rw [R.map hg]
    simp only
    split at hm <;> (try (cases hm; done))
    · rename_i hf
      cases hm
      exact ⟨_, by rw [hf]; rfl, R.put hg (o := .map _) trivial⟩
    · rename_i hf
      cases hm
      exact ⟨_, by rw [hf]; rfl, R.put hg (o := .map _) trivial⟩
  · rw [if_neg hs] at hm; cases hm
def eDelete (P : Program) (E : EH) (t : TypeId) (m k : Value) : Option EH :=
  match P.underlying t, k with
  | some (.map kt _), .string s => if isStrT P kt = true then
      (match m with
      | .map none => some E
      | .map (some id) => match E.objs.get id with
        | some (.map es) => match aFind s es 0 with
          | some (some (i, _)) => some (E.put id (.map (es.eraseIdx i)))
          | some none => some (E.put id (.map es))
          | none => none
        | _ => none
      | _ => none) else none
  | _, _ => none
theorem eDelete_sound {E E' : EH} {h : Heap} (R : Repr P E h) {t : TypeId} {m k : Value} (hm : eDelete P E t m k = some E') : ∃ h', aDelete P h t m k = some h' ∧ Repr P E' h' := by
  unfold eDelete at hm
  unfold aDelete
  split at hm <;> (try (cases hm; done))
  rename_i kt el s hu
  simp only [hu]
  by_cases hs : isStrT P kt = true
  · rw [if_pos hs] at hm ⊢
    split at hm <;> (try (cases hm; done))
    · cases hm; exact ⟨_, rfl, R⟩
    · split at hm <;> (try (cases hm; done))
      rename_i es hg
      simp only
      rw [R.map hg]
      simp only
      split at hm <;> (try (cases hm; done))
      · rename_i hf
        cases hm
        exact ⟨_, by rw [hf]; rfl, R.put hg (o := .map _) trivial⟩
      · rename_i hf
        cases hm
        exact ⟨_, by rw [hf]; rfl, R.put hg (o := .map _) trivial⟩
  · rw [if_neg hs] at hm; cases hm
def eRangeS (P : Program) (E : EH) (t : TypeId) (x : Value) : Option (Value × EH) := if isStrT P t = true then (match x with
  | .string s => some (.pointer (some ⟨E.size, 0, some 0⟩), E.push (.siter s 0))
  | _ => none) else none
theorem eRangeS_sound {E E' : EH} {h : Heap} (R : Repr P E h) {t : TypeId} {x v : Value} (hm : eRangeS P E t x = some (v, E')) : ∃ h', aRangeS P h t x = some (v, h') ∧ Repr P E' h' := by
  unfold eRangeS at hm
  unfold aRangeS
  by_cases hs : isStrT P t = true
  · rw [if_pos hs] at hm ⊢
    split at hm <;> (try (cases hm; done))
    cases hm
    exact ⟨_, by rw [← R.size]; rfl, R.push (o := .siter _ 0) trivial⟩
  · rw [if_neg hs] at hm; cases hm
def eNextS (E : EH) (x : Value) : Option (Value × EH) := match x with
  | .pointer (some ⟨id, 0, some 0⟩) => match E.objs.get id with
    | some (.siter s pos) => if pos < s.size then some (.tuple #[.bool true, .int .i64 pos, .int .i32 (Utf8.decode s pos).1], E.put id (.siter s (pos + (Utf8.decode s pos).2))) else some (.tuple #[.bool false], E)
    | _ => none
  | _ => none
theorem eNextS_sound {E E' : EH} {h : Heap} (R : Repr P E h) {x v : Value} (hm : eNextS E x = some (v, E')) : ∃ h', aNextS h x = some (v, h') ∧ Repr P E' h' := by
  unfold eNextS at hm
  unfold aNextS
  split at hm <;> (try (cases hm; done))
  split at hm <;> (try (cases hm; done))
  rename_i s pos hg
  simp only
  rw [R.siter hg]
  simp only
  split at hm
  · rename_i hp
    rw [if_pos hp]
    cases hm
    exact ⟨_, rfl, R.put hg (o := .siter _ _) trivial⟩
  · rename_i hp
    rw [if_neg hp]
    cases hm
    exact ⟨_, rfl, R⟩
def eSame (P : Program) (E : EH) (s d : TypeId) (x : Value) : Option (Value × EH) :=
  match P.underlying s, P.underlying d, x with
  | some (.slice _), some (.slice e), .slice (some a) n c => if (decide (s = d) && isByteT P e) = true then
      (match a.spot, E.objs.get a.block with
      | some sp, some (.blk cs len el lo own) => bif own && (Nat.ble lo sp && Nat.beq sp len) then some (.slice (some a) n c, E) else none
      | _, _ => none) else none
  | _, _, _ => none
theorem eSame_sound {E E' : EH} {h : Heap} (R : Repr P E h) {s d : TypeId} {x v : Value} (hm : eSame P E s d x = some (v, E')) : (∃ h', aSame P h s d x = some (v, h') ∧ Repr P E' h') ∧ aBytes P h s d x = none := by
  unfold eSame at hm
  split at hm <;> (try (cases hm; done))
  rename_i e₀ e a n c hs hd
  refine ⟨?_, by unfold aBytes; simp [hs, hd]⟩
  unfold aSame
  simp only [hs, hd]
  by_cases hq : (decide (s = d) && isByteT P e) = true
  · rw [if_pos hq] at hm ⊢
    split at hm <;> (try (cases hm; done))
    rename_i sp cs len el lo own h1 h2
    obtain ⟨hc, hm⟩ := bif_some hm
    simp only [Bool.and_eq_true, Nat.ble_eq, Nat.beq_eq] at hc
    cases hm
    rw [h1, R.blk h2]
    simp only
    rw [if_pos ⟨hc.1, hc.2.1, by rw [cRow_length]; exact hc.2.2⟩]
    exact ⟨_, rfl, R⟩
  · rw [if_neg hq] at hm; cases hm

/-! ### All operations that read, or change, memory -/
def eRead (P : Program) (F : FT) (E : EH) : Op → Option Value
  | .load t x => match ev F.fr x with
    | some (.pointer (some a)) => eLoad P E t a
    | _ => none
  | .convert s d x => (ev F.fr x).bind (eStrOf P E s d)
  | .lookup t m k ok => match ev F.fr m, ev F.fr k with
    | some u, some v => eLookup P E t u v ok
    | _, _ => none
  | .typeAssert x _ u ok => (ev F.fr x).bind fun v => aAssert P v u ok
  | .call c => match c.callee with
    | .builtin .len => match evl F.fr c.args.toList, c.argTypes.toList with
      | some [x], [t] => eLenMap P E t x
      | _, _ => none
    | _ => none
  | _ => none
theorem eRead_sound {F : FT} {E : EH} {h : Heap} (R : Repr P E h) {op : Op} {v : Value} (hm : eRead P F E op = some v) : readOp P F.fr h op = some v := by
  cases op <;> simp only [eRead, reduceCtorEq] at hm
  case load t x =>
    split at hm <;> (try (cases hm; done))
    rename_i a hx
    simp only [readOp, hx]
    exact eLoad_sound R hm
  case convert s d x =>
    obtain ⟨u, hu, hm⟩ := Option.bind_eq_some_iff.1 hm
    simp only [readOp, hu, Option.bind_some]
    exact eStrOf_sound R hm
  case lookup t m k ok =>
    split at hm <;> (try (cases hm; done))
    rename_i u u' hx hy
    simp only [readOp, hx, hy]
    exact eLookup_sound R hm
  case typeAssert x t u ok => exact hm
  case call c =>
    obtain ⟨callee, args, ts⟩ := c
    simp only at hm
    cases callee with
    | value f => simp at hm
    | invoke r m => simp at hm
    | builtin b =>
      cases b <;> simp only [reduceCtorEq] at hm
      split at hm <;> (try (cases hm; done))
      rename_i x t h1 h2
      simp only [readOp, h1, h2]
      exact eLenMap_sound R hm

def eEffs (P : Program) (F : FT) (E : EH) : Op → Option (Value × EH)
  | .makeMap _ r => match r with
    | none => some (.map (some E.size), E.push (.map []))
    | some _ => none
  | .mapUpdate t m k x => match ev F.fr m, ev F.fr k, ev F.fr x with
    | some u, some v, some y => (eMapUpdate P E t u v y).map fun h' => (undef, h')
    | _, _, _ => none
  | .range t x => (ev F.fr x).bind (eRangeS P E t)
  | .next x s => if s = true then (ev F.fr x).bind (eNextS E) else none
  | .convert s d x => match (ev F.fr x).bind (eBytes P E s d) with
    | some r => some r
    | none => (ev F.fr x).bind (eSame P E s d)
  | .call c => match c.callee with
    | .builtin .delete => match evl F.fr c.args.toList, c.argTypes.toList with
      | some [m, k], [t, _] => (eDelete P E t m k).map fun h' => (undef, h')
      | _, _ => none
    | _ => eEff P F E (.call c)
  | op => eEff P F E op
theorem eEffs_sound {F : FT} {E E' : EH} {h : Heap} (R : Repr P E h) {op : Op} {v : Value} (hm : eEffs P F E op = some (v, E')) : ∃ h', effOp P F.fr h op = some (v, h') ∧ Repr P E' h' := by
  cases op <;> simp only [eEffs] at hm <;> (try exact eEff_sound R hm)
  case makeMap t r =>
    split at hm <;> (try (cases hm; done))
    cases hm
    exact ⟨_, by simp only [effOp, R.size]; rfl, R.push (o := .map []) trivial⟩
  case mapUpdate t m k x =>
    split at hm <;> (try (cases hm; done))
    rename_i u u' y h1 h2 h3
    obtain ⟨E₁, h4, h5⟩ := Option.map_eq_some_iff.1 hm
    cases h5
    obtain ⟨h', h6, h7⟩ := eMapUpdate_sound R h4
    exact ⟨h', by simp only [effOp, h1, h2, h3, h6, Option.map_some], h7⟩
  case range t x =>
    obtain ⟨u, hu, hm⟩ := Option.bind_eq_some_iff.1 hm
    obtain ⟨h', h1, h2⟩ := eRangeS_sound R hm
    exact ⟨h', by simp only [effOp, hu, Option.bind_some, h1], h2⟩
  case next x s =>
    split at hm <;> (try (cases hm; done))
    rename_i hs
    obtain ⟨u, hu, hm⟩ := Option.bind_eq_some_iff.1 hm
    obtain ⟨h', h1, h2⟩ := eNextS_sound R hm
    exact ⟨h', by simp only [effOp, if_pos hs, hu, Option.bind_some, h1], h2⟩
  case convert s d x =>
    split at hm
    · rename_i r hr
      cases hm
      obtain ⟨u, hu, hr⟩ := Option.bind_eq_some_iff.1 hr
      obtain ⟨h', h1, h2⟩ := eBytes_sound R hr
      exact ⟨h', by simp only [effOp, hu, Option.bind_some, h1], h2⟩
    · obtain ⟨u, hu, hm⟩ := Option.bind_eq_some_iff.1 hm
      obtain ⟨⟨h', h1, h2⟩, h3⟩ := eSame_sound R hm
      exact ⟨h', by simp only [effOp, hu, Option.bind_some, h1, h3], h2⟩
  case call c =>
    obtain ⟨callee, args, ts⟩ := c
    simp only at hm
    cases callee with
    | value f => exact eEff_sound R hm
    | invoke r m => exact eEff_sound R hm
    | builtin b =>
      cases b <;> simp only at hm <;> (try exact eEff_sound R hm)
      split at hm <;> (try (cases hm; done))
      rename_i m k t _ h1 h2
      obtain ⟨E₁, h4, h5⟩ := Option.map_eq_some_iff.1 hm
      cases h5
      obtain ⟨h', h6, h7⟩ := eDelete_sound R h4
      exact ⟨h', by simp only [effOp, h1, h2, h6, Option.map_some], h7⟩

/-- Any operation that calls nothing. -/
def eSlow (P : Program) (F : FT) (E : EH) (op : Op) : Option (Value × EH) := match pureOp P F.fr op with
  | some v => some (v, E)
  | none => match eRead P F E op with
    | some v => some (v, E)
    | none => eEffs P F E op
theorem eEff_call {F : FT} {E E' : EH} {c : Call} {v : Value} (hm : eEff P F E (.call c) = some (v, E')) : c.callee = .builtin .append ∨ c.callee = .builtin .copy := by
  obtain ⟨callee, args, ts⟩ := c
  simp only [eEff] at hm
  cases callee with
  | value f => simp at hm
  | invoke r m => simp at hm
  | builtin b => cases b <;> simp only [reduceCtorEq] at hm <;> simp
theorem readOp_conv_none {fr : Fr} {h h' : Heap} {s d : TypeId} {x : Operand} {v : Value} (hm : effOp P fr h (.convert s d x) = some (v, h')) : readOp P fr h (.convert s d x) = none := by
  simp only [effOp] at hm
  obtain ⟨u, hu, hm⟩ := Option.bind_eq_some_iff.1 hm
  simp only [readOp, hu, Option.bind_some]
  have key : ∀ e, P.underlying d = some (.slice e) → aStrOf P h s d u = none := by
    intro e he
    unfold aStrOf
    simp [he]
  split at hm
  · rename_i r hb
    unfold aBytes at hb
    split at hb <;> (try (cases hb; done))
    exact key _ ‹_›
  · unfold aSame at hm
    split at hm <;> (try (cases hm; done))
    exact key _ ‹_›
theorem eSlow_sound {F : FT} {E E' : EH} {h : Heap} (R : Repr P E h) {op : Op} {v : Value} (hm : eSlow P F E op = some (v, E')) (d : Option Tmp) :
    ∃ h', Repr P E' h' ∧ ∀ K : Fr → Heap → Prop, K (Am.put F.fr d v) h' → BOp P d op K F.fr h := by
  unfold eSlow at hm
  split at hm
  · rename_i u hu
    cases hm
    refine ⟨h, R, fun K k => ?_⟩
    cases op <;> simp only [pureOp, reduceCtorEq] at hu <;> first
      | (simp only [BOp, AOp, pureOp, hu, optE_some]; exact k)
      | skip
    rename_i c
    obtain ⟨callee, args, ts⟩ := c
    simp only at hu
    cases callee with
    | value f => simp at hu
    | invoke r m => simp at hu
    | builtin b =>
      cases b <;> simp only [reduceCtorEq] at hu <;> (simp only [BOp, AOp, pureOp, hu, optE_some]; exact k)
  · rename_i hp
    split at hm
    · rename_i u hu
      cases hm
      refine ⟨h, R, fun K k => ?_⟩
      have hr := eRead_sound R hu
      cases op <;> simp only [eRead, reduceCtorEq] at hu <;> first
        | (simp only [BOp, AOp, hp, hr, optE_some, optE_none]; exact k)
        | skip
      rename_i c
      obtain ⟨callee, args, ts⟩ := c
      simp only at hu
      cases callee with
      | value f => simp at hu
      | invoke r m => simp at hu
      | builtin b =>
        cases b <;> simp only [reduceCtorEq] at hu
        simp only [BOp, AOp, hp, hr, optE_some, optE_none]; exact k
    · rename_i hr
      obtain ⟨h', h1, h2⟩ := eEffs_sound R hm
      refine ⟨h', h2, fun K k => ?_⟩
      cases op <;> first
        | (simp only [effOp, reduceCtorEq] at h1; done)
        | (simp only [BOp, AOp, h1, optE_some]; exact k)
        | skip
      · simp only [BOp, AOp, hp, optE_none, readOp_conv_none h1, h1, optE_some]; exact k
      · rename_i c
        obtain ⟨callee, args, ts⟩ := c
        cases callee with
        | value f => simp [effOp] at h1
        | invoke r m => simp [effOp] at h1
        | builtin b =>
          cases b <;> first
            | (simp only [effOp, reduceCtorEq] at h1; done)
            | (simp only [BOp, AOp, h1, optE_some]; exact k)
end
end Go.Am
