/- The operations that ask nothing of memory, second part: places, parts of values, texts, calls of len, min, max. -/
import Derived.Test.YtodmfjhjaegoeaaGreatDoorAmPure
set_option linter.unusedVariables false
set_option linter.unusedSimpArgs false
namespace Go.Am

def aConv (P : Program) (src dst : TypeId) (x : Value) : Option Value :=
  match P.underlying src, P.underlying dst, x with
  | some _, some (.int k), .int _ n => some (.int k (k.wrap n))
  | some .string, some .string, .string s => some (.string s)
  | _, _, _ => none

theorem aConv_sound {P : Program} {G : Gh} {src dst : TypeId} {x x' r : Value} (h : aConv P src dst x = some r) (hx : VR G x x') : (∀ w, (convert src dst x').run P w = .ok r w) ∧ plainAtom r = true := by
  unfold aConv at h
  split at h <;> (try (cases h; done))
  · rename_i hs hd
    have e := hx.of_plainAtom rfl; subst e
    simp only [Option.some.injEq] at h; subst h
    refine ⟨fun w => ?_, rfl⟩
    simp [convert, run_underlying hs, run_underlying hd, Conv.intToInt]
  · rename_i hs hd
    have e := hx.of_plainAtom rfl; subst e
    simp only [Option.some.injEq] at h; subst h
    refine ⟨fun w => ?_, rfl⟩
    simp [convert, run_underlying hs, run_underlying hd]

def aUn (op : UnOp) : Value → Option Value
  | .int k n => match op with
    | .neg => some (.int k (k.wrap (0 - n)))
    | .xor => some (.int k (ixor k (if k.signed then -1 else k.max) n))
    | _ => none
  | .bool b => match op with
    | .not => some (.bool !b)
    | _ => none
  | _ => none

theorem aUn_sound {P : Program} {G : Gh} {op : UnOp} {x x' r : Value} (h : aUn op x = some r) (hx : VR G x x') : (∀ w, (Op.unary op x').run P w = .ok r w) ∧ plainAtom r = true := by
  unfold aUn at h
  split at h <;> (try (cases h; done))
  · have e := hx.of_plainAtom rfl; subst e
    cases op <;> simp only [reduceCtorEq, Option.some.injEq] at h <;> subst h <;> exact ⟨fun w => by simp [Op.unary, Op.intArith, Op.intBits, ixor], rfl⟩
  · have e := hx.of_plainAtom rfl; subst e
    cases op <;> simp only [reduceCtorEq, Option.some.injEq] at h <;> subst h <;> exact ⟨fun w => by simp [Op.unary], rfl⟩

/-- Bounds of a slice expression. -/
def bnd (y : Nat) : Option Value → Nat → Option Nat
  | none, d => some d
  | some (.int _ i), _ => if 0 ≤ i ∧ i ≤ y then some i.toNat else none
  | some _, _ => none

theorem bound_sound {P : Program} {w : World} {y : Nat} {k : IntKind} {i : Int} (c : BoundsCode) (h : 0 ≤ i ∧ i ≤ y) : (Instr.sliceBound (.int k i) y c).run P w = .ok i.toNat w := by
  simp [Instr.sliceBound, asIntOf, h]

def isTup : Value → Bool
  | .tuple _ => true
  | _ => false

def isArrT (P : Program) (t : TypeId) : Bool := match P.underlying t with | some (.array _ _) => true | _ => false

def aSliceS (s : ByteArray) (lo hi : Option Value) : Option Value :=
  match bnd s.size hi s.size with
  | some h => match bnd h lo 0 with
    | some l => some (.string (s.extract l h))
    | none => none
  | none => none

/-- A slice of a slice of len elements of so many cells: what is behind len isn't asked for. -/
def aSliceV (sz : Nat) (a : Option Addr) (len cap : Nat) (lo hi mx : Option Value) : Option Value :=
  match bnd len mx len with
  | some m => match bnd m hi len with
    | some h => match bnd h lo 0 with
      | some l =>
        if len < h ∨ (mx.isSome = true ∧ hi.isSome = false) then none else
        match a with
        | none => some (.slice none 0 0)
        | some a =>
          if l = h then some (.slice (some ⟨0, 0, none⟩) 0 1)
          else match a.spot with
            | none => none
            | some e => some (.slice (some ⟨a.block, a.off + l * sz, some e⟩) (h - l) (if (mx.isSome = true ∧ m = h) ∨ (mx.isSome = false ∧ cap = len ∧ h = len) then h - l else h - l + 1))
      | none => none
    | none => none
  | none => none

def OVR (G : Gh) : Option Value → Option Value → Prop
  | none, none => True
  | some v, some v' => VR G v v'
  | _, _ => False

theorem bnd_none {y d r : Nat} (h : bnd y none d = some r) : r = d := by simpa [bnd] using h.symm
theorem bnd_some {y d r : Nat} {v : Value} (h : bnd y (some v) d = some r) : ∃ k i, v = .int k i ∧ 0 ≤ i ∧ i ≤ y ∧ r = i.toNat := by
  cases v <;> simp only [bnd, reduceCtorEq] at h
  rename_i k i
  split at h
  · rename_i hi; cases h; exact ⟨k, i, rfl, hi.1, hi.2, rfl⟩
  · cases h

theorem run_bound {P : Program} {w : World} {y r : Nat} {k : IntKind} {i : Int} {c : BoundsCode} (h0 : 0 ≤ i) (h1 : i ≤ y) (hr : r = i.toNat) : (Instr.sliceBound (.int k i) y c).run P w = .ok r w := by
  subst hr; simp [Instr.sliceBound, asIntOf, h0, h1]

theorem bnd_cases {P : Program} {G : Gh} {y d r : Nat} {o o' : Option Value} (h : bnd y o d = some r) (hr : OVR G o o') :
    (o = none ∧ o' = none ∧ r = d) ∨ ∃ v, o = some v ∧ o' = some v ∧ r ≤ y ∧ ∀ Y, y ≤ Y → ∀ c w, (Instr.sliceBound v Y c).run P w = .ok r w := by
  cases o with
  | none => cases o' with
    | none => exact .inl ⟨rfl, rfl, bnd_none h⟩
    | some v => exact hr.elim
  | some v => cases o' with
    | none => exact hr.elim
    | some v' =>
      obtain ⟨k, i, rfl, h0, h1, h2⟩ := bnd_some h
      have e := VR.of_plainAtom hr rfl; subst e
      exact .inr ⟨_, rfl, rfl, by omega, fun Y hY c w => run_bound h0 (by omega) h2⟩

/-- The bounds as the model takes them: where what is behind len isn't asked for, they are the abstract ones. -/
theorem bounds_sound {P : Program} {G : Gh} {b : Bool} {len cap m h l : Nat} {lo hi mx lo' hi' mx' : Option Value} (hc : len ≤ cap)
    (hm : bnd len mx len = some m) (hh : bnd m hi len = some h) (hl : bnd h lo 0 = some l) (hx : ¬ (mx.isSome = true ∧ hi.isSome = false))
    (r1 : OVR G lo lo') (r2 : OVR G hi hi') (r3 : OVR G mx mx') (hlen : h ≤ len) :
    ∃ m', (∀ w, (Instr.sliceBounds b len cap lo' hi' mx').run P w = .ok (l, h, m') w) ∧ h ≤ m' ∧ m' ≤ cap ∧ (mx.isSome = true → m' = m) ∧ (mx.isSome = false → m' = cap) ∧ l ≤ h := by
  rcases bnd_cases (P := P) hm r3 with ⟨rfl, rfl, e1⟩ | ⟨v1, rfl, rfl, e1, f1⟩
  · refine ⟨cap, ?_, by omega, Nat.le_refl _, by simp, fun _ => rfl, ?_⟩
    · intro w
      rcases bnd_cases (P := P) hh r2 with ⟨rfl, rfl, e2⟩ | ⟨v2, rfl, rfl, e2, f2⟩ <;>
      rcases bnd_cases (P := P) hl r1 with ⟨rfl, rfl, e3⟩ | ⟨v3, rfl, rfl, e3, f3⟩ <;>
      simp_all [Instr.sliceBounds]
    · rcases bnd_cases (P := P) hl r1 with ⟨rfl, rfl, e3⟩ | ⟨v3, rfl, rfl, e3, f3⟩ <;> omega
  · rcases bnd_cases (P := P) hh r2 with ⟨rfl, rfl, e2⟩ | ⟨v2, rfl, rfl, e2, f2⟩
    · exact absurd ⟨rfl, rfl⟩ hx
    refine ⟨m, ?_, by omega, by omega, fun _ => rfl, by simp, ?_⟩
    · intro w
      rcases bnd_cases (P := P) hl r1 with ⟨rfl, rfl, e3⟩ | ⟨v3, rfl, rfl, e3, f3⟩ <;>
      simp_all [Instr.sliceBounds]
    · rcases bnd_cases (P := P) hl r1 with ⟨rfl, rfl, e3⟩ | ⟨v3, rfl, rfl, e3, f3⟩ <;> omega

def aSlice (P : Program) (t : TypeId) (x : Value) (lo hi mx : Option Value) : Option Value :=
  match P.underlying t, x with
  | some .string, .string s => if mx.isSome = true then none else aSliceS s lo hi
  | some (.slice el), .slice a len cap => if (P.info? el).isSome = true then aSliceV (P.cellsOf el) a len cap lo hi mx else none
  | _, _ => none

theorem run_sizeOf {P : Program} {t : TypeId} (h : (P.info? t).isSome = true) (w : World) : (sizeOf t).run P w = .ok (P.cellsOf t) w := by
  obtain ⟨i, hi⟩ := Option.isSome_iff_exists.1 h
  simp [sizeOf, typeInfo, hi, Program.cellsOf]

theorem aSlice_sound {P : Program} {G : Gh} {t : TypeId} {x x' r : Value} {lo hi mx lo' hi' mx' : Option Value} (h : aSlice P t x lo hi mx = some r) (hx : VR G x x')
    (r1 : OVR G lo lo') (r2 : OVR G hi hi') (r3 : OVR G mx mx') : ∃ r', (∀ w, (Instr.sliceAt t x' lo' hi' mx').run P w = .ok r' w) ∧ VR G r r' := by
  unfold aSlice at h
  split at h <;> (try (cases h; done))
  · rename_i s hu
    have e := hx.of_plainAtom rfl; subst e
    split at h
    · cases h
    · rename_i hm
      have hmn : mx = none := by cases mx <;> simp at hm ⊢
      subst hmn
      cases mx' with
      | some v => exact r3.elim
      | none =>
        unfold aSliceS at h
        cases hh : bnd s.size hi s.size with
        | none => simp [hh] at h
        | some hv =>
          simp only [hh] at h
          cases hl : bnd hv lo 0 with
          | none => simp [hl] at h
          | some l =>
            simp only [hl, Option.some.injEq] at h; subst h
            have hle : hv ≤ s.size := by
              cases hi with
              | none => have := bnd_none hh; omega
              | some v => obtain ⟨k, i, rfl, h0, h1, h2⟩ := bnd_some hh; omega
            obtain ⟨m', hrun, _⟩ := bounds_sound (P := P) (b := false) (Nat.le_refl s.size) (m := s.size) (mx := none) (mx' := none) rfl hh hl (by simp) r1 r2 trivial hle
            refine ⟨_, fun w => ?_, .plain rfl⟩
            simp only [Instr.sliceAt, Sem.run_bind, run_underlying hu, Result.andThen_ok, Instr.slice]
            simp [hrun]
  · rename_i el a len cap hu
    split at h <;> (try (cases h; done))
    rename_i hel
    unfold aSliceV at h
    cases hm : bnd len mx len with
    | none => simp [hm] at h
    | some m =>
    simp only [hm] at h
    cases hh : bnd m hi len with
    | none => simp [hh] at h
    | some hv =>
    simp only [hh] at h
    cases hl : bnd hv lo 0 with
    | none => simp [hl] at h
    | some l =>
    simp only [hl] at h
    split at h
    · cases h
    rename_i hcond
    have hlen : hv ≤ len := by omega
    have hcx : ¬ (mx.isSome = true ∧ hi.isSome = false) := fun q => hcond (.inr q)
    have run : ∀ (c : Option Addr) (capC m' : Nat), (∀ w, (Instr.sliceBounds true len capC lo' hi' mx').run P w = .ok (l, hv, m') w) →
        ∀ w, (Instr.sliceAt t (.slice c len capC) lo' hi' mx').run P w = .ok (.slice (if m' = l then c else c.map (·.add (l * P.cellsOf el))) (hv - l) (m' - l)) w := by
      intro c capC m' hr w
      simp only [Instr.sliceAt, Sem.run_bind, run_underlying hu, Result.andThen_ok, Instr.slice]
      simp [hr, run_sizeOf hel]
    cases hx with
    | plain hp =>
      cases a with
      | some a => simp [plainAtom] at hp
      | none =>
        simp only [plainAtom, Bool.and_eq_true, beq_iff_eq] at hp
        obtain ⟨rfl, rfl⟩ := hp
        simp only [Option.some.injEq] at h; subst h
        obtain ⟨m', hrun, h1, h2, _, _, h5⟩ := bounds_sound (P := P) (b := true) (Nat.le_refl 0) hm hh hl hcx r1 r2 r3 hlen
        refine ⟨_, run none 0 m' hrun, ?_⟩
        have : hv - l = 0 := by omega
        have e2 : m' - l = 0 := by omega
        rw [this, e2]
        simp only [Option.map_none, ite_self]
        exact .plain rfl
    | empty =>
      rename_i c capC
      obtain ⟨m', hrun, h1, h2, _, _, h5⟩ := bounds_sound (P := P) (b := true) (Nat.zero_le capC) hm hh hl hcx r1 r2 r3 hlen
      have e0 : l = hv := by omega
      simp only [e0, if_true, Option.some.injEq] at h; subst h
      refine ⟨_, run (some c) capC m' hrun, ?_⟩
      have : hv - l = 0 := by omega
      rw [this]
      split
      · exact .empty
      · exact .empty
    | slice hg g1 g2 g3 =>
      rename_i id off e x capC
      obtain ⟨m', hrun, h1, h2, h3, h4, h5⟩ := bounds_sound (P := P) (b := true) g1 hm hh hl hcx r1 r2 r3 hlen
      simp only at h
      split at h
      · rename_i hlh
        simp only [Option.some.injEq] at h; subst h
        refine ⟨_, run _ capC m' hrun, ?_⟩
        have : hv - l = 0 := by omega
        rw [this]
        split
        · exact .empty
        · exact .empty
      · rename_i hlh
        simp only [Option.some.injEq] at h; subst h
        refine ⟨_, run _ capC m' hrun, ?_⟩
        rw [if_neg (by omega : ¬ m' = l)]
        have hadd : (⟨x.cb, x.d + off, none⟩ : Addr).add (l * P.cellsOf el) = ⟨x.cb, x.d + (off + l * P.cellsOf el), none⟩ := by
          unfold Addr.add
          split
          · rename_i hz; simp [hz]
          · simp [Nat.add_assoc]
        simp only [Option.map_some, hadd]
        refine .slice hg (by omega) ?_ ?_
        · intro hcap
          split at hcap
          · rename_i hc
            rcases hc with ⟨q1, q2⟩ | ⟨q1, q2, q3⟩
            · have := h3 q1; omega
            · have := h4 q1; have := g2 q2; omega
          · omega
        · intro hz
          have h0 : off = 0 := by omega
          have := g3 h0
          have hle : (m' - l) * x.es ≤ capC * x.es := Nat.mul_le_mul_right _ (by omega)
          omega

end Go.Am
