/- How the abstract memory and the model's go on side by side: a new object, a change of one. -/
import Derived.Test.YtodmfjhjaegoeaaGreatDoorAmRel
set_option linter.unusedVariables false
set_option linter.unusedSimpArgs false
namespace Go.Am

def gput (G : Gh) (id e : Nat) (x : Ent) : Gh := fun i k => if i = id ∧ k = e then some x else G i k

theorem gput_same (G : Gh) (id e : Nat) (x : Ent) : gput G id e x id e = some x := by simp [gput]
theorem gput_other {G : Gh} {id e : Nat} {x : Ent} {i k : Nat} (h : i ≠ id) : gput G id e x i k = G i k := by simp [gput, h]
theorem le_gput {G : Gh} {id e : Nat} {x : Ent} (h : G id e = none) : le G (gput G id e x) := fun i k y q => by
  by_cases hc : i = id ∧ k = e
  · obtain ⟨rfl, rfl⟩ := hc; rw [h] at q; cases q
  · simp [gput, hc, q]
theorem gput_cases {G : Gh} {id e : Nat} {x : Ent} {i k : Nat} {y : Ent} (h : gput G id e x i k = some y) : (i = id ∧ k = e ∧ y = x) ∨ G i k = some y := by
  unfold gput at h
  split at h
  · rename_i hc; exact .inl ⟨hc.1, hc.2, (Option.some.inj h).symm⟩
  · exact .inr h

theorem Rel.none_len {P : Program} {G : Gh} {h : Heap} {H : Array Obj} (R : Rel P G h H) (e : Nat) : G h.length e = none := by
  cases hx : G h.length e with
  | none => rfl
  | some x => obtain ⟨o, ho, _⟩ := R.dom _ _ _ hx; simp at ho

theorem NF.congr {H H' : Array Obj} {c : Nat} (h : NF H c) (he : H'[c]? = H[c]?) : NF H' c := by
  obtain ⟨cs, t, fr, h1, h2⟩ := h
  exact ⟨cs, t, fr, he.trans h1, h2⟩

/-- What an object must be in the new state. -/
structure ObjOk (P : Program) (G : Gh) (H : Array Obj) (id : Nat) (o : AObj) : Prop where
  blk : ∀ b : Blk, o = .blk b → ∀ e x, G id e = some x → b.lo ≤ e →
      ∃ cs fr, H[x.cb]? = some (.cells cs b.elem fr) ∧ cs.size = x.sz ∧ x.d + e ≤ x.sz ∧ ∀ i, i < e → VR G (b.cells.getD i Go.undef) (cs.getD (x.d + i) Go.undef)
  own : ∀ b : Blk, o = .blk b → b.own = true → b.lo ≤ b.cells.length ∧ ∃ x, G id b.cells.length = some x ∧ NF H x.cb
  one : ∀ b : Blk, o = .blk b → ∀ i, i < b.cells.length → (b.cells.getD i Go.undef).oneCell = true
  obj : isBlk o = false → ∃ x o', G id 0 = some x ∧ H[x.cb]? = some o' ∧ ObjR G o o'

/-- A new object behind all others. -/
theorem Rel.add {P : Program} {G : Gh} {h : Heap} {H : Array Obj} (R : Rel P G h H) (o : AObj) (O : Obj) (e : Nat) (x : Ent) (hx : x.cb = H.size)
    (he : EOk P e x o) (hok : ObjOk P (gput G h.length e x) (H.push O) h.length o) :
    Rel P (gput G h.length e x) (h ++ [o]) (H.push O) ∧ Ev G h H (gput G h.length e x) (h ++ [o]) (H.push O) := by
  have hle : le G (gput G h.length e x) := le_gput (R.none_len e)
  have hH : ∀ c, c < H.size → (H.push O)[c]? = H[c]? := fun c hc => by rw [Array.getElem?_push]; simp; omega
  have hold : ∀ id (o' : AObj), (h ++ [o])[id]? = some o' → (id = h.length ∧ o' = o) ∨ h[id]? = some o' := fun id o' ho => by
    by_cases hi : id < h.length
    · exact .inr (by rwa [List.getElem?_append_left hi] at ho)
    · rw [List.getElem?_append_right (by omega)] at ho
      by_cases hz : id - h.length = 0
      · rw [hz] at ho; exact .inl ⟨by omega, by simpa using ho.symm⟩
      · obtain ⟨k, hk⟩ : ∃ k, id - h.length = k + 1 := ⟨id - h.length - 1, by omega⟩
        rw [hk] at ho; simp at ho
  have hlt : ∀ id (o' : AObj), h[id]? = some o' → id < h.length := fun id o' ho => (List.getElem?_eq_some_iff.1 ho).1
  have hext : ∀ id, id < h.length → (Ext h id ↔ Ext (h ++ [o]) id) := fun id hi => by unfold Ext; rw [List.getElem?_append_left hi]
  have hdl : ∀ id e x, G id e = some x → id < h.length := fun id e x q => let ⟨o', ho, _⟩ := R.dom _ _ _ q; hlt _ _ ho
  refine ⟨⟨?_, ?_, ?_, ?_, ?_, ?_, ?_⟩, ⟨hle, by simp, fun b hb _ => hH b hb, ?_, fun id e' y hy => hext id (hdl _ _ _ hy), fun id r hr => ⟨r, by rw [List.getElem?_append_left (hlt _ _ hr)]; exact hr⟩⟩⟩
  · intro id e' y hy
    rcases gput_cases hy with ⟨rfl, rfl, rfl⟩ | hy
    · exact ⟨o, by simp, he⟩
    · obtain ⟨o', ho, hk⟩ := R.dom _ _ _ hy
      exact ⟨o', by rw [List.getElem?_append_left (hlt _ _ ho)]; exact ho, hk⟩
  · intro id e' y hy
    rcases gput_cases hy with ⟨rfl, rfl, rfl⟩ | hy
    · simp [hx]
    · have := R.bnd _ _ _ hy; simp; omega
  · intro id b hb e' y hy hlo
    rcases hold _ _ hb with ⟨rfl, hbo⟩ | hb
    · exact hok.blk b hbo.symm e' y hy hlo
    · rw [gput_other (by have := hlt _ _ hb; omega)] at hy
      obtain ⟨cs, fr, h1, h2, h3, h4⟩ := R.blk id b hb e' y hy hlo
      exact ⟨cs, fr, (hH _ (R.bnd _ _ _ hy)).trans h1, h2, h3, fun i hi => (h4 i hi).mono hle⟩
  · intro id b hb how
    rcases hold _ _ hb with ⟨rfl, hbo⟩ | hb
    · exact hok.own b hbo.symm how
    · obtain ⟨h1, y, h2, h3⟩ := R.own id b hb how
      exact ⟨h1, y, hle _ _ _ h2, h3.congr (hH _ (R.bnd _ _ _ h2))⟩
  · intro id b hb i hi
    rcases hold _ _ hb with ⟨rfl, hbo⟩ | hb
    · exact hok.one b hbo.symm i hi
    · exact R.one id b hb i hi
  · intro id o' ho hn
    rcases hold _ _ ho with ⟨rfl, rfl⟩ | ho
    · exact hok.obj hn
    · obtain ⟨y, O', h1, h2, h3⟩ := R.obj id o' ho hn
      exact ⟨y, O', hle _ _ _ h1, (hH _ (R.bnd _ _ _ h1)).trans h2, h3.mono hle⟩
  · intro id id' e₁ e₂ y y' hy hy' hc
    rcases gput_cases hy with ⟨i1, _, y1⟩ | hy1
    · rcases gput_cases hy' with ⟨i2, _, _⟩ | hy2
      · exact .inl (i1.trans i2.symm)
      · have := R.bnd _ _ _ hy2; rw [y1] at hc; omega
    · rcases gput_cases hy' with ⟨_, _, y2⟩ | hy2
      · have := R.bnd _ _ _ hy1; rw [y2] at hc; omega
      · rcases R.disj _ _ _ _ _ _ hy1 hy2 hc with hi | ⟨a, b⟩
        · exact .inl hi
        · exact .inr ⟨(hext _ (hdl _ _ _ hy1)).1 a, (hext _ (hdl _ _ _ hy2)).1 b⟩
  · intro id e' y hy
    rcases gput_cases hy with ⟨rfl, rfl, rfl⟩ | hy
    · exact .inr (by omega)
    · exact .inl ⟨_, _, hy, rfl⟩

/-- A change of one object that is the abstract heap's own. -/
theorem Rel.upd {P : Program} {G : Gh} {h : Heap} {H : Array Obj} (R : Rel P G h H) {id : Nat} {o o' : AObj} (ho : h[id]? = some o) (hne : ¬ Ext h id)
    (hne' : ∀ b, o' = .blk b → b.own = true) (hlp : ∀ r, o = .loop r → ∃ r', o' = .loop r') {G' : Gh} (hle : le G G') (hG : ∀ i e, i ≠ id → G' i e = G i e) {H' : Array Obj} (hsz : H.size ≤ H'.size)
    (hH : ∀ c, c < H.size → (∀ e x, G id e = some x → x.cb ≠ c) → H'[c]? = H[c]?)
    (hnew : ∀ e x, G' id e = some x → EOk P e x o' ∧ x.cb < H'.size ∧ ((∃ e₀ x₀, G id e₀ = some x₀ ∧ x₀.cb = x.cb) ∨ H.size ≤ x.cb))
    (hok : ObjOk P G' H' id o') : Rel P G' (h.set id o') H' ∧ Ev G h H G' (h.set id o') H' := by
  have hlt : id < h.length := (List.getElem?_eq_some_iff.1 ho).1
  have hset : ∀ i, i ≠ id → (h.set id o')[i]? = h[i]? := fun i hi => List.getElem?_set_ne (Ne.symm hi)
  have hsame : (h.set id o')[id]? = some o' := by simp [hlt]
  have hex' : ¬ Ext (h.set id o') id := fun ⟨b, hb, hf⟩ => by
    rw [hsame] at hb
    have := hne' b (Option.some.inj hb)
    rw [hf] at this
    cases this
  have hext : ∀ i, (Ext h i ↔ Ext (h.set id o') i) := fun i => by
    by_cases hi : i = id
    · subst hi; exact ⟨fun q => absurd q hne, fun q => absurd q hex'⟩
    · unfold Ext; rw [hset i hi]
  have hother : ∀ i e x, i ≠ id → G i e = some x → H'[x.cb]? = H[x.cb]? := fun i e x hi hx => hH _ (R.bnd _ _ _ hx) fun e₀ x₀ h₀ hc => by
    rcases R.disj _ _ _ _ _ _ h₀ hx hc with hq | hq
    · exact hi hq.symm
    · exact hne hq.1
  refine ⟨⟨?_, ?_, ?_, ?_, ?_, ?_, ?_⟩, ⟨hle, hsz, ?_, ?_, fun i e x _ => hext i, fun i r hr => by
    by_cases hi : i = id
    · subst hi; rw [ho] at hr; obtain ⟨r', h'⟩ := hlp r (Option.some.inj hr); exact ⟨r', by rw [hsame, h']⟩
    · exact ⟨r, by rw [hset i hi]; exact hr⟩⟩⟩
  · intro i e x hx
    by_cases hi : i = id
    · subst hi; exact ⟨o', hsame, (hnew e x hx).1⟩
    · rw [hG i e hi] at hx; rw [hset i hi]; exact R.dom _ _ _ hx
  · intro i e x hx
    by_cases hi : i = id
    · subst hi; exact (hnew e x hx).2.1
    · rw [hG i e hi] at hx; exact Nat.lt_of_lt_of_le (R.bnd _ _ _ hx) hsz
  · intro i b hb e x hx hlo
    by_cases hi : i = id
    · subst hi; rw [hsame] at hb; exact hok.blk b (Option.some.inj hb) e x hx hlo
    · rw [hG i e hi] at hx; rw [hset i hi] at hb
      obtain ⟨cs, fr, h1, h2, h3, h4⟩ := R.blk i b hb e x hx hlo
      exact ⟨cs, fr, (hother i e x hi hx).trans h1, h2, h3, fun j hj => (h4 j hj).mono hle⟩
  · intro i b hb how
    by_cases hi : i = id
    · subst hi; rw [hsame] at hb; exact hok.own b (Option.some.inj hb) how
    · rw [hset i hi] at hb
      obtain ⟨h1, x, h2, h3⟩ := R.own i b hb how
      exact ⟨h1, x, hle _ _ _ h2, h3.congr (hother i _ x hi h2)⟩
  · intro i b hb j hj
    by_cases hi : i = id
    · subst hi; rw [hsame] at hb; exact hok.one b (Option.some.inj hb) j hj
    · rw [hset i hi] at hb; exact R.one i b hb j hj
  · intro i o₁ ho₁ hn
    by_cases hi : i = id
    · subst hi; rw [hsame] at ho₁; cases ho₁; exact hok.obj hn
    · rw [hset i hi] at ho₁
      obtain ⟨x, O', h1, h2, h3⟩ := R.obj i o₁ ho₁ hn
      exact ⟨x, O', hle _ _ _ h1, (hother i 0 x hi h1).trans h2, h3.mono hle⟩
  · intro i j e₁ e₂ x y hx hy hc
    by_cases hi : i = id
    · by_cases hj : j = id
      · exact .inl (hi.trans hj.symm)
      · subst hi
        rw [hG j e₂ hj] at hy
        rcases (hnew e₁ x hx).2.2 with ⟨e₀, x₀, h0, hc0⟩ | hge
        · rcases R.disj _ _ _ _ _ _ h0 hy (hc0.trans hc) with hq | hq
          · exact .inl hq
          · exact absurd hq.1 hne
        · have := R.bnd _ _ _ hy; omega
    · by_cases hj : j = id
      · subst hj
        rw [hG i e₁ hi] at hx
        rcases (hnew e₂ y hy).2.2 with ⟨e₀, x₀, h0, hc0⟩ | hge
        · rcases R.disj _ _ _ _ _ _ h0 hx (hc0.trans hc.symm) with hq | hq
          · exact .inl hq.symm
          · exact absurd hq.1 hne
        · have := R.bnd _ _ _ hx; omega
      · rw [hG i e₁ hi] at hx; rw [hG j e₂ hj] at hy
        rcases R.disj _ _ _ _ _ _ hx hy hc with hq | hq
        · exact .inl hq
        · exact .inr ⟨(hext i).1 hq.1, (hext j).1 hq.2⟩
  · intro c hc hk
    refine hH c hc fun e x hx hxc => hne (hk id e x hx hxc)
  · intro i e x hx
    by_cases hi : i = id
    · subst hi; exact (hnew e x hx).2.2
    · rw [hG i e hi] at hx; exact .inl ⟨_, _, hx, rfl⟩

end Go.Am
