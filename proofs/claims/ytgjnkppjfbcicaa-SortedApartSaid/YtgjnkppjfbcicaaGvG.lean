/- What is kept while memory grows; operations that make objects and rows. -/
import Derived.Test.YtgjnkppjfbcicaaGvF
namespace Go.VS
open Go.RowKit

section
variable {E0 E : Env} {N : Nat} {Γ : St} {a : Act}

/-- The one law on growth: what an operation writes is one owned row, or new. -/
theorem HoldsE.grow (h : HoldsE E0 E N Γ a) {w' : World} {row : Option Nat} {I' : Nat → Nat → Prop} {θ' : Nat → Option (Value × TypeId)} {ctr' : Nat} {lv' : List (Nat × TypeId)}
    (hg : E.w.grownBy w' row)
    (hrow : ∀ g, row = some g → E.base ≤ g ∧ (∀ o, o < Γ.hp.length → E.ρ o ≠ g) ∧ ∀ off, E.I g off → w'.cell? ⟨g, off, none⟩ = E.w.cell? ⟨g, off, none⟩)
    (hI : ∀ b o, E.I b o → I' b o) (hI' : ∀ b o, I' b o → E.I b o ∨ (b < w'.heap.size ∧ (row = some b ∨ E.w.heap.size ≤ b)))
    (hc : E.ctr ≤ ctr') (hθ : ∀ τ, τ < E.ctr → θ' τ = E.θ τ)
    (hlv : ∀ τ e, (τ, e) ∈ lv' → ((τ, e) ∈ Γ.lv ∧ ∀ u, E.θ τ = some u → u.1.ownBlock = none ∨ u.1.ownBlock ≠ row) ∨
      (τ = E.ctr ∧ τ < ctr' ∧ ∃ v, θ' τ = some (v, e) ∧ Own { E with I := I', θ := θ', ctr := ctr', w := w' } Γ.hp.length (v, e) ∧ ∀ g, v.ownBlock = some g → row = some g ∨ E.w.heap.size ≤ g)) :
    Le E { E with I := I', θ := θ', ctr := ctr', w := w' } ∧ HoldsE E0 { E with I := I', θ := θ', ctr := ctr', w := w' } N { Γ with lv := lv', ctr := ctr' } a := by
  have hle : Le E { E with I := I', θ := θ', ctr := ctr', w := w' } := by
    refine ⟨⟨hc, hθ, fun b o hb => ⟨hI b o hb, ?_⟩⟩, Nat.le_refl _, fun _ _ => rfl, fun _ _ => rfl⟩
    by_cases hr : some b = row
    · exact (hrow b hr.symm).2.2 o hb
    · exact World.cell?_of_block (hg.block b (h.objs.inb b o hb) hr)
  -- an old token that is kept
  have hold : ∀ τ e, (τ, e) ∈ Γ.lv → ∀ u, E.θ τ = some u → τ < E.ctr ∧ u.2 = e ∧ ∃ n xs, E.w.ownsRow E.base e (E.sz e) u.1 n xs ∧ ∀ g, u.1.ownBlock = some g → (∀ off, E.I g off → off < n * E.sz e) ∧ ∀ o, o < Γ.hp.length → E.ρ o ≠ g := by
    intro τ e he u hu
    obtain ⟨ht, v, hv, n, xs, hown, hg'⟩ := h.toks.own τ e he
    rw [hu] at hv
    injection hv with hv
    subst hv
    exact ⟨ht, rfl, n, xs, hown, hg'⟩
  refine ⟨hle, rfl, ⟨h.objs.nob, ?_, ?_, h.objs.inj, ?_⟩, ⟨?_, ?_⟩, ⟨h.ext.le.trans hle, h.ext.base, h.ext.sz, hg.os.trans h.ext.os, hg.tape.trans h.ext.tape, hg.output.trans h.ext.output, Nat.le_trans h.ext.size hg.size, ?_, h.ext.newo, ?_⟩, h.size, h.defers, fun t => (h.tm t).le hle⟩
  · intro o cs ho
    obtain ⟨us, ex, e, hb, hr, h1⟩ := h.objs.obj o cs ho
    have hlt : E.ρ o < E.w.heap.size := lt_of_block hb
    have hol : o < Γ.hp.length := (List.getElem?_eq_some_iff.1 ho).1
    refine ⟨us, ex, e, ?_, hr.le hle, h1⟩
    show w'.heap[E.ρ o]? = _
    rw [hg.block _ hlt (fun e' => (hrow _ e'.symm).2.1 o hol rfl)]
    exact hb
  · intro o off ho hi
    rcases hI' _ _ hi with h1 | ⟨_, h1 | h1⟩
    · exact h.objs.noI o off ho h1
    · exact (hrow _ h1).2.1 o ho rfl
    · obtain ⟨us, ex, e, hb, _⟩ := h.objs.obj o _ (List.getElem?_eq_getElem ho)
      have := lt_of_block hb
      exact absurd h1 (Nat.not_le.2 this)
  · intro b o hb
    rcases hI' b o hb with h1 | ⟨h1, _⟩
    · exact Nat.lt_of_lt_of_le (h.objs.inb b o h1) hg.size
    · exact h1
  · intro τ e he
    rcases hlv τ e he with ⟨hm, hne⟩ | ⟨_, ht', v, hv, hO, _⟩
    · obtain ⟨ht, v, hv, _⟩ := h.toks.own τ e hm
      obtain ⟨_, _, n, xs, hown, hg'⟩ := hold τ e hm _ hv
      refine ⟨Nat.lt_of_lt_of_le ht hc, v, (hθ τ ht).trans hv, n, xs, hown.kept hg (hne _ hv), fun g hgo => ⟨fun off hi => ?_, (hg' g hgo).2⟩⟩
      rcases hI' _ _ hi with h1 | ⟨_, h1 | h1⟩
      · exact (hg' g hgo).1 off h1
      · rcases hne _ hv with hne | hne
        · exact absurd hgo (by simp only at hne ⊢; rw [hne]; simp)
        · exact absurd (hgo.trans h1.symm) hne
      · have := (hown.lt g hgo).2
        omega
    · exact ⟨ht', v, hv, hO⟩
  · intro τ τ' e e' u u' g he he' hu hu' hgo hgo'
    rcases hlv τ e he with ⟨hm, hne⟩ | ⟨ht, _, v, hv, _, hn⟩ <;> rcases hlv τ' e' he' with ⟨hm', hne'⟩ | ⟨ht', _, v', hv', _, hn'⟩
    · have h1 := (h.toks.own τ e hm).1
      have h2 := (h.toks.own τ' e' hm').1
      exact h.toks.sep τ τ' e e' u u' g hm hm' ((hθ τ h1).symm.trans hu) ((hθ τ' h2).symm.trans hu') hgo hgo'
    · have h1 := (h.toks.own τ e hm).1
      have hu2 := (hθ τ h1).symm.trans hu
      obtain ⟨_, _, n, xs, hown, _⟩ := hold τ e hm _ hu2
      have hlt := (hown.lt g hgo).2
      have : (v', e') = u' := by have := hv'.symm.trans hu'; injection this
      subst this
      rcases hn' g hgo' with h4 | h4
      · rcases hne u hu2 with hne | hne
        · rw [hne] at hgo; cases hgo
        · exact absurd (hgo.trans h4.symm) hne
      · omega
    · have h1 := (h.toks.own τ' e' hm').1
      have hu2 := (hθ τ' h1).symm.trans hu'
      obtain ⟨_, _, n, xs, hown, _⟩ := hold τ' e' hm' _ hu2
      have hlt := (hown.lt g hgo').2
      have : (v, e) = u := by have := hv.symm.trans hu; injection this
      subst this
      rcases hn g hgo with h4 | h4
      · rcases hne' u' hu2 with hne | hne
        · rw [hne] at hgo'; cases hgo'
        · exact absurd (hgo'.trans h4.symm) hne
      · omega
    · omega
  · intro b hb hno
    show w'.heap[b]? = _
    rw [hg.block b (Nat.lt_of_lt_of_le hb h.ext.size) (fun e => by have := (hrow b e.symm).1; have := h.ext.base; omega)]
    exact h.ext.keep b hb hno
  · intro b o hb
    rcases hI' b o hb with h1 | ⟨_, h1 | h1⟩
    · exact h.ext.newI b o h1
    · exact .inr (by have := (hrow b h1).1; have := h.ext.base; omega)
    · exact .inr (Nat.le_trans h.ext.size h1)

/-- A value into a slot. -/
theorem HoldsE.put (h : HoldsE E0 E N Γ a) {d : Option Nat} {x : V} {v : Value} (hd : ∀ k, d = some k → k < N) (hx : Rel E x v) : HoldsE E0 E N (Γ.put d x) (a.put d v) := by
  cases d with
  | none => exact h
  | some d =>
    have hd' := hd d rfl
    refine ⟨h.ctr, h.objs, h.toks, h.ext, by simpa [Act.put] using h.size, h.defers, fun t => ?_⟩
    simp only [St.put, Act.put]
    by_cases ht : t = d
    · subst ht
      rw [if_pos rfl]
      have : t < a.tmps.size := by rw [h.size]; exact hd'
      simpa [Array.getD, this] using hx
    · rw [if_neg ht]
      have := h.tm t
      simp only [Array.getD_eq_getD_getElem?] at this ⊢
      rw [Array.getElem?_setIfInBounds_ne (fun e => ht e.symm)]
      exact this

/-- A new object. -/
theorem HoldsE.objX (h : HoldsE E0 E N Γ a) {cs : List V} {us ex : List Value} (e : TypeId) (hr : RelL E cs us) (h1 : ∀ u ∈ us ++ ex, u.oneCell' = true) :
    ∃ E', E'.w = E.w.alloc (.cells (us ++ ex).toArray e) ∧ E'.ρ Γ.hp.length = E.w.heap.size ∧ E'.cp Γ.hp.length = (us ++ ex).length ∧ Le E E' ∧ HoldsE E0 E' N { Γ with hp := Γ.hp ++ [cs] } a ∧ Rel E' (.ref Γ.hp.length 0) (.pointer (some ⟨E.w.heap.size, 0, none⟩)) := by
  let E' : Env := { E with ρ := fun o => if o = Γ.hp.length then E.w.heap.size else E.ρ o, cp := fun o => if o = Γ.hp.length then (us ++ ex).length else E.cp o, nobj := Γ.hp.length + 1, w := E.w.alloc (.cells (us ++ ex).toArray e) }
  have hlt : ∀ o, o < Γ.hp.length → E.ρ o < E.w.heap.size := fun o ho => by
    obtain ⟨_, _, _, hb, _⟩ := h.objs.obj o _ (List.getElem?_eq_getElem ho)
    exact lt_of_block hb
  have hle : Le E E' := by
    refine ⟨⟨Nat.le_refl _, fun _ _ => rfl, fun b o hb => ⟨hb, ?_⟩⟩, by show E.nobj ≤ _ + 1; rw [h.objs.nob]; omega, fun o ho => ?_, fun o ho => ?_⟩
    · exact World.cell?_alloc_lt _ _ _ (h.objs.inb b o hb)
    · show (if o = Γ.hp.length then _ else _) = _
      rw [if_neg (by rw [h.objs.nob] at ho; omega)]
    · show (if o = Γ.hp.length then _ else _) = _
      rw [if_neg (by rw [h.objs.nob] at ho; omega)]
  have hρ : ∀ o, o < Γ.hp.length → E'.ρ o = E.ρ o := fun o ho => if_neg (by omega)
  have hρn : E'.ρ Γ.hp.length = E.w.heap.size := if_pos rfl
  have hcp : ∀ o, o < Γ.hp.length → E'.cp o = E.cp o := fun o ho => if_neg (by omega)
  have hcpn : E'.cp Γ.hp.length = (us ++ ex).length := if_pos rfl
  refine ⟨E', rfl, hρn, hcpn, hle, ⟨h.ctr, ⟨by simp [E'], ?_, ?_, ?_, ?_⟩, ⟨?_, h.toks.sep⟩, ⟨h.ext.le.trans hle, h.ext.base, h.ext.sz, h.ext.os, h.ext.tape, h.ext.output, by show _ ≤ (E.w.alloc _).heap.size; simp; exact Nat.le_succ_of_le h.ext.size, ?_, ?_, h.ext.newI⟩, h.size, h.defers, fun t => (h.tm t).le hle⟩, ?_⟩
  · intro o cs' ho
    by_cases hol : o < Γ.hp.length
    · rw [List.getElem?_append_left hol] at ho
      obtain ⟨us', ex', e', hb, hr', h1', hl'⟩ := h.objs.obj o cs' ho
      refine ⟨us', ex', e', ?_, hr'.le hle, h1', by rw [hcp o hol]; exact hl'⟩
      rw [hρ o hol]
      exact (Below.heap_alloc _ _ _ (hlt o hol)).trans hb
    · have : o = Γ.hp.length := by
        have := (List.getElem?_eq_some_iff.1 ho).1
        simp at this
        omega
      subst this
      simp at ho
      subst ho
      refine ⟨us, ex, e, ?_, hr.le hle, h1, hcpn.symm⟩
      rw [hρn]
      exact heap_alloc_new _ _
  · intro o off ho hi
    by_cases hol : o < Γ.hp.length
    · rw [hρ o hol] at hi
      exact h.objs.noI o off hol hi
    · have : o = Γ.hp.length := by simp at ho; omega
      subst this
      rw [hρn] at hi
      exact absurd (h.objs.inb _ _ hi) (by omega)
  · intro o o' ho ho' he
    simp at ho ho'
    by_cases hol : o < Γ.hp.length <;> by_cases hol' : o' < Γ.hp.length
    · rw [hρ o hol, hρ o' hol'] at he
      exact h.objs.inj o o' hol hol' he
    · have : o' = Γ.hp.length := by omega
      subst this
      rw [hρ o hol, hρn] at he
      have := hlt o hol
      omega
    · have : o = Γ.hp.length := by omega
      subst this
      rw [hρ o' hol', hρn] at he
      have := hlt o' hol'
      omega
    · omega
  · intro b o hb
    show b < (E.w.alloc _).heap.size
    simp
    exact Nat.lt_succ_of_lt (h.objs.inb b o hb)
  · intro τ e' he
    obtain ⟨ht, v, hv, n, xs, hown, hg'⟩ := h.toks.own τ e' he
    refine ⟨ht, v, hv, n, xs, hown.alloc _, fun g hgo => ⟨(hg' g hgo).1, fun o ho => ?_⟩⟩
    simp at ho
    by_cases hol : o < Γ.hp.length
    · rw [hρ o hol]; exact (hg' g hgo).2 o hol
    · have : o = Γ.hp.length := by omega
      subst this
      rw [hρn]
      have := (hown.lt g hgo).2
      omega
  · intro b hb hno
    exact (Below.heap_alloc _ _ _ (Nat.lt_of_lt_of_le hb h.ext.size)).trans (h.ext.keep b hb hno)
  · intro o ho ho'
    by_cases hol : o < Γ.hp.length
    · rw [hρ o hol]; exact h.ext.newo o ho (by rw [h.objs.nob]; exact hol)
    · have : o = Γ.hp.length := by have : o < Γ.hp.length + 1 := ho'; omega
      subst this
      rw [hρn]
      exact h.ext.size
  · have := Rel.ref (E := E') (o := Γ.hp.length) (off := 0) (show Γ.hp.length < Γ.hp.length + 1 by omega)
    rw [hρn] at this
    exact this

theorem HoldsE.obj (h : HoldsE E0 E N Γ a) {cs : List V} {us : List Value} (e : TypeId) (hr : RelL E cs us) (h1 : ∀ u ∈ us, u.oneCell' = true) :
    ∃ E', E'.w = E.w.alloc (.cells us.toArray e) ∧ Le E E' ∧ HoldsE E0 E' N { Γ with hp := Γ.hp ++ [cs] } a ∧ Rel E' (.ref Γ.hp.length 0) (.pointer (some ⟨E.w.heap.size, 0, none⟩)) := by
  obtain ⟨E', h2, _, _, h3, h4, h5⟩ := h.objX (ex := []) e hr (by simpa using h1)
  exact ⟨E', by simpa using h2, h3, h4, h5⟩

/-- A store into an object. -/
theorem HoldsE.stored (h : HoldsE E0 E N Γ a) {k : Nat} {cs old : List V} {us : List Value} {off : Nat} (hk : Γ.hp[k]? = some old) (hr : RelL E cs us) (h1 : ∀ u ∈ us, u.oneCell' = true) (hoff : off ≤ old.length) (hfit : off + cs.length ≤ E.cp k) (P : Program) :
    ∃ E', (storeCells ⟨E.ρ k, off, none⟩ us 0).run P E.w = .ok () E'.w ∧ Le E E' ∧ HoldsE E0 E' N { Γ with hp := Γ.hp.set k (vsplice old off cs) } a := by
  have hkl : k < Γ.hp.length := (List.getElem?_eq_some_iff.1 hk).1
  obtain ⟨olds, ex, e, hb, hro, h1o, hlo⟩ := h.objs.obj k old hk
  have hl1 := hr.1
  have hl2 := hro.1
  have hst := run_storeCells_at P (E.ρ k) off e us 0 (olds ++ ex).toArray E.w hb (by simp only [List.size_toArray]; omega) h1
  simp only [Nat.add_zero] at hst
  let newu : List Value := olds.take off ++ us ++ olds.drop (off + us.length)
  let ex' : List Value := ex.drop (off + us.length - olds.length)
  let new : List Value := newu ++ ex'
  have hnew : (olds ++ ex).take off ++ us ++ (olds ++ ex).drop (off + us.length) = new := by
    simp only [new, newu, ex', List.take_append, List.drop_append, List.append_assoc]
    have : off - olds.length = 0 := by omega
    rw [this]
    simp
  let w' := E.w.setRow (E.ρ k) new.toArray
  let E' : Env := { E with w := w' }
  have hother : ∀ b, b ≠ E.ρ k → w'.heap[b]? = E.w.heap[b]? := fun b hne => setRow_other E.w (E.ρ k) b _ hne
  have hrow : w'.heap[E.ρ k]? = some (.cells new.toArray e (0, 0)) := setRow_heap E.w (E.ρ k) (olds ++ ex).toArray _ e _ hb
  have hsz : w'.heap.size = E.w.heap.size := size_setRow _ _ _
  have hle : Le E E' := ⟨⟨Nat.le_refl _, fun _ _ => rfl, fun b o hbI => ⟨hbI, World.cell?_of_block (hother b (fun e => h.objs.noI k o hkl (e ▸ hbI)))⟩⟩, Nat.le_refl _, fun _ _ => rfl, fun _ _ => rfl⟩
  refine ⟨E', ?_, hle, ⟨h.ctr, ⟨by simpa using h.objs.nob, ?_, fun o off' ho => h.objs.noI o off' (by simpa using ho), fun o o' ho ho' => h.objs.inj o o' (by simpa using ho) (by simpa using ho'), fun b o hbI => by show b < w'.heap.size; rw [hsz]; exact h.objs.inb b o hbI⟩,
    ⟨?_, h.toks.sep⟩, ⟨h.ext.le.trans hle, h.ext.base, h.ext.sz, h.ext.os, h.ext.tape, h.ext.output, by show _ ≤ w'.heap.size; rw [hsz]; exact h.ext.size, ?_, h.ext.newo, h.ext.newI⟩, h.size, h.defers, fun t => (h.tm t).le hle⟩⟩
  · rw [hst]
    show Result.ok () (E.w.setRow (E.ρ k) _) = Result.ok () (E.w.setRow (E.ρ k) new.toArray)
    rw [← hnew]
  · intro o cs' ho
    by_cases hok : o = k
    · subst hok
      simp [hkl] at ho
      subst ho
      refine ⟨newu, ex', e, hrow, ?_, ?_, ?_⟩
      · exact (hro.le hle).splice (hr.le hle) off
      · intro u hu
        simp only [newu, ex', List.mem_append] at hu
        rcases hu with ((hu | hu) | hu) | hu
        · exact h1o u (List.mem_append_left _ (List.mem_of_mem_take hu))
        · exact h1 u hu
        · exact h1o u (List.mem_append_left _ (List.mem_of_mem_drop hu))
        · exact h1o u (List.mem_append_right _ (List.mem_of_mem_drop hu))
      · show new.length = E.cp o
        rw [← hnew, ← hlo]
        simp only [List.length_append, List.length_take, List.length_drop] at hlo ⊢
        omega
    · rw [List.getElem?_set_ne (fun e => hok e.symm)] at ho
      obtain ⟨us', ex2, e', hb', hr', h1'⟩ := h.objs.obj o cs' ho
      have hol : o < Γ.hp.length := (List.getElem?_eq_some_iff.1 ho).1
      exact ⟨us', ex2, e', (hother _ (fun e => hok (h.objs.inj o k hol hkl e))).trans hb', hr'.le hle, h1'⟩
  · intro τ e' he
    obtain ⟨ht, v, hv, n, xs, hown, hg'⟩ := h.toks.own τ e' he
    refine ⟨ht, v, hv, n, xs, ⟨hown.1, ?_⟩, fun g hgo => ⟨(hg' g hgo).1, fun o ho => (hg' g hgo).2 o (by simpa using ho)⟩⟩
    rcases hown.2 with h2 | ⟨g, cap, cur, hv', hbg, hh, r⟩
    · exact .inl h2
    · refine .inr ⟨g, cap, cur, hv', hbg, ?_, r⟩
      have hne : g ≠ E.ρ k := fun e => (hg' g (by simp only at hv'; simp [hv', Value.ownBlock])).2 k hkl e.symm
      exact (hother g hne).trans hh
  · intro b hb0 hno
    show w'.heap[b]? = _
    by_cases hkn : k < E0.nobj
    · have : E.ρ k = E0.ρ k := h.ext.le.rho k hkn
      rw [hother b (fun e => hno k hkn (by rw [← this]; exact e.symm))]
      exact h.ext.keep b hb0 hno
    · have := h.ext.newo k (by omega) (by rw [h.objs.nob]; exact hkl)
      rw [hother b (by omega)]
      exact h.ext.keep b hb0 hno
end
end Go.VS
