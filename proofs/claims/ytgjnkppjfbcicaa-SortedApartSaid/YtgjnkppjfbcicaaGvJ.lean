/- Calls by their contracts. -/
import Derived.Test.YtgjnkppjfbcicaaGvI
namespace Go.VS
open Go.RowKit Go.Lib

structure Ctx where
  P : Program
  T : Tab
  Q : EqTab
  G : Nat → Option (List V)
  mt : TypeId → Bool

/-- A function that has a body. -/
def HasBody (P : Program) (f : FuncId) : Prop := ∀ (args : Array Value) (w : World), (callFunc f args).run P w = .ok (.enter f args) w

theorem HasBody.of {P : Program} {f : FuncId} {fn : Func} {c : Code} (hf : P.funcs[f]? = some fn) (hn : (fn.name == "runtime.NumGoroutine") = false) (hb : fn.body = some c) : HasBody P f := by
  intro args w
  have h1 : fn.name ≠ "runtime.NumGoroutine" := by simpa using hn
  simp [callFunc, hf, h1, hb]

/-- A contract: called with these arguments, over these objects, it returns; and what is known then. -/
def ACall (X : Ctx) (f : FuncId) (xs : List V) (H : List (List V)) (c : Nat) (Post : V → List (List V) → List (Nat × TypeId) → Nat → Prop) : Prop :=
  HasBody X.P f ∧ ∀ (E : Env) (vs : List Value), E.ctr = c → E.sz = X.P.cellsOf → E.base = E.w.heap.size → Objs E H → GlobOk X.G E → RelL E xs vs →
    Calls X.P f vs.toArray E.w fun e w' => ∃ rv r H' lv' E', e = .returned rv ∧ E'.w = w' ∧ Rel E' r rv ∧ Objs E' H' ∧ Toks E' H'.length lv' ∧ Ext E E' ∧ Post r H' lv' E'.ctr

theorem ACall.mono {X : Ctx} {f : FuncId} {xs : List V} {H : List (List V)} {c : Nat} {Post Post' : V → List (List V) → List (Nat × TypeId) → Nat → Prop} (h : ACall X f xs H c Post)
    (hp : ∀ r H' lv' c', Post r H' lv' c' → Post' r H' lv' c') : ACall X f xs H c Post' :=
  ⟨h.1, fun E vs h1 h2 h3 h4 h5 h6 => (h.2 E vs h1 h2 h3 h4 h5 h6).mono fun _ _ ⟨rv, r, H', lv', E', e1, e2, e3, e4, e5, e6, e7⟩ => ⟨rv, r, H', lv', E', e1, e2, e3, e4, e5, e6, hp _ _ _ _ e7⟩⟩

theorem ownsRow_base {w : World} {b b' : Nat} {e : TypeId} {size n : Nat} {v : Value} {xs : List Value} (h : w.ownsRow b e size v n xs) (hb : b' ≤ b) : w.ownsRow b' e size v n xs := by
  refine ⟨h.1, ?_⟩
  rcases h.2 with h2 | ⟨g, cap, cur, hv, hg, r⟩
  · exact .inl h2
  · exact .inr ⟨g, cap, cur, hv, Nat.le_trans hb hg, r⟩

section
variable {G : Nat → Option (List V)} {E0 E E' : Env} {N : Nat} {Γ : St} {a : Act}

/-- Behind a call. -/
theorem HoldsE.called (h : HoldsE E0 E N Γ a) {H' : List (List V)} {lv' : List (Nat × TypeId)} (ho : Objs E' H') (ht : Toks E' H'.length lv') (hx : Ext { E with base := E.w.heap.size } E') :
    ∃ En, En.w = E'.w ∧ Le E En ∧ Le E' En ∧ HoldsE E0 En N { Γ with hp := H', lv := lv' ++ Γ.lv, ctr := E'.ctr } a := by
  let En : Env := { E' with base := E.base }
  have hle' : Le E' En := ⟨⟨Nat.le_refl _, fun _ _ => rfl, fun b o hb => ⟨hb, rfl⟩⟩, Nat.le_refl _, fun _ _ => rfl, fun _ _ => rfl⟩
  have hle : Le E En := ⟨⟨hx.le.ctr, hx.le.tok, hx.le.imm⟩, hx.le.nob, hx.le.rho, hx.le.cps⟩
  have hbase : E'.base = E.w.heap.size := hx.base
  have hEb : E.base ≤ E.w.heap.size := by rw [h.ext.base]; exact h.ext.size
  have hnob : E.nobj = Γ.hp.length := h.objs.nob
  have hnob' : E'.nobj = H'.length := ho.nob
  have hszE : E'.sz = E.sz := hx.sz
  have hsize : E.w.heap.size ≤ E'.w.heap.size := hx.size
  have hkeep : ∀ b, b < E.w.heap.size → (∀ o, o < Γ.hp.length → E.ρ o ≠ b) → E'.w.heap[b]? = E.w.heap[b]? := fun b hb hno => hx.keep b hb (fun o ho => hno o (by rw [← hnob]; exact ho))
  have hold : ∀ τ e, (τ, e) ∈ Γ.lv → ∃ v n xs, τ < E.ctr ∧ E.θ τ = some (v, e) ∧ E'.θ τ = some (v, e) ∧ E.w.ownsRow E.base e (E.sz e) v n xs ∧ E'.w.ownsRow E.base e (E.sz e) v n xs ∧
      ∀ g, v.ownBlock = some g → g < E.w.heap.size ∧ (∀ off, E.I g off → off < n * E.sz e) ∧ ∀ o, o < Γ.hp.length → E.ρ o ≠ g := by
    intro τ e hm
    obtain ⟨ht', v, hv, n, xs, hown, hg⟩ := h.toks.own τ e hm
    refine ⟨v, n, xs, ht', hv, (hx.le.tok τ ht').trans hv, hown, ⟨hown.1, ?_⟩, fun g hgo => ⟨(hown.lt g hgo).2, hg g hgo⟩⟩
    rcases hown.2 with h2 | ⟨g, cap, cur, hv', hbg, hh, r⟩
    · exact .inl h2
    · have hgo : v.ownBlock = some g := by simp only at hv'; simp [hv', Value.ownBlock]
      exact .inr ⟨g, cap, cur, hv', hbg, (hkeep g (lt_of_block hh) (hg g hgo).2).trans hh, r⟩
  refine ⟨En, rfl, hle, hle', rfl, ⟨hnob', ?_, ho.noI, ho.inj, ho.inb⟩, ⟨?_, ?_⟩, ⟨h.ext.le.trans hle, h.ext.base, hszE.trans h.ext.sz, hx.os.trans h.ext.os, hx.tape.trans h.ext.tape, hx.output.trans h.ext.output, Nat.le_trans h.ext.size hsize, ?_, ?_, ?_⟩, h.size, h.defers, fun t => (h.tm t).le hle⟩
  · intro o cs hocs
    obtain ⟨us, ex, e, hb, hr, h1⟩ := ho.obj o cs hocs
    exact ⟨us, ex, e, hb, hr.le hle', h1⟩
  · intro τ e hm
    rcases List.mem_append.1 hm with hm | hm
    · obtain ⟨h1, v, hv, n, xs, hown, hg⟩ := ht.own τ e hm
      exact ⟨h1, v, hv, n, xs, ownsRow_base hown (by rw [hbase]; exact hEb), hg⟩
    · obtain ⟨v, n, xs, h1, h2, h3, h4, h5, h6⟩ := hold τ e hm
      refine ⟨Nat.lt_of_lt_of_le h1 hx.le.ctr, v, h3, n, xs, by show E'.w.ownsRow E.base e (E'.sz e) v n xs; rw [hszE]; exact h5, fun g hgo => ⟨fun off hI => ?_, fun o hol => ?_⟩⟩
      · show off < n * E'.sz e
        rw [hszE]
        rcases hx.newI g off hI with h7 | h7
        · exact (h6 g hgo).2.1 off h7
        · have h8 : E.w.heap.size ≤ g := h7
          have := (h6 g hgo).1
          omega
      · by_cases hoo : o < Γ.hp.length
        · have : E'.ρ o = E.ρ o := hx.le.rho o (by show o < E.nobj; rw [hnob]; exact hoo)
          show E'.ρ o ≠ g
          rw [this]
          exact (h6 g hgo).2.2 o hoo
        · have h8 : E.w.heap.size ≤ E'.ρ o := hx.newo o (by show E.nobj ≤ o; omega) (by rw [hnob']; exact hol)
          have := (h6 g hgo).1
          show E'.ρ o ≠ g
          omega
  · intro τ τ' e e' u u' g hm hm' hu hu' hgo hgo'
    have hu0 : E'.θ τ = some u := hu
    have hu0' : E'.θ τ' = some u' := hu'
    rcases List.mem_append.1 hm with hm | hm <;> rcases List.mem_append.1 hm' with hm' | hm'
    · exact ht.sep τ τ' e e' u u' g hm hm' hu0 hu0' hgo hgo'
    · obtain ⟨_, v, hv, n, xs, hown, _⟩ := ht.own τ e hm
      rw [hv] at hu0; injection hu0 with hu0; subst hu0
      have h1 := (hown.lt g hgo).1
      obtain ⟨v2, n2, xs2, _, _, h3, _, _, h6⟩ := hold τ' e' hm'
      rw [h3] at hu0'; injection hu0' with hu0'; subst hu0'
      have := (h6 g hgo').1
      omega
    · obtain ⟨_, v, hv, n, xs, hown, _⟩ := ht.own τ' e' hm'
      rw [hv] at hu0'; injection hu0' with hu0'; subst hu0'
      have h1 := (hown.lt g hgo').1
      obtain ⟨v2, n2, xs2, _, _, h3, _, _, h6⟩ := hold τ e hm
      rw [h3] at hu0; injection hu0 with hu0; subst hu0
      have := (h6 g hgo).1
      omega
    · obtain ⟨v, _, _, h1, h2, h3, _⟩ := hold τ e hm
      obtain ⟨v', _, _, h1', h2', h3', _⟩ := hold τ' e' hm'
      rw [h3] at hu0; injection hu0 with hu0; subst hu0
      rw [h3'] at hu0'; injection hu0' with hu0'; subst hu0'
      exact h.toks.sep τ τ' e e' _ _ g hm hm' h2 h2' hgo hgo'
  · intro b hb hno
    show E'.w.heap[b]? = _
    rw [hkeep b (Nat.lt_of_lt_of_le hb h.ext.size) (fun o hoo => ?_)]
    · exact h.ext.keep b hb hno
    · by_cases ho0 : o < E0.nobj
      · rw [h.ext.le.rho o ho0]; exact hno o ho0
      · have := h.ext.newo o (by omega) (by rw [hnob]; exact hoo)
        omega
  · intro o ho0 hon
    show _ ≤ E'.ρ o
    by_cases hoo : o < Γ.hp.length
    · have : E'.ρ o = E.ρ o := hx.le.rho o (by show o < E.nobj; rw [hnob]; exact hoo)
      rw [this]
      exact h.ext.newo o ho0 (by rw [hnob]; exact hoo)
    · have h8 : E.w.heap.size ≤ E'.ρ o := hx.newo o (by show E.nobj ≤ o; omega) hon
      have := h.ext.size
      omega
  · intro b o hb
    rcases hx.newI b o hb with h7 | h7
    · exact h.ext.newI b o h7
    · have h8 : E.w.heap.size ≤ b := h7
      exact .inr (Nat.le_trans h.ext.size h8)
end

/-- A call, met by its contract. -/
theorem call_sound {X : Ctx} {E0 E : Env} {N : Nat} {Γ : St} {a : Act} {f : FuncId} {xs : List V} {vs : List Value} {dst : Option Nat} {Post : V → List (List V) → List (Nat × TypeId) → Nat → Prop}
    (h : HoldsE E0 E N Γ a) (hG : GlobOk X.G E) (hsz : E0.sz = X.P.cellsOf) (hd : ∀ k, dst = some k → k < N) (hr : RelL E xs vs) (hc : ACall X f xs Γ.hp Γ.ctr Post) :
    Calls X.P f vs.toArray E.w fun e w' => ∃ rv r H' lv' c', e = .returned rv ∧ Post r H' lv' c' ∧ HoldsG X.G E0 N (({ Γ with hp := H', lv := lv' ++ Γ.lv, ctr := c' } : St).put dst r) (a.put dst rv) w' := by
  have hle0 : Le E { E with base := E.w.heap.size } := ⟨⟨Nat.le_refl _, fun _ _ => rfl, fun b o hb => ⟨hb, rfl⟩⟩, Nat.le_refl _, fun _ _ => rfl, fun _ _ => rfl⟩
  refine (hc.2 { E with base := E.w.heap.size } vs h.ctr (h.ext.sz.trans hsz) rfl ⟨h.objs.nob, fun o cs ho => ?_, h.objs.noI, h.objs.inj, h.objs.inb⟩ (hG.le hle0) (hr.le hle0)).mono ?_
  · obtain ⟨us, ex, e, hb, hr', h1⟩ := h.objs.obj o cs ho
    exact ⟨us, ex, e, hb, hr'.le hle0, h1⟩
  · rintro e w' ⟨rv, r, H', lv', E', rfl, rfl, hx, ho, ht, hext, hpost⟩
    obtain ⟨En, hw, hle, hle', hh⟩ := h.called ho ht hext
    exact ⟨rv, r, H', lv', E'.ctr, rfl, hpost, En, hw, hh.put hd (hx.le hle'), hG.le hle⟩

end Go.VS
