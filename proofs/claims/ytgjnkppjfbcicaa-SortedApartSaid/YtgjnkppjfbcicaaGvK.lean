/- The weakest condition of a piece of code, on what is known of the frame. -/
import Derived.Test.YtgjnkppjfbcicaaGvJc
namespace Go.VS
open Go.RowKit Go.Lib

def bindS (r : Option (Prop × St)) (K : St → Prop) : Prop :=
  match r with
  | some (C, Γ') => C ∧ K Γ'
  | none => False

/-- A call, and what follows. -/
def awpCall (X : Ctx) (f : FuncId) (xs : List V) (dst : Option Nat) (Γ : St) (K : St → Prop) : Prop :=
  ACall X f xs Γ.hp Γ.ctr fun r H' lv' c' => K (({ Γ with hp := H', lv := lv' ++ Γ.lv, ctr := c' } : St).put dst r)

def calleeG (X : Ctx) (xs : List V) (dst : Option Nat) (Γ : St) (K : St → Prop) : V → Prop
  | .clo f caps => awpCall X f (xs ++ caps) dst Γ K
  | _ => False

def awpOp (X : Ctx) (o : Oper) (Γ : St) (K : St → Prop) : Prop :=
  bif mutOp X.mt o.op then mutG X o Γ K else match o.op with
  | .call c => match c.callee with
    | .value fo => calleeG X (c.args.toList.map (opv X.G Γ.tm)) o.dst Γ K (opv X.G Γ.tm fo)
    | .builtin _ => bindS (vstep X.T X.Q X.G o Γ) K
    | _ => False
  | _ => bindS (vstep X.T X.Q X.G o Γ) K

/-- A test. -/
def ifG (x : Bool) (p q : Prop) : Prop := (x = true → p) ∧ (x = false → q)
def condG : V → Prop → Prop → Prop
  | .sc (.bool x), p, q => ifG x p q
  | _, _, _ => False
/-- A guard: carried out, passed over. -/
def guardG : V → Bool → Prop → Prop → Prop
  | .sc (.bool x), true, p, q => ifG x p q
  | .sc (.bool x), false, p, q => ifG x q p
  | .sc (.tuple _), _, _, q => q
  | _, _, _, _ => False

def gslot (ops : List Oper) (j : Nat) : Option Nat := (ops[j]?).bind (·.dst)

def awpOps (X : Ctx) (ops : List Oper) : List Oper → St → (St → Prop) → Prop
  | [], Γ, K => K Γ
  | o :: rest, Γ, K => match o.guard with
    | none => awpOp X o Γ fun Γ' => awpOps X ops rest Γ' K
    | some (j, b) => match gslot ops j with
      | some d => guardG (Γ.tm d) b (awpOp X o Γ fun Γ' => awpOps X ops rest Γ' K) (awpOps X ops rest (Γ.put o.dst (.sc undef)) K)
      | none => False

theorem ifG_iff {x : Bool} {p q : Prop} (h : ifG x p q) : (x = true ∧ p) ∨ (x = false ∧ q) := by
  cases x
  · exact .inr ⟨rfl, h.2 rfl⟩
  · exact .inl ⟨rfl, h.1 rfl⟩

theorem RelL.map {E : Env} {α : Type} {f : α → V} {g : α → Value} (l : List α) (h : ∀ x, Rel E (f x) (g x)) : RelL E (l.map f) (l.map g) :=
  ⟨by simp, fun j x u hx hu => by
    rw [List.getElem?_map] at hx hu
    cases hj : l[j]? with
    | none => rw [hj] at hx; simp at hx
    | some y => rw [hj] at hx hu; simp only [Option.map_some, Option.some.injEq] at hx hu; subst hx; subst hu; exact h y⟩

section
variable {X : Ctx} (hP : ProgOk X.P X.T X.Q) {E0 : Env} {N : Nat} (hsz : E0.sz = X.P.cellsOf)
include hP hsz

theorem step_sound {Γ Γ' : St} {a : Act} {w : World} {o : Oper} {C : Prop} (h : HoldsG X.G E0 N Γ a w) (hd : ∀ k, o.dst = some k → k < N) (hs : vstep X.T X.Q X.G o Γ = some (C, Γ')) (hC : C) :
    RanTo X.P X.G E0 N o a w Γ' := by
  obtain ⟨E, rfl, hh, hG⟩ := h
  unfold vstep at hs
  split at hs
  · cases hs
    rename_i y hv
    obtain ⟨u, hu, hy⟩ := vval_sound hP.tab hP.eqt hh.objs (rel_opv hG hh.tm) hv hC
    exact .inl ⟨u, E.w, hu, E, rfl, hh.put hd hy, hG⟩
  · exact make_sound hP hsz hh hG hd hs hC

/-- One operation. -/
theorem op_sound {Γ : St} {a : Act} {w : World} {o : Oper} {K : St → Prop} {next : Act → World → Prop} {Q' : Exit → Act → World → Prop} (h : HoldsG X.G E0 N Γ a w) (hd : ∀ k, o.dst = some k → k < N)
    (hs : awpOp X o Γ K) (hk : ∀ Γ' a' w', K Γ' → HoldsG X.G E0 N Γ' a' w' → next a' w') : o.wp X.P a w next Q' := by
  have hstep : bindS (vstep X.T X.Q X.G o Γ) K → o.wp X.P a w next Q' := by
    intro hb
    unfold bindS at hb
    split at hb
    · rename_i C Γ' hv
      rcases step_sound hP hsz h hd hv hb.1 with ⟨v, w', hr, hh⟩ | ⟨w', hr, hh⟩
      · unfold Oper.wp; rw [hr]; exact hk _ _ _ hb.2 hh
      · unfold Oper.wp; rw [hr]; exact hk _ _ _ hb.2 hh
    · exact hb.elim
  unfold awpOp at hs
  cases hmt : mutOp X.mt o.op with
  | true =>
    rw [hmt] at hs
    obtain ⟨E, rfl, hh, hG⟩ := h
    obtain ⟨v, w', Γ', hr, hK, hh'⟩ := mut_sound hP hsz hh hG hd hs
    unfold Oper.wp; rw [hr]; exact hk _ _ _ hK hh'
  | false =>
  rw [hmt] at hs
  simp only [cond_false] at hs
  split at hs
  · rename_i c hop
    split at hs
    · rename_i fo hcal
      obtain ⟨E, rfl, hh, hG⟩ := h
      have hfo := rel_opv hG hh.tm fo
      unfold calleeG at hs
      split at hs
      · rename_i f caps hcl
        rw [hcl] at hfo
        obtain ⟨us, hus, hr⟩ := hfo.clo_inv
        have hargs := (RelL.map c.args.toList (rel_opv hG hh.tm)).append hr
        have hcall := call_sound hh hG hsz hd hargs hs
        unfold Oper.wp
        have hrun : (execOp a.eval o).run X.P E.w = .ok (.enter f (c.args.toList.map a.eval ++ us).toArray) E.w := by
          simp only [execOp, hop, resolve, hcal, hus, Deferred.ofValue, Sem.run_bind, Sem.run_pure, Result.andThen_ok, invoke]
          rw [hs.1]
          congr 2
          apply Array.toList_inj.1
          simp
        rw [hrun, Oper.upon_enter]
        refine hcall.mono ?_
        rintro e w' ⟨rv, r, H', lv', c', rfl, hp, hh'⟩
        exact hk _ _ _ hp hh'
      · exact hs.elim
    · exact hstep hs
    · exact hs.elim
  · exact hstep hs

set_option linter.unusedSectionVars false in
theorem wanted_of {Γ : St} {a : Act} {w : World} {ops : Array Oper} {o : Oper} {j d : Nat} {b : Bool} (h : HoldsG X.G E0 N Γ a w) (hg : o.guard = some (j, b)) (hs : gslot ops.toList j = some d) (hdN : d < N) :
    (∀ x, Γ.tm d = .sc (.bool x) → Region.wanted o (yielded ops a.tmps) = (x == b)) ∧ (∀ vs, Γ.tm d = .sc (.tuple vs) → Region.wanted o (yielded ops a.tmps) = false) := by
  obtain ⟨E, rfl, hh, _⟩ := h
  have ht := hh.tm d
  have hlt : d < a.tmps.size := by rw [hh.size]; exact hdN
  have hget : a.tmps[d]? = some (a.tmps.getD d undef) := by simp [Array.getD, hlt]
  have hy : ∀ u, a.tmps.getD d undef = u → yielded ops a.tmps j = match u with | .bool b => some b | _ => none := by
    intro u hu
    unfold gslot at hs
    have hs' : (ops[j]?).bind (·.dst) = some d := by simpa using hs
    unfold yielded
    rw [hs']
    simp only [Option.bind_some, hget, hu]
    cases u <;> rfl
  constructor
  · intro x hx
    rw [hx] at ht
    have := hy _ ht.sc_inv
    simp only [Region.wanted, hg, this]
    cases x <;> cases b <;> rfl
  · intro vs hx
    rw [hx] at ht
    have := hy _ ht.sc_inv
    simp only [Region.wanted, hg, this]
    rfl

/-- A region in the text's order. -/
theorem ops_sound {ops : Array Oper} {K : St → Prop} {Q' : Exit → Act → World → Prop} (hk : ∀ Γ' a' w', K Γ' → HoldsG X.G E0 N Γ' a' w' → Q' .normal a' w') :
    ∀ (rest : List Oper) (Γ : St) (a : Act) (w : World), (∀ o ∈ rest, ∀ k, o.dst = some k → k < N) → (∀ o ∈ ops.toList, ∀ k, o.dst = some k → k < N) → HoldsG X.G E0 N Γ a w → awpOps X ops.toList rest Γ K → wpList X.P ops Q' rest a w
  | [], Γ, a, w, _, _, h, hs => hk _ _ _ hs h
  | o :: rest, Γ, a, w, hd, hops, h, hs => by
    have hd0 := hd o (by simp)
    have hdr : ∀ o ∈ rest, ∀ k, o.dst = some k → k < N := fun o' ho' => hd o' (by simp [ho'])
    have hyes : (awpOp X o Γ fun Γ' => awpOps X ops.toList rest Γ' K) → Region.wanted o (yielded ops a.tmps) = true → wpList X.P ops Q' (o :: rest) a w := by
      intro h1 hw
      unfold wpList
      rw [if_pos hw]
      exact .inl (op_sound hP hsz h hd0 h1 fun Γ' a' w' hK hh => ops_sound hk rest Γ' a' w' hdr hops hh hK)
    have hno : awpOps X ops.toList rest (Γ.put o.dst (.sc undef)) K → Region.wanted o (yielded ops a.tmps) = false → wpList X.P ops Q' (o :: rest) a w := by
      intro h1 hw
      unfold wpList
      rw [if_neg (by simp [hw])]
      obtain ⟨E, rfl, hh, hG⟩ := h
      exact ops_sound hk rest _ _ _ hdr hops ⟨E, rfl, hh.put hd0 (.sc undef), hG⟩ h1
    unfold awpOps at hs
    split at hs
    · rename_i hg
      exact hyes hs (by simp [Region.wanted, hg])
    · rename_i j b hg
      split at hs
      · rename_i d hsl
        have hdN : d < N := by
          unfold gslot at hsl
          cases ho : ops.toList[j]? with
          | none => rw [ho] at hsl; simp at hsl
          | some o' => rw [ho] at hsl; exact hops o' (List.mem_of_getElem? ho) d (by simpa using hsl)
        obtain ⟨hw1, hw2⟩ := wanted_of hP hsz h hg hsl hdN
        unfold guardG at hs
        split at hs
        · rename_i x hx
          have := hw1 x hx
          rcases ifG_iff hs with ⟨hxx, h1⟩ | ⟨hxx, h1⟩
          · exact hyes h1 (by rw [this, hxx]; rfl)
          · exact hno h1 (by rw [this, hxx]; rfl)
        · rename_i x hx
          have := hw1 x hx
          rcases ifG_iff hs with ⟨hxx, h1⟩ | ⟨hxx, h1⟩
          · exact hno h1 (by rw [this, hxx]; rfl)
          · exact hyes h1 (by rw [this, hxx]; rfl)
        · rename_i vs hx
          exact hno hs (hw2 vs hx)
        · exact hs.elim
      · exact hs.elim
end
end Go.VS
