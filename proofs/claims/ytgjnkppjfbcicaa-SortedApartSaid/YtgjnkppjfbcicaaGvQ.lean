/- The weakest condition of code, and what it says of a run. -/
import Derived.Test.YtgjnkppjfbcicaaGvP
import Derived.Test.YtgjnkppjfbcicaaGvOb
import Derived.Deep.LoopGhost
namespace Go.VS
open Go.RowKit Go.Lib

def thenG (K : St → Prop) (Q : Exit → St → Prop) : Exit → St → Prop
  | .normal, Γ => K Γ
  | e, Γ => Q e Γ
def blockG (id : Nat) (Q : Exit → St → Prop) : Exit → St → Prop
  | .exit id', Γ => if id' = id then Q .normal Γ else Q (.exit id') Γ
  | e, Γ => Q e Γ
def scopeG (Q : Exit → St → Prop) : Exit → St → Prop
  | .goto _, _ => False
  | e, Γ => Q e Γ

/-- What holds in the one state holds in some state of which this is known. -/
def Goes (X : Ctx) (h0 : Nat) (Γ : St) (P : St → Prop) : Prop := ∀ E0 N a w, E0.nobj = h0 → E0.sz = X.P.cellsOf → HoldsG X.G E0 N Γ a w → ∃ Γ', HoldsG X.G E0 N Γ' a w ∧ P Γ'

/-- A loop: an invariant that bears a number, which every round lowers. -/
def LoopG (X : Ctx) (h0 : Nat) (F : (St → Prop) → St → Prop) (Γ : St) : Prop :=
  ∃ Inv : Nat → St → Prop, Goes X h0 Γ (fun Γ0 => ∃ n, Inv n Γ0) ∧ ∀ n Γ, Inv n Γ → F (fun Γ' => Goes X h0 Γ' fun Γ'' => ∃ m, m < n ∧ Inv m Γ'') Γ

def awp (X : Ctx) (h0 : Nat) : Code → (Exit → St → Prop) → St → Prop
  | .skip, Q, Γ => Q .normal Γ
  | .region _ ops false, Q, Γ => awpOps X ops.toList ops.toList Γ (Q .normal)
  | .region _ ops true, Q, Γ => (∃ p, okCut X.mt p ops = true ∧ awpOpsD X ops.toList (ops.toList.take p) Γ fun Γ' => awpOps X ops.toList (ops.toList.drop p) Γ' (Q .normal)) ∨
    ∃ i j, okTwo X.mt i j ops = true ∧ awpOpsD X ops.toList ops.toList Γ (Q .normal) ∧ awpOpsD X ops.toList (swapL i j ops.toList) Γ (Q .normal)
  | .seq a b, Q, Γ => awp X h0 a (thenG (fun Γ' => awp X h0 b Q Γ') Q) Γ
  | .cond c x y, Q, Γ => condG (opv X.G Γ.tm c) (awp X h0 x Q Γ) (awp X h0 y Q Γ)
  | .block id c, Q, Γ => awp X h0 c (blockG id Q) Γ
  | .loop c, Q, Γ => LoopG X h0 (fun K Γ' => awp X h0 c (thenG K Q) Γ') Γ
  | .exit id, Q, Γ => Q (.exit id) Γ
  | .scope c, Q, Γ => awp X h0 c (scopeG Q) Γ
  | .label _, Q, Γ => Q .normal Γ
  | .ret, Q, Γ => Q .ret Γ
  | _, _, _ => False

def opsB (N : Nat) (ops : Array Oper) : Bool := ops.toList.all fun o => match o.dst with | some d => decide (d < N) | none => true

/-- Every slot that is written is there. -/
def dstsB (N : Nat) : Code → Bool
  | .region _ ops _ => opsB N ops
  | .seq a b => dstsB N a && dstsB N b
  | .cond _ a b => dstsB N a && dstsB N b
  | .block _ c => dstsB N c
  | .loop c => dstsB N c
  | .scope c => dstsB N c
  | _ => true

theorem opsB_spec {N : Nat} {ops : Array Oper} (h : opsB N ops = true) : ∀ o ∈ ops.toList, ∀ k, o.dst = some k → k < N := by
  intro o ho k hk
  unfold opsB at h
  have := List.all_eq_true.1 h o ho
  rw [hk] at this
  simpa using this

section
variable {X : Ctx} (hP : ProgOk X.P X.T X.Q) (hm : X.P.follows .mixedOrders = true) {E0 : Env} {N : Nat} (hsz : E0.sz = X.P.cellsOf)
include hP hm hsz

theorem awp_sound : ∀ (c : Code) (Q : Exit → St → Prop) (Q' : Exit → Act → World → Prop) (Γ : St) (a : Act) (w : World), dstsB N c = true → HoldsG X.G E0 N Γ a w → awp X E0.nobj c Q Γ →
    (∀ e Γ' a' w', Q e Γ' → HoldsG X.G E0 N Γ' a' w' → Q' e a' w') → c.wp X.P Q' a w := by
  intro c
  induction c with
  | skip => intro Q Q' Γ a w _ h hs hk; exact wp_skip (hk _ _ _ _ hs h)
  | region id ops draw =>
    intro Q Q' Γ a w hd h hs hk
    have hops := opsB_spec hd
    cases draw with
    | false => exact wp_region_list (ops_sound hP hsz (fun Γ' a' w' hK hh => hk _ _ _ _ hK hh) ops.toList Γ a w hops hops h hs)
    | true =>
      rcases hs with ⟨p, h1, h2⟩ | ⟨i, j, h1, h2, h3⟩
      · exact draw_sound hP hsz hm h h1 hops h2 fun Γ' a' w' hK hh => hk _ _ _ _ hK hh
      · exact two_sound hP hsz hm h h1 hops h2 h3 fun Γ' a' w' hK hh => hk _ _ _ _ hK hh
  | seq x y ihx ihy =>
    intro Q Q' Γ a w hd h hs hk
    simp only [dstsB, Bool.and_eq_true] at hd
    refine wp_seq (ihx _ _ Γ a w hd.1 h hs fun e Γ' a' w' hq hh => ?_)
    cases e with
    | normal => exact ihy Q Q' Γ' a' w' hd.2 hh hq hk
    | exit id => exact hk _ _ _ _ hq hh
    | goto l => exact hk _ _ _ _ hq hh
    | ret => exact hk _ _ _ _ hq hh
    | panic ch => exact hk _ _ _ _ hq hh
    | outgrown => exact hk _ _ _ _ hq hh
  | cond c x y ihx ihy =>
    intro Q Q' Γ a w hd h hs hk
    simp only [dstsB, Bool.and_eq_true] at hd
    unfold awp condG at hs
    split at hs
    · rename_i t ht
      have hc : a.eval c = .bool t := by
        obtain ⟨E, rfl, hh, hG⟩ := h
        have := rel_opv hG hh.tm c
        rw [ht] at this
        exact this.sc_inv
      refine wp_cond_split hc (fun e => ?_) fun e => ?_
      · exact ihx Q Q' Γ a w hd.1 h (hs.1 e) hk
      · exact ihy Q Q' Γ a w hd.2 h (hs.2 e) hk
    · exact hs.elim
  | block id c ih =>
    intro Q Q' Γ a w hd h hs hk
    refine wp_block (ih _ _ Γ a w hd h hs fun e Γ' a' w' hq hh => ?_)
    cases e with
    | exit id' =>
      simp only [blockG, Exit.inBlock] at hq ⊢
      split
      · rename_i e; rw [if_pos e] at hq; exact hk _ _ _ _ hq hh
      · rename_i e; rw [if_neg e] at hq; exact hk _ _ _ _ hq hh
    | normal => exact hk _ _ _ _ hq hh
    | goto l => exact hk _ _ _ _ hq hh
    | ret => exact hk _ _ _ _ hq hh
    | panic ch => exact hk _ _ _ _ hq hh
    | outgrown => exact hk _ _ _ _ hq hh
  | loop c ih =>
    intro Q Q' Γ a w hd h hs hk
    obtain ⟨Inv, hgo, hstep⟩ := hs
    obtain ⟨Γ0, hh0, n0, hI0⟩ := hgo E0 N a w rfl hsz h
    refine wp_loop_ghost (fun n a w => ∃ Γ, Inv n Γ ∧ HoldsG X.G E0 N Γ a w) n0 ⟨Γ0, hI0, hh0⟩ ?_
    rintro n a1 w1 ⟨Γ1, hI1, hh1⟩
    refine ih _ _ Γ1 a1 w1 hd hh1 (hstep n Γ1 hI1) fun e Γ' a' w' hq hh => ?_
    cases e with
    | normal =>
      obtain ⟨Γ'', hh', m, hmn, hI⟩ := hq E0 N a' w' rfl hsz hh
      exact ⟨m, hmn, Γ'', hI, hh'⟩
    | exit id => exact hk _ _ _ _ hq hh
    | goto l => exact hk _ _ _ _ hq hh
    | ret => exact hk _ _ _ _ hq hh
    | panic ch => exact hk _ _ _ _ hq hh
    | outgrown => exact hk _ _ _ _ hq hh
  | rangeFunc f ps x y => intro Q Q' Γ a w _ h hs hk; exact hs.elim
  | exit id => intro Q Q' Γ a w _ h hs hk; exact wp_exit (hk _ _ _ _ hs h)
  | scope c ih =>
    intro Q Q' Γ a w hd h hs hk
    refine wp_scope_straight (ih _ _ Γ a w hd h hs fun e Γ' a' w' hq hh => ?_)
    cases e with
    | goto l => exact hq.elim
    | exit id => exact hk _ _ _ _ hq hh
    | normal => exact hk _ _ _ _ hq hh
    | ret => exact hk _ _ _ _ hq hh
    | panic ch => exact hk _ _ _ _ hq hh
    | outgrown => exact hk _ _ _ _ hq hh
  | label l => intro Q Q' Γ a w _ h hs hk; exact wp_label (hk _ _ _ _ hs h)
  | goto l => intro Q Q' Γ a w _ h hs hk; exact hs.elim
  | ret => intro Q Q' Γ a w _ h hs hk; exact wp_ret (hk _ _ _ _ hs h)
  | refuse _ => intro Q Q' Γ a w _ h hs hk; exact hs.elim
end

/-- The results of a frame. -/
def vresults (T : Tab) (Γ : St) : List ResultVar → Option (List V)
  | [] => some []
  | .tmp t :: l => match vresults T Γ l with | some ys => some (Γ.tm t :: ys) | none => none
  | .cell a t :: l => match vload T Γ.hp t (Γ.tm a), vresults T Γ l with | some y, some ys => some (y :: ys) | _, _ => none

def vresult : List V → V
  | [x] => x
  | xs => .tup xs

/-- What a function's end must bring. -/
def retG (X : Ctx) (fn : Func) (Post : V → List (List V) → List (Nat × TypeId) → Nat → Prop) : Exit → St → Prop
  | .normal, Γ | .ret, Γ => match vresults X.T Γ fn.results.toList with | some ys => Post (vresult ys) Γ.hp Γ.lv Γ.ctr | none => False
  | _, _ => False

/-- The state at the entry. -/
def St0 (xs : List V) (H : List (List V)) (c : Nat) : St := ⟨fun t => xs.getD t (.sc undef), H, [], c⟩

theorem vload_ptr {T : Tab} {hp : List (List V)} {t : TypeId} {E : Env} {x y : V} {v : Value} (hx : Rel E x v) (h : vload T hp t x = some y) : ∃ a, v = .pointer (some a) := by
  unfold vload at h
  split at h
  · obtain ⟨rfl, _⟩ := hx.ref_inv; exact ⟨_, rfl⟩
  · obtain ⟨a, us, rfl, _⟩ := hx.dptr_inv; exact ⟨_, rfl⟩
  · cases h

def getRes (tmps : Array Value) : ResultVar → Sem Value
  | .tmp t => pure (tmps.getD t undef)
  | .cell x t => do loadVar t (← asAddr (tmps.getD x undef))

section
variable {X : Ctx} (hP : ProgOk X.P X.T X.Q)
include hP

theorem results_sound {E : Env} {Γ : St} {tmps : Array Value} (ho : Objs E Γ.hp) (htm : ∀ t, Rel E (Γ.tm t) (tmps.getD t undef)) : ∀ (l : List ResultVar) (ys : List V), vresults X.T Γ l = some ys →
    ∃ us : List Value, (l.mapM (getRes tmps)).run X.P E.w = .ok us E.w ∧ RelL E ys us
  | [], ys, h => by
    injection h with h; subst h
    exact ⟨[], rfl, RelL.nil⟩
  | .tmp t :: l, ys, h => by
    unfold vresults at h
    split at h
    · rename_i ys' hy
      injection h with h; subst h
      obtain ⟨us, h1, h2⟩ := results_sound ho htm l ys' hy
      refine ⟨tmps.getD t undef :: us, ?_, RelL.cons (htm t) h2⟩
      simp only [List.mapM_cons, Sem.run_bind, Sem.run_pure, Result.andThen_ok, getRes, h1]
    · cases h
  | .cell x t :: l, ys, h => by
    unfold vresults at h
    split at h
    · rename_i y ys' hy hys
      injection h with h; subst h
      obtain ⟨us, h1, h2⟩ := results_sound ho htm l ys' hys
      obtain ⟨u, hu, hr⟩ := load_sound hP.tab ho (htm x) hy
      obtain ⟨A, hA⟩ := vload_ptr (htm x) hy
      refine ⟨u :: us, ?_, RelL.cons hr h2⟩
      rw [hA] at hu
      simp only [Instr.loadAt, Instr.sureAddr, Sem.run_bind, Sem.run_pure, Result.andThen_ok] at hu
      simp only [List.mapM_cons, Sem.run_bind, Sem.run_pure, Result.andThen_ok, getRes, hA, asAddr, hu, h1]
    · cases h

theorem result_sound {E : Env} {Γ : St} {tmps : Array Value} {fn : Func} (ho : Objs E Γ.hp) (htm : ∀ t, Rel E (Γ.tm t) (tmps.getD t undef)) {ys : List V} (h : vresults X.T Γ fn.results.toList = some ys) :
    ∃ u, (results fn tmps).run X.P E.w = .ok u E.w ∧ Rel E (vresult ys) u := by
  obtain ⟨us, h1, h2⟩ := results_sound hP ho htm _ _ h
  have hr : results fn tmps = (do let vs ← fn.results.mapM (getRes tmps); pure (if h : vs.size = 1 then vs[0] else .tuple vs)) := by
    unfold results getRes
    congr 1
  refine ⟨if h : us.length = 1 then us[0] else .tuple us.toArray, ?_, ?_⟩
  · rw [hr]
    have : fn.results.mapM (getRes tmps) = (List.toArray <$> fn.results.toList.mapM (getRes tmps) : Sem (Array Value)) := by
      rw [Array.mapM_eq_mapM_toList]
    rw [this]
    simp only [map_eq_pure_bind, Sem.run_bind, h1, Result.andThen_ok, Sem.run_pure]
    congr 1
  · unfold vresult
    split
    · rename_i x
      have hl : us.length = 1 := h2.1
      rw [dif_pos hl]
      exact h2.2 0 x _ rfl (List.getElem?_eq_getElem (by omega))
    · rename_i hx
      rw [dif_neg (fun hl => by
        rw [h2.1] at hl
        obtain ⟨x, rfl⟩ := List.length_eq_one_iff.1 hl
        exact hx x rfl)]
      exact .tup us h2.1 h2.2

/-- A contract, out of the code. -/
theorem ACall.of_awp (hm : X.P.follows .mixedOrders = true) {f : FuncId} {fn : Func} {c : Code} {xs : List V} {H : List (List V)} {ctr : Nat} {Post : V → List (List V) → List (Nat × TypeId) → Nat → Prop} (hf : X.P.funcs[f]? = some fn)
    (hb : fn.body = some c) (hn : (fn.name == "runtime.NumGoroutine") = false) (hN : xs.length ≤ fn.ntmps) (hd : dstsB fn.ntmps c = true) (h : (∀ cs ∈ H, ∀ x ∈ cs, Bd H.length ctr x) → awp X H.length c (retG X fn Post) (St0 xs H ctr)) : ACall X f xs H ctr Post := by
  refine ⟨.of hf hn hb, fun E vs hc hsz hbase ho hG hr => calls_of_wp hf hb ?_⟩
  have hh : HoldsG X.G E fn.ntmps (St0 xs H ctr) { tmps := vs.toArray ++ Array.replicate (fn.ntmps - vs.toArray.size) undef, defers := [] } E.w := by
    refine ⟨E, rfl, ⟨hc, ho, ⟨(fun τ e he => absurd he List.not_mem_nil), (fun τ τ' e e' u u' g he => absurd he List.not_mem_nil)⟩, ⟨Le.refl E, hbase, rfl, rfl, rfl, rfl, Nat.le_refl _, fun _ _ _ => rfl, fun o h1 h2 => by omega, fun b o hb => .inl hb⟩, ?_, rfl, fun t => ?_⟩, hG⟩
    · have := hr.1
      simp; omega
    · have hv : (vs.toArray ++ Array.replicate (fn.ntmps - vs.toArray.size) undef).getD t undef = vs.getD t undef := by
        simp only [Array.getD_eq_getD_getElem?, List.getD_eq_getElem?_getD]
        by_cases ht : t < vs.length
        · rw [Array.getElem?_append_left (by simpa using ht)]; simp
        · rw [Array.getElem?_append_right (by simp; omega), List.getElem?_eq_none (by omega)]
          by_cases h2 : t - vs.length < fn.ntmps - vs.length
          · simp [Array.getElem?_replicate, h2]
          · simp [Array.getElem?_replicate, h2]
      rw [hv]
      show Rel E (xs.getD t (.sc undef)) (vs.getD t undef)
      simp only [List.getD_eq_getElem?_getD]
      by_cases ht : t < xs.length
      · have h1 : vs[t]? = some _ := List.getElem?_eq_getElem (by rw [hr.1]; exact ht)
        have h2 : xs[t]? = some _ := List.getElem?_eq_getElem ht
        rw [h1, h2]
        exact hr.2 t _ _ h2 h1
      · rw [List.getElem?_eq_none (by omega), List.getElem?_eq_none (by have := hr.1; omega)]
        exact .sc undef
  have hbd : ∀ cs ∈ H, ∀ x ∈ cs, Bd H.length ctr x := by
    intro cs hcs x hx
    obtain ⟨o, ho'⟩ := List.getElem?_of_mem hcs
    obtain ⟨us, ex, e, _, hr', _⟩ := ho.obj o cs ho'
    obtain ⟨j, hj⟩ := List.getElem?_of_mem hx
    have hjl : j < us.length := by rw [hr'.1]; exact (List.getElem?_eq_some_iff.1 hj).1
    have := (hr'.2 j x _ hj (List.getElem?_eq_getElem hjl)).bd
    rw [ho.nob, hc] at this
    exact this
  refine awp_sound hP hm hsz c (retG X fn Post) _ _ _ _ hd hh (by rw [ho.nob]; exact h hbd) fun e Γ' a' w' hq hh' => ?_
  have key : (match vresults X.T Γ' fn.results.toList with | some ys => Post (vresult ys) Γ'.hp Γ'.lv Γ'.ctr | none => False) →
      a'.defers = [] ∧ ∃ v, (results fn a'.tmps).run X.P w' = .ok v w' ∧ ∃ rv r H' lv' E', Ending.returned v = .returned rv ∧ E'.w = w' ∧ Rel E' r rv ∧ Objs E' H' ∧ Toks E' H'.length lv' ∧ Ext E E' ∧ Post r H' lv' E'.ctr := by
    intro hq
    obtain ⟨E', rfl, hh', _⟩ := hh'
    split at hq
    · rename_i ys hys
      obtain ⟨u, hu, hru⟩ := result_sound hP (fn := fn) hh'.objs hh'.tm hys
      exact ⟨hh'.defers, u, hu, u, vresult ys, Γ'.hp, Γ'.lv, E', rfl, rfl, hru, hh'.objs, hh'.toks, hh'.ext, by rw [hh'.ctr]; exact hq⟩
    · exact hq.elim
  cases e with
  | normal => exact key hq
  | ret => exact key hq
  | exit id => exact hq.elim
  | goto l => exact hq.elim
  | panic ch => exact hq.elim
  | outgrown => exact hq.elim
end
end Go.VS
