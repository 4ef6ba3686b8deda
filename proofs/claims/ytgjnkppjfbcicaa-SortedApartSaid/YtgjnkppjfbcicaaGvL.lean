/- A region whose order is drawn: the text's order tells the outcome of every order. -/
import Derived.Test.YtgjnkppjfbcicaaGvK
namespace Go.VS
open Go.RowKit Go.Lib

/-- The tokens of what a call hands over as its own. -/
def toks (own : List TypeId) (c : Nat) : List (Nat × TypeId) := own.zipIdx.map fun p => (c + p.2, p.1)

/-- A contract of a function that only computes: whatever objects there are, they stay; what is handed back is this. -/
def Pure (X : Ctx) (f : FuncId) (xs : List V) (R : Nat → V) (own : List TypeId) : Prop :=
  ∀ H c, ACall X f xs H c fun r H' lv' c' => r = R c ∧ H' = H ∧ lv' = toks own c ∧ c' = c + own.length

def calleeD (X : Ctx) (xs : List V) (dst : Option Nat) (Γ : St) (K : St → Prop) : V → Prop
  | .clo f caps => ∃ R own, Pure X f (xs ++ caps) R own ∧ K (({ Γ with lv := toks own Γ.ctr ++ Γ.lv, ctr := Γ.ctr + own.length } : St).put dst (R Γ.ctr))
  | _ => False

/-- A call that hangs on the objects and adds to them: chosen by the callee's number. -/
def calleeH (X : Ctx) (xs : List V) (dst : Option Nat) (Γ : St) (K : St → Prop) : V → Prop
  | .clo f caps => ∃ r M own, ACall X f (xs ++ caps) Γ.hp Γ.ctr (fun r' H' lv' c' => r' = r ∧ H' = Γ.hp ++ M ∧ lv' = toks own Γ.ctr ∧ c' = Γ.ctr + own.length) ∧
      K (({ Γ with hp := Γ.hp ++ M, lv := toks own Γ.ctr ++ Γ.lv, ctr := Γ.ctr + own.length } : St).put dst r)
  | _ => False

def heapFn (mt : TypeId → Bool) : Operand → Bool
  | .func f => mt (1000000 + f)
  | _ => false
def heapCall (mt : TypeId → Bool) : Op → Bool
  | .call c => match c.callee with | .value fo => heapFn mt fo | _ => false
  | _ => false
def isLoad : Op → Bool
  | .load .. => true
  | _ => false

/-- An append that is held to adding an object at most: chosen by its type. -/
def addApp (mt : TypeId → Bool) : Op → Bool
  | .call c => match c.callee with | .builtin .append => mt (c.argTypes.toList.headD 0) && mt (2000000 + c.argTypes.toList.headD 0) | _ => false
  | _ => false
/-- What only adds objects. -/
def grows (mt : TypeId → Bool) : Op → Bool
  | .box .. | .alloc _ => true
  | op => heapCall mt op || addApp mt op

def mutD (X : Ctx) (o : Oper) (Γ : St) (K : St → Prop) : Prop := ∃ Γ', mutG X o Γ (fun Γ'' => Γ'' = Γ') ∧ (addApp X.mt o.op = true → ∃ M, Γ'.hp = Γ.hp ++ M) ∧ K Γ'

def awpOpD (X : Ctx) (o : Oper) (Γ : St) (K : St → Prop) : Prop :=
  bif mutOp X.mt o.op then mutD X o Γ K else match o.op with
  | .call c => match c.callee with
    | .value fo => bif heapFn X.mt fo then calleeH X (c.args.toList.map (opv X.G Γ.tm)) o.dst Γ K (opv X.G Γ.tm fo) else calleeD X (c.args.toList.map (opv X.G Γ.tm)) o.dst Γ K (opv X.G Γ.tm fo)
    | .builtin _ => bindS (vstep X.T X.Q X.G o Γ) K
    | _ => False
  | _ => bindS (vstep X.T X.Q X.G o Γ) K

/-- One operation with its guard. -/
def stepG (X : Ctx) (ops : List Oper) (o : Oper) (Γ : St) (K : St → Prop) : Prop :=
  match o.guard with
  | none => awpOpD X o Γ K
  | some (j, b) => match gslot ops j with
    | some d => guardG (Γ.tm d) b (awpOpD X o Γ K) (K (Γ.put o.dst (.sc undef)))
    | none => False

def awpOpsD (X : Ctx) (ops : List Oper) : List Oper → St → (St → Prop) → Prop
  | [], Γ, K => K Γ
  | o :: rest, Γ, K => stepG X ops o Γ fun Γ' => awpOpsD X ops rest Γ' K

def hpMod (mt : TypeId → Bool) : Op → Bool
  | .box .. | .alloc _ | .store .. => true
  | op => mutOp mt op || heapCall mt op
def hpDep (mt : TypeId → Bool) : Op → Bool
  | .load .. => true
  | op => hpMod mt op
def tokDep : Op → Bool
  | .buildSlice .. | .makeSlice .. => true
  | .call c => match c.callee with | .builtin .len | .builtin .min | .builtin .max => false | _ => true
  | _ => false

def clash (mt : TypeId → Bool) (ops : Array Oper) (x y : Oper) : Bool :=
  (match x.dst with | some d => (y.looksAt ops).contains d || y.dst == some d | none => false) ||
  (match y.dst with | some d => (x.looksAt ops).contains d | none => false) ||
  (hpMod mt x.op && hpDep mt y.op && !(grows mt x.op && isLoad y.op)) || (hpDep mt x.op && hpMod mt y.op && !(isLoad x.op && grows mt y.op)) || (tokDep x.op && tokDep y.op)

def okDraw (mt : TypeId → Bool) (ops : Array Oper) : Bool :=
  let B := Region.before ops
  (List.range ops.size).all fun j => (ops.getD j default).after.all (fun e => !Region.binds .any e || e.on < j) &&
    (List.range j).all fun i => !clash mt ops (ops.getD i default) (ops.getD j default) || (B.getD j 0).testBit i

/-- The same for the operations before p; those from p on come behind all that stand before them. -/
def okCut (mt : TypeId → Bool) (p : Nat) (ops : Array Oper) : Bool :=
  let B := Region.before ops
  decide (p ≤ ops.size) && (List.range ops.size).all fun j => (ops.getD j default).after.all (fun e => !Region.binds .any e || e.on < j) &&
    (List.range j).all fun i => (decide (j < p) && !clash mt ops (ops.getD i default) (ops.getD j default)) || (B.getD j 0).testBit i

/-- One step in the text's order. -/
def StepD (X : Ctx) (ops : List Oper) (o : Oper) (Γ Γ' : St) : Prop := stepG X ops o Γ fun Γ'' => Γ'' = Γ'

inductive Chain (X : Ctx) (ops : List Oper) : List Oper → St → List St → Prop
  | nil (Γ : St) : Chain X ops [] Γ []
  | cons {o : Oper} {rest : List Oper} {Γ Γ' : St} {Ss : List St} (h : StepD X ops o Γ Γ') (k : Chain X ops rest Γ' Ss) : Chain X ops (o :: rest) Γ (Γ' :: Ss)

theorem bindS_of {r : Option (Prop × St)} {K : St → Prop} (h : bindS r K) : ∃ Γ', bindS r (fun Γ'' => Γ'' = Γ') ∧ K Γ' := by
  unfold bindS at *
  split at h
  · exact ⟨_, ⟨h.1, rfl⟩, h.2⟩
  · exact h.elim

theorem awpOpD_of {X : Ctx} {o : Oper} {Γ : St} {K : St → Prop} (h : awpOpD X o Γ K) : ∃ Γ', awpOpD X o Γ (fun Γ'' => Γ'' = Γ') ∧ K Γ' := by
  unfold awpOpD at *
  cases hmt : mutOp X.mt o.op with
  | true =>
    rw [hmt] at h
    obtain ⟨Γ', h1, hg, h2⟩ := h
    exact ⟨Γ', ⟨Γ', h1, hg, rfl⟩, h2⟩
  | false =>
  rw [hmt] at h
  simp only [cond_false] at h ⊢
  split at h
  · split at h
    · rename_i fo _
      cases hf : heapFn X.mt fo with
      | true =>
        rw [hf] at h
        simp only [cond_true] at h ⊢
        unfold calleeH at *
        split at h
        · obtain ⟨r, M, own, h1, h2⟩ := h
          exact ⟨_, ⟨r, M, own, h1, rfl⟩, h2⟩
        · exact h.elim
      | false =>
      rw [hf] at h
      simp only [cond_false] at h ⊢
      unfold calleeD at *
      split at h
      · obtain ⟨R, own, h1, h2⟩ := h
        exact ⟨_, ⟨R, own, h1, rfl⟩, h2⟩
      · exact h.elim
    · exact bindS_of h
    · exact h.elim
  · exact bindS_of h

theorem stepG_of {X : Ctx} {ops : List Oper} {o : Oper} {Γ : St} {K : St → Prop} (h : stepG X ops o Γ K) : ∃ Γ', StepD X ops o Γ Γ' ∧ K Γ' := by
  unfold StepD
  cases hg : o.guard with
  | none =>
    simp only [stepG, hg] at h ⊢
    exact awpOpD_of h
  | some p =>
    obtain ⟨j, b⟩ := p
    simp only [stepG, hg] at h ⊢
    cases hs : gslot ops j with
    | none => simp only [hs] at h
    | some d =>
      simp only [hs] at h ⊢
      generalize Γ.tm d = v at h ⊢
      unfold guardG at h
      split at h
      · rename_i x
        simp only [guardG]
        rcases ifG_iff h with ⟨hx, h1⟩ | ⟨hx, h1⟩
        · obtain ⟨Γ', h2, h3⟩ := awpOpD_of h1
          exact ⟨Γ', ⟨fun _ => h2, fun h' => by rw [hx] at h'; cases h'⟩, h3⟩
        · exact ⟨_, ⟨fun h' => (by rw [hx] at h'; cases h'), fun _ => rfl⟩, h1⟩
      · rename_i x
        simp only [guardG]
        rcases ifG_iff h with ⟨hx, h1⟩ | ⟨hx, h1⟩
        · exact ⟨_, ⟨fun _ => rfl, fun h' => (by rw [hx] at h'; cases h')⟩, h1⟩
        · obtain ⟨Γ', h2, h3⟩ := awpOpD_of h1
          exact ⟨Γ', ⟨fun h' => (by rw [hx] at h'; cases h'), fun _ => h2⟩, h3⟩
      · simp only [guardG]
        exact ⟨_, rfl, h⟩
      · exact h.elim

theorem chain_of {X : Ctx} {ops : List Oper} : ∀ (rest : List Oper) (Γ : St) (K : St → Prop), awpOpsD X ops rest Γ K → ∃ Ss, Chain X ops rest Γ Ss ∧ K ((Γ :: Ss).getLast (by simp))
  | [], Γ, K, h => ⟨[], .nil Γ, h⟩
  | o :: rest, Γ, K, h => by
    obtain ⟨Γ', h1, h2⟩ := stepG_of h
    obtain ⟨Ss, h3, h4⟩ := chain_of rest Γ' K h2
    exact ⟨Γ' :: Ss, .cons h1 h3, by simpa using h4⟩

theorem Chain.step {X : Ctx} {ops rest : List Oper} {Γ : St} {Ss : List St} (h : Chain X ops rest Γ Ss) : Ss.length = rest.length ∧
    ∀ i o A B, rest[i]? = some o → (Γ :: Ss)[i]? = some A → (Γ :: Ss)[i + 1]? = some B → StepD X ops o A B := by
  induction h with
  | nil Γ => exact ⟨rfl, fun i o A B h => by simp at h⟩
  | cons h k ih =>
    refine ⟨by simp [ih.1], fun i o A B ho hA hB => ?_⟩
    cases i with
    | zero => simp at ho hA hB; subst ho; subst hA; subst hB; exact h
    | succ i => exact ih.2 i o A B (by simpa using ho) (by simpa using hA) (by simpa using hB)

/-- What an operation writes, out of B; all else out of A. -/
def mix (mt : TypeId → Bool) (o : Oper) (A B : St) : St where
  tm := fun t => if o.dst = some t then B.tm t else A.tm t
  hp := if hpMod mt o.op then B.hp else A.hp
  lv := if tokDep o.op then B.lv else A.lv
  ctr := if tokDep o.op then B.ctr else A.ctr

theorem vval_congr (T : Tab) (Q : EqTab) {hp hp' : List (List V)} {ev ev' : Operand → V} {op : Op} (he : ∀ x ∈ op.operands, ev' x = ev x) (hh : isLoad op = true → hp' = hp) : vval T Q hp' ev' op = vval T Q hp ev op := by
  have hmap : ∀ (l : List Operand), (∀ x ∈ l, ev' x = ev x) → l.map ev' = l.map ev := fun l h => List.map_congr_left h
  cases op <;> simp only [Op.operands, List.mem_toArray, Array.mem_append, List.mem_cons, List.not_mem_nil, or_false, forall_eq_or_imp, forall_eq, Call.operands] at he <;> simp only [vval]
  case move => rw [he]
  case assign => rw [he]
  case pick => rw [he.1, he.2.1, he.2.2]
  case load => rw [he, hh rfl]
  case nilCheck => rw [he]
  case binOp => rw [he.1, he.2]
  case unOp => rw [he]
  case convert => rw [he]
  case slice t x lo hi mx =>
    have h1 : lo.map ev' = lo.map ev := by
      cases lo with
      | none => rfl
      | some l => simp only [Option.map_some, Option.some.injEq]; exact he l (by simp)
    have h2 : hi.map ev' = hi.map ev := by
      cases hi with
      | none => rfl
      | some l => simp only [Option.map_some, Option.some.injEq]; exact he l (by simp)
    have h3 : mx.map ev' = mx.map ev := by
      cases mx with
      | none => rfl
      | some l => simp only [Option.map_some, Option.some.injEq]; exact he l (by simp)
    rw [he x (by simp), h1, h2, h3]
  case fieldAddr => rw [he]
  case field => rw [he]
  case indexAddr => rw [he.1, he.2]
  case index => rw [he.1, he.2]
  case makeFunc fn first caps =>
    rw [hmap caps.toList (fun x hx => he x (.inr (by simpa using hx)))]
  case extract => rw [he]
  case build t parts =>
    have : (parts.toList.map fun p => (p.1, ev' p.2)) = parts.toList.map fun p => (p.1, ev p.2) := List.map_congr_left fun p hp => by
      rw [he p.2 (by simp only [List.mem_map]; exact ⟨p, hp, rfl⟩)]
    rw [this]
  case call c =>
    obtain ⟨callee, ⟨args⟩, ⟨argTypes⟩⟩ := c
    have hargs : ∀ x ∈ args, ev' x = ev x := fun x hx => he x (.inr (by simpa using hx))
    simp only [vbuiltin]
    split
    · rw [hargs _ (by simp)]
    · rw [hargs _ (by simp), hargs _ (by simp)]
    · rw [hargs _ (by simp), hargs _ (by simp)]
    · rfl

theorem opv_congr {G : Nat → Option (List V)} {f g : Nat → V} {x : Operand} (h : ∀ t, x = .tmp t → g t = f t) : opv G g x = opv G f x := by
  cases x with
  | tmp t => exact h t rfl
  | _ => rfl

end Go.VS
