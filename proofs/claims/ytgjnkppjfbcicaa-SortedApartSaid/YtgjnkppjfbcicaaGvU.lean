/- The rules that walk. -/
import Derived.Test.YtgjnkppjfbcicaaGvS
import Derived.Test.YtgjnkppjfbcicaaGvT
namespace Go.VS

/-- Zeros, one by one. -/
def vzF (z : List Value) : Nat → Nat → List V
  | _, 0 => []
  | i, n + 1 => .sc (z.getD (i % z.length) undef) :: vzF z (i + 1) n
theorem vzF_range (z : List Value) (hz : 0 < z.length) : ∀ n i, (List.range' i n).map (fun i => V.sc (z[i % z.length]!)) = vzF z i n
  | 0, _ => rfl
  | n + 1, i => by
    have hlt : i % z.length < z.length := Nat.mod_lt _ hz
    rw [List.range'_succ, List.map_cons, vzF_range z hz n (i + 1), vzF, getElem!_pos z _ hlt, List.getD_eq_getElem?_getD, List.getElem?_eq_getElem hlt]
    rfl
theorem vzF_eq (z : List Value) (n : Nat) (hz : 0 < z.length) : vzeros z n = vzF z 0 n := by
  unfold vzeros
  rw [List.range_eq_range', vzF_range z hz]
theorem vzF_zero {z : List Value} {i : Nat} : vzF z i 0 = [] := rfl
theorem vzF_succ {z : List Value} {i n : Nat} : vzF z i (n + 1) = .sc (z.getD (i % z.length) undef) :: vzF z (i + 1) n := rfl
attribute [go_sem ↓] vzF_zero vzF_succ
attribute [go_sem] Nat.reduceMod

section
variable {X : Ctx} {h0 : Nat} {Q : Exit → St → Prop} {Γ : St} {K : St → Prop}
@[go_sem ↓] theorem awp_skip : awp X h0 .skip Q Γ = Q .normal Γ := rfl
@[go_sem ↓] theorem awp_region {i : Nat} {ops : Array Oper} : awp X h0 (.region i ops false) Q Γ = awpOps X ops.toList ops.toList Γ (Q .normal) := rfl
@[go_sem ↓] theorem awp_regionD {i : Nat} {ops : Array Oper} : awp X h0 (.region i ops true) Q Γ = onDraw X ops Γ (Q .normal) := rfl
@[go_sem ↓] theorem awp_seq {a b : Code} : awp X h0 (.seq a b) Q Γ = awp X h0 a (thenG (fun Γ' => awp X h0 b Q Γ') Q) Γ := rfl
@[go_sem ↓] theorem awp_cond {c : Operand} {a b : Code} : awp X h0 (.cond c a b) Q Γ = onIf (opv X.G Γ.tm c) (awp X h0 a Q Γ) (awp X h0 b Q Γ) := rfl
@[go_sem ↓] theorem awp_block {i : Nat} {c : Code} : awp X h0 (.block i c) Q Γ = awp X h0 c (blockG i Q) Γ := rfl
@[go_sem ↓] theorem awp_loop {c : Code} : awp X h0 (.loop c) Q Γ = onLoop X h0 (fun K Γ' => awp X h0 c (thenG K Q) Γ') Γ := rfl
@[go_sem ↓] theorem awp_exit {i : Nat} : awp X h0 (.exit i) Q Γ = Q (.exit i) Γ := rfl
@[go_sem ↓] theorem awp_scope {c : Code} : awp X h0 (.scope c) Q Γ = awp X h0 c (scopeG Q) Γ := rfl
@[go_sem ↓] theorem awp_label {l : Nat} : awp X h0 (.label l) Q Γ = Q .normal Γ := rfl
@[go_sem ↓] theorem awp_ret : awp X h0 .ret Q Γ = Q .ret Γ := rfl
@[go_sem ↓] theorem thenG_normal : thenG K Q .normal Γ = K Γ := rfl
@[go_sem ↓] theorem thenG_ret : thenG K Q .ret Γ = Q .ret Γ := rfl
@[go_sem ↓] theorem thenG_exit {i : Nat} : thenG K Q (.exit i) Γ = Q (.exit i) Γ := rfl
@[go_sem ↓] theorem blockG_normal {i : Nat} : blockG i Q .normal Γ = Q .normal Γ := rfl
@[go_sem ↓] theorem blockG_ret {i : Nat} : blockG i Q .ret Γ = Q .ret Γ := rfl
@[go_sem ↓] theorem blockG_exit {i j : Nat} : blockG i Q (.exit j) Γ = if j = i then Q .normal Γ else Q (.exit j) Γ := rfl
@[go_sem ↓] theorem scopeG_normal : scopeG Q .normal Γ = Q .normal Γ := rfl
@[go_sem ↓] theorem scopeG_ret : scopeG Q .ret Γ = Q .ret Γ := rfl
@[go_sem ↓] theorem scopeG_exit {i : Nat} : scopeG Q (.exit i) Γ = Q (.exit i) Γ := rfl

@[go_sem ↓] theorem retG_ret {fn : Func} {P : V → List (List V) → List (Nat × TypeId) → Nat → Prop} : retG X fn P .ret Γ = onR (vresults X.T Γ fn.results.toList) fun ys => P (vresult ys) Γ.hp Γ.lv Γ.ctr := by
  unfold retG onR
  rfl
@[go_sem ↓] theorem retG_normal {fn : Func} {P : V → List (List V) → List (Nat × TypeId) → Nat → Prop} : retG X fn P .normal Γ = onR (vresults X.T Γ fn.results.toList) fun ys => P (vresult ys) Γ.hp Γ.lv Γ.ctr := by
  unfold retG onR
  rfl

@[go_sem ↓] theorem awpOps_nil {ops : List Oper} : awpOps X ops [] Γ K = K Γ := rfl
@[go_sem ↓] theorem awpOps_cons {ops rest : List Oper} {d : Option Nat} {op : Op} {ty : TypeId} {pos : String} {af : Array Edge} : awpOps X ops (⟨d, op, ty, pos, af, none⟩ :: rest) Γ K = awpOp X ⟨d, op, ty, pos, af, none⟩ Γ fun Γ' => awpOps X ops rest Γ' K := rfl
@[go_sem ↓] theorem awpOps_guard {ops rest : List Oper} {d : Option Nat} {op : Op} {ty : TypeId} {pos : String} {af : Array Edge} {j : Nat} {b : Bool} : awpOps X ops (⟨d, op, ty, pos, af, some (j, b)⟩ :: rest) Γ K =
    (onS (gslot ops j) fun k => onG (Γ.tm k) b (awpOp X ⟨d, op, ty, pos, af, some (j, b)⟩ Γ fun Γ' => awpOps X ops rest Γ' K) (awpOps X ops rest (Γ.put d (.sc undef)) K)) := rfl
@[go_sem ↓] theorem awpOpsD_nil {ops : List Oper} : awpOpsD X ops [] Γ K = K Γ := rfl
@[go_sem ↓] theorem awpOpsD_cons {ops rest : List Oper} {d : Option Nat} {op : Op} {ty : TypeId} {pos : String} {af : Array Edge} : awpOpsD X ops (⟨d, op, ty, pos, af, none⟩ :: rest) Γ K = awpOpD X ⟨d, op, ty, pos, af, none⟩ Γ fun Γ' => awpOpsD X ops rest Γ' K := rfl
@[go_sem ↓] theorem awpOpsD_guard {ops rest : List Oper} {d : Option Nat} {op : Op} {ty : TypeId} {pos : String} {af : Array Edge} {j : Nat} {b : Bool} : awpOpsD X ops (⟨d, op, ty, pos, af, some (j, b)⟩ :: rest) Γ K =
    (onS (gslot ops j) fun k => onG (Γ.tm k) b (awpOpD X ⟨d, op, ty, pos, af, some (j, b)⟩ Γ fun Γ' => awpOpsD X ops rest Γ' K) (awpOpsD X ops rest (Γ.put d (.sc undef)) K)) := rfl


theorem onDraw_cut {ops : Array Oper} (p : Nat) (h : okCut X.mt p ops = true) (k : awpOpsD X ops.toList (ops.toList.take p) Γ fun Γ' => awpOps X ops.toList (ops.toList.drop p) Γ' K) : onDraw X ops Γ K := .inl ⟨p, h, k⟩
/-- Two operations may change places: both orders are walked. -/
theorem onDraw_two {ops : Array Oper} (i j : Nat) (h : okTwo X.mt i j ops = true) (k1 : awpOpsD X ops.toList ops.toList Γ K) (k2 : awpOpsD X ops.toList (swapL i j ops.toList) Γ K) : onDraw X ops Γ K := .inr ⟨i, j, h, k1, k2⟩
attribute [go_sem] swapL
theorem onDraw_all {ops : Array Oper} (h : okCut X.mt ops.size ops = true) (k : awpOpsD X ops.toList ops.toList Γ K) : onDraw X ops Γ K := .inl ⟨ops.size, h, by
  rw [List.take_of_length_le (by simp), List.drop_eq_nil_of_le (by simp)]
  exact k⟩

variable {d : Option Nat} {ty t : TypeId} {pos : String} {af : Array Edge} {g : Option (Nat × Bool)} {x y z : Operand}

theorem bind_val {o : Oper} {r : Option (Prop × V)} (h : vval X.T X.Q Γ.hp (opv X.G Γ.tm) o.op = r) (hn : r = none → vmake X.T (opv X.G Γ.tm) o Γ = none) : bindS (vstep X.T X.Q X.G o Γ) K = onC r fun y => K (Γ.put o.dst y) := by
  unfold vstep
  rw [h]
  cases r with
  | none => rw [hn rfl]; rfl
  | some p => rfl

theorem onC_map {r : Option V} {k : V → Prop} : onC (match r with | some y => some (True, y) | none => none) k = onV r k := by
  cases r with
  | none => rfl
  | some y => simp [onC, onV]

section
variable (D : Bool)
/-- One operation, in a region that is drawn or in one that is not. -/
def step1 (X : Ctx) (D : Bool) (o : Oper) (Γ : St) (K : St → Prop) : Prop := match D with | true => awpOpD X o Γ K | false => awpOp X o Γ K
end

theorem awpOp_val {o : Oper} (hmt : mutOp X.mt o.op = false) (hc : ∀ c, o.op ≠ .call c) {r : Option (Prop × V)} (h : vval X.T X.Q Γ.hp (opv X.G Γ.tm) o.op = r) (hn : vmake X.T (opv X.G Γ.tm) o Γ = none) : awpOp X o Γ K = onC r fun y => K (Γ.put o.dst y) := by
  unfold awpOp
  rw [hmt]
  simp only [cond_false]
  exact bind_val h fun _ => hn
theorem awpOpD_val {o : Oper} (hmt : mutOp X.mt o.op = false) (hc : ∀ c, o.op ≠ .call c) {r : Option (Prop × V)} (h : vval X.T X.Q Γ.hp (opv X.G Γ.tm) o.op = r) (hn : vmake X.T (opv X.G Γ.tm) o Γ = none) : awpOpD X o Γ K = onC r fun y => K (Γ.put o.dst y) := by
  unfold awpOpD
  rw [hmt]
  simp only [cond_false]
  exact bind_val h fun _ => hn

theorem onC_true {y : V} {k : V → Prop} : onC (some (True, y)) k = k y := by simp [onC]

@[go_sem ↓] theorem op_move : awpOp X ⟨d, .move x, ty, pos, af, g⟩ Γ K = onV (some (opv X.G Γ.tm x)) fun y => K (Γ.put d y) := (awpOp_val rfl (by simp) rfl rfl).trans onC_true
@[go_sem ↓] theorem op_assign : awpOp X ⟨d, .assign x, ty, pos, af, g⟩ Γ K = onV (some (opv X.G Γ.tm x)) fun y => K (Γ.put d y) := (awpOp_val rfl (by simp) rfl rfl).trans onC_true
@[go_sem ↓] theorem op_load : awpOp X ⟨d, .load t x, ty, pos, af, g⟩ Γ K = onV (vload X.T Γ.hp t (opv X.G Γ.tm x)) fun y => K (Γ.put d y) := (awpOp_val rfl (by simp) rfl rfl).trans onC_map
@[go_sem ↓] theorem op_binOp {op : BinOp} {yt : TypeId} : awpOp X ⟨d, .binOp op t x y yt, ty, pos, af, g⟩ Γ K = onC (vbin X.T X.Q op t (opv X.G Γ.tm x) (opv X.G Γ.tm y)) fun y => K (Γ.put d y) := awpOp_val rfl (by simp) rfl rfl
@[go_sem ↓] theorem op_unOp {op : UnOp} : awpOp X ⟨d, .unOp op t x, ty, pos, af, g⟩ Γ K = onV (vunary op (opv X.G Γ.tm x)) fun y => K (Γ.put d y) := (awpOp_val rfl (by simp) rfl rfl).trans onC_map
@[go_sem ↓] theorem op_convert {s : TypeId} : awpOp X ⟨d, .convert s t x, ty, pos, af, g⟩ Γ K = onV (vconv X.T s t (opv X.G Γ.tm x)) fun y => K (Γ.put d y) := (awpOp_val rfl (by simp) rfl rfl).trans onC_map
@[go_sem ↓] theorem op_fieldAddr {f : Nat} : awpOp X ⟨d, .fieldAddr t x f, ty, pos, af, g⟩ Γ K = onV (vfieldAddr X.T t f (opv X.G Γ.tm x)) fun y => K (Γ.put d y) := (awpOp_val rfl (by simp) rfl rfl).trans onC_map
@[go_sem ↓] theorem op_field {f : Nat} : awpOp X ⟨d, .field t x f, ty, pos, af, g⟩ Γ K = onV (vfield X.T t f (opv X.G Γ.tm x)) fun y => K (Γ.put d y) := (awpOp_val rfl (by simp) rfl rfl).trans onC_map
@[go_sem ↓] theorem op_indexAddr : awpOp X ⟨d, .indexAddr t x y, ty, pos, af, g⟩ Γ K = onC (vindexAddr X.T t (opv X.G Γ.tm x) (opv X.G Γ.tm y)) fun y => K (Γ.put d y) := awpOp_val rfl (by simp) rfl rfl
@[go_sem ↓] theorem op_index : awpOp X ⟨d, .index t x y, ty, pos, af, g⟩ Γ K = onC (vindex X.T t (opv X.G Γ.tm x) (opv X.G Γ.tm y)) fun y => K (Γ.put d y) := awpOp_val rfl (by simp) rfl rfl
def vnil (x : V) : Option V := if x.isPtr then some x else none
@[go_sem ↓] theorem op_nilCheck : awpOp X ⟨d, .nilCheck x, ty, pos, af, g⟩ Γ K = onV (vnil (opv X.G Γ.tm x)) fun y => K (Γ.put d y) := (awpOp_val rfl (by simp) rfl rfl).trans (by
  unfold vnil
  simp only [vval]
  split <;> simp [onC, onV])
def vpick : V → V → V → Option V
  | .sc (.bool t), a, b => some (if t then a else b)
  | _, _, _ => none
@[go_sem ↓] theorem op_pick : awpOp X ⟨d, .pick x y z, ty, pos, af, g⟩ Γ K = onV (vpick (opv X.G Γ.tm x) (opv X.G Γ.tm y) (opv X.G Γ.tm z)) fun y => K (Γ.put d y) := (awpOp_val rfl (by simp) rfl rfl).trans (by
  simp only [vval, vpick]
  split <;> simp_all [onC, onV])
@[go_sem ↓] theorem vpick_t {a b : V} : vpick (.sc (.bool true)) a b = some a := rfl
@[go_sem ↓] theorem vpick_f {a b : V} : vpick (.sc (.bool false)) a b = some b := rfl
def vext (x : V) (i : Nat) : Option V := match x with | .tup vs => vs[i]? | _ => none
@[go_sem ↓] theorem op_extract {i : Nat} : awpOp X ⟨d, .extract x i, ty, pos, af, g⟩ Γ K = onV (vext (opv X.G Γ.tm x) i) fun y => K (Γ.put d y) := (awpOp_val rfl (by simp) rfl rfl).trans (by
  simp only [vval, vext]
  cases opv X.G Γ.tm x <;> first | rfl | exact onC_map)
@[go_sem ↓] theorem vext_tup {vs : List V} {i : Nat} : vext (.tup vs) i = vs[i]? := rfl
@[go_sem ↓] theorem op_build {parts : Array (Nat × Operand)} : awpOp X ⟨d, .build t parts, ty, pos, af, g⟩ Γ K = onV (vbuild X.T t (mapP X.G Γ parts.toList)) fun y => K (Γ.put d y) := (awpOp_val rfl (by simp) rfl rfl).trans onC_map

@[go_sem ↓] theorem op_makeFunc {f : FuncId} {caps : Array Operand} : awpOp X ⟨d, .makeFunc (.func f) #[] caps, ty, pos, af, g⟩ Γ K = onV (some (.clo f (mapV X.G Γ caps.toList))) fun y => K (Γ.put d y) := (awpOp_val rfl (by simp) rfl rfl).trans onC_true
@[go_sem ↓] theorem opD_makeFunc {f : FuncId} {caps : Array Operand} : awpOpD X ⟨d, .makeFunc (.func f) #[] caps, ty, pos, af, g⟩ Γ K = onV (some (.clo f (mapV X.G Γ caps.toList))) fun y => K (Γ.put d y) := (awpOpD_val rfl (by simp) rfl rfl).trans onC_true
def vmin (a b : V) : Option V := match a, b with
  | .sc (.int k a), .sc (.int _ b) => some (.sc (.int k (if b < a then b else a)))
  | _, _ => none
def vmax (a b : V) : Option V := match a, b with
  | .sc (.int k a), .sc (.int _ b) => some (.sc (.int k (if a < b then b else a)))
  | _, _ => none
@[go_sem] theorem vmin_int {k k' : IntKind} {a b : Int} : vmin (.sc (.int k a)) (.sc (.int k' b)) = some (.sc (.int k (if b < a then b else a))) := rfl
@[go_sem] theorem vmax_int {k k' : IntKind} {a b : Int} : vmax (.sc (.int k a)) (.sc (.int k' b)) = some (.sc (.int k (if a < b then b else a))) := rfl
theorem vbuiltin_min {T : Tab} {ev : Operand → V} {t u : TypeId} : vbuiltin T ev (.builtin .min) [x, y] [t, u] = (match vmin (ev x) (ev y) with | some y => some (True, y) | none => none) := by
  simp only [vbuiltin, vmin]
  generalize ev x = a
  generalize ev y = b
  split
  · rfl
  · rename_i h
    split
    · rename_i heq
      split at heq
      · exact (h _ _ _ _ rfl rfl).elim
      · cases heq
    · rfl
theorem vbuiltin_max {T : Tab} {ev : Operand → V} {t u : TypeId} : vbuiltin T ev (.builtin .max) [x, y] [t, u] = (match vmax (ev x) (ev y) with | some y => some (True, y) | none => none) := by
  simp only [vbuiltin, vmax]
  generalize ev x = a
  generalize ev y = b
  split
  · rfl
  · rename_i h
    split
    · rename_i heq
      split at heq
      · exact (h _ _ _ _ rfl rfl).elim
      · cases heq
    · rfl
@[go_sem ↓] theorem op_min {u : TypeId} : awpOp X ⟨d, .call ⟨.builtin .min, #[x, y], #[t, u]⟩, ty, pos, af, g⟩ Γ K = onV (vmin (opv X.G Γ.tm x) (opv X.G Γ.tm y)) fun y => K (Γ.put d y) :=
  (bind_val (o := ⟨d, .call ⟨.builtin .min, #[x, y], #[t, u]⟩, ty, pos, af, g⟩) (vbuiltin_min (T := X.T) (t := t) (u := u)) fun _ => rfl).trans onC_map
@[go_sem ↓] theorem op_max {u : TypeId} : awpOp X ⟨d, .call ⟨.builtin .max, #[x, y], #[t, u]⟩, ty, pos, af, g⟩ Γ K = onV (vmax (opv X.G Γ.tm x) (opv X.G Γ.tm y)) fun y => K (Γ.put d y) :=
  (bind_val (o := ⟨d, .call ⟨.builtin .max, #[x, y], #[t, u]⟩, ty, pos, af, g⟩) (vbuiltin_max (T := X.T) (t := t) (u := u)) fun _ => rfl).trans onC_map
@[go_sem ↓] theorem opD_min {u : TypeId} : awpOpD X ⟨d, .call ⟨.builtin .min, #[x, y], #[t, u]⟩, ty, pos, af, g⟩ Γ K = onV (vmin (opv X.G Γ.tm x) (opv X.G Γ.tm y)) fun y => K (Γ.put d y) :=
  (bind_val (o := ⟨d, .call ⟨.builtin .min, #[x, y], #[t, u]⟩, ty, pos, af, g⟩) (vbuiltin_min (T := X.T) (t := t) (u := u)) fun _ => rfl).trans onC_map
@[go_sem ↓] theorem opD_max {u : TypeId} : awpOpD X ⟨d, .call ⟨.builtin .max, #[x, y], #[t, u]⟩, ty, pos, af, g⟩ Γ K = onV (vmax (opv X.G Γ.tm x) (opv X.G Γ.tm y)) fun y => K (Γ.put d y) :=
  (bind_val (o := ⟨d, .call ⟨.builtin .max, #[x, y], #[t, u]⟩, ty, pos, af, g⟩) (vbuiltin_max (T := X.T) (t := t) (u := u)) fun _ => rfl).trans onC_map

@[go_sem ↓] theorem op_call {fo : Operand} {args : Array Operand} {tys : Array TypeId} : awpOp X ⟨d, .call ⟨.value fo, args, tys⟩, ty, pos, af, g⟩ Γ K = onCallee X (mapV X.G Γ args.toList) d Γ K (opv X.G Γ.tm fo) := rfl
@[go_sem ↓] theorem op_len : awpOp X ⟨d, .call ⟨.builtin .len, #[x], #[t]⟩, ty, pos, af, g⟩ Γ K = onV (vlen X.T t (opv X.G Γ.tm x)) fun y => K (Γ.put d y) :=
  (bind_val (o := ⟨d, .call ⟨.builtin .len, #[x], #[t]⟩, ty, pos, af, g⟩) rfl fun _ => rfl).trans onC_map
@[go_sem ↓] theorem op_box {v : Operand} : awpOp X ⟨d, .box t v, ty, pos, af, g⟩ Γ K = onR (vcells (opv X.G Γ.tm v)) fun cs => onV (some (.ref Γ.hp.length 0)) fun y => onH (some (Γ.hp ++ [cs])) fun H => K ((Γ.setHp H).put d y) := by
  show bindS (vstep X.T X.Q X.G ⟨d, .box t v, ty, pos, af, g⟩ Γ) K = _
  unfold vstep
  simp only [vval, vmake]
  cases vcells (opv X.G Γ.tm v) <;> simp [bindS, onR, onV, onH, St.setHp]
def vzero (T : Tab) (t : TypeId) : Option (List V) := match T t with | some ti => if ti.zero.all (·.oneCell') then some (ti.zero.map .sc) else none | none => none
@[go_sem ↓] theorem op_alloc : awpOp X ⟨d, .alloc t, ty, pos, af, g⟩ Γ K = onR (vzero X.T t) fun cs => onV (some (.ref Γ.hp.length 0)) fun y => onH (some (Γ.hp ++ [cs])) fun H => K ((Γ.setHp H).put d y) := by
  show bindS (vstep X.T X.Q X.G ⟨d, .alloc t, ty, pos, af, g⟩ Γ) K = _
  unfold vstep vzero
  simp only [vval, vmake]
  cases X.T t with
  | none => simp [bindS, onR]
  | some ti =>
    simp only
    split <;> simp [bindS, onR, onV, onH, St.setHp]
def vstore (T : Tab) (hp : List (List V)) (t : TypeId) (a x : V) : Option (List (List V)) := match a, vcells x, T t with
  | .ref k off, some cs, some ti => match hp[k]? with | some old => if cs.length = ti.size ∧ off + cs.length ≤ old.length then some (hp.set k (vsplice old off cs)) else none | none => none
  | _, _, _ => none
@[go_sem ↓] theorem op_store {a v : Operand} : awpOp X ⟨d, .store t a v, ty, pos, af, g⟩ Γ K = onH (vstore X.T Γ.hp t (opv X.G Γ.tm a) (opv X.G Γ.tm v)) fun H => K ((Γ.setHp H).put d (.sc undef)) := by
  show bindS (vstep X.T X.Q X.G ⟨d, .store t a v, ty, pos, af, g⟩ Γ) K = _
  unfold vstep vstore
  simp only [vval, vmake]
  generalize opv X.G Γ.tm a = va
  generalize vcells (opv X.G Γ.tm v) = vc
  generalize X.T t = vt
  cases va <;> cases vc <;> cases vt <;> try (simp [bindS, onH]; done)
  rename_i k off cs ti
  simp only
  cases Γ.hp[k]? with
  | none => simp [bindS, onH]
  | some old =>
    simp only [bindS]
    split
    · rename_i hh; simp only [onH]; exact propext ⟨fun h => h.2, fun h => ⟨hh, h⟩⟩
    · rename_i hh; simp only [onH]; exact propext ⟨fun h => hh h.1, fun h => h.elim⟩

theorem op_append0 {a v : Operand} {u : TypeId} (h : X.mt t = false) : awpOp X ⟨d, .call ⟨.builtin .append, #[a, v], #[t, u]⟩, ty, pos, af, g⟩ Γ K =
    onA (vappend X.T Γ.lv t u (opv X.G Γ.tm a) (opv X.G Γ.tm v)) fun n sz cs τ0 e => onL ((Γ.ctr, e) :: lvDrop τ0 Γ.lv) (Γ.ctr + 1) fun l c => onV (some (.data n sz cs (some Γ.ctr))) fun y => K ((Γ.setTk l c).put d y) := by
  unfold awpOp
  have : mutOp X.mt (.call ⟨.builtin .append, #[a, v], #[t, u]⟩) = false := h
  rw [this]
  show bindS (vstep X.T X.Q X.G ⟨d, .call ⟨.builtin .append, #[a, v], #[t, u]⟩, ty, pos, af, g⟩ Γ) K = _
  unfold vstep
  simp only [vval, vbuiltin, vmake]
  cases vappend X.T Γ.lv t u (opv X.G Γ.tm a) (opv X.G Γ.tm v) with
  | none => rfl
  | some p => rfl
def vbs (T : Tab) (t : TypeId) (len : Nat) (ps : List (Nat × V)) : Option (Nat × List V × TypeId) := match T t with
  | some ⟨.slice e, _, _, _⟩ => (match T e with
    | some ti => if len * ti.size ≤ 16777216 ∧ 0 < ti.size ∧ ti.zero.length = ti.size ∧ ti.zero.all (·.oneCell') then (match vfill (fun i => some (i * ti.size, ti.size)) (vzF ti.zero 0 (len * ti.size)) ps with | some cs => some (ti.size, cs, e) | none => none) else none
    | none => none)
  | _ => none
theorem op_buildSlice0 {len : Nat} {parts : Array (Nat × Operand)} (h : X.mt t = false) : awpOp X ⟨d, .buildSlice t len parts, ty, pos, af, g⟩ Γ K =
    onB (vbs X.T t len (mapP X.G Γ parts.toList)) fun sz cs e => onL ((Γ.ctr, e) :: Γ.lv) (Γ.ctr + 1) fun l c => onV (some (.data len sz cs (some Γ.ctr))) fun y => K ((Γ.setTk l c).put d y) := by
  unfold awpOp
  have : mutOp X.mt (.buildSlice t len parts) = false := h
  rw [this]
  show bindS (vstep X.T X.Q X.G ⟨d, .buildSlice t len parts, ty, pos, af, g⟩ Γ) K = _
  unfold vstep vbs mapP
  simp only [vval, vmake]
  generalize hvt : X.T t = vt
  match vt with
  | none => rfl
  | some ⟨.slice e, _, _, _⟩ =>
    simp only
    cases X.T e with
    | none => rfl
    | some ti =>
      simp only
      split
      · rename_i hz
        rw [← vzF_eq ti.zero (len * ti.size) (by omega)]
        cases vfill (fun i => some (i * ti.size, ti.size)) (vzeros ti.zero (len * ti.size)) (parts.toList.map fun p => (p.1, opv X.G Γ.tm p.2)) with
        | none => rfl
        | some cs => simp [bindS, onB, onL, onV, St.setTk]
      · rfl
  | some ⟨.bool, _, _, _⟩ => rfl
  | some ⟨.int _, _, _, _⟩ => rfl
  | some ⟨.string, _, _, _⟩ => rfl
  | some ⟨.pointer _, _, _, _⟩ => rfl
  | some ⟨.array _ _, _, _, _⟩ => rfl
  | some ⟨.struct _, _, _, _⟩ => rfl
  | some ⟨.other, _, _, _⟩ => rfl

@[go_sem ↓] theorem op_append {a v : Operand} {u : TypeId} : awpOp X ⟨d, .call ⟨.builtin .append, #[a, v], #[t, u]⟩, ty, pos, af, g⟩ Γ K =
    onM (X.mt t) (mutG X ⟨d, .call ⟨.builtin .append, #[a, v], #[t, u]⟩, ty, pos, af, g⟩ Γ K) (onA (vappend X.T Γ.lv t u (opv X.G Γ.tm a) (opv X.G Γ.tm v)) fun n sz cs τ0 e => onL ((Γ.ctr, e) :: lvDrop τ0 Γ.lv) (Γ.ctr + 1) fun l c => onV (some (.data n sz cs (some Γ.ctr))) fun y => K ((Γ.setTk l c).put d y)) := by
  cases h : X.mt t with
  | false => exact op_append0 h
  | true =>
    unfold awpOp
    have : mutOp X.mt (.call ⟨.builtin .append, #[a, v], #[t, u]⟩) = true := h
    rw [this]
    rfl
@[go_sem ↓] theorem op_buildSlice {len : Nat} {parts : Array (Nat × Operand)} : awpOp X ⟨d, .buildSlice t len parts, ty, pos, af, g⟩ Γ K =
    onM (X.mt t) (mutG X ⟨d, .buildSlice t len parts, ty, pos, af, g⟩ Γ K) (onB (vbs X.T t len (mapP X.G Γ parts.toList)) fun sz cs e => onL ((Γ.ctr, e) :: Γ.lv) (Γ.ctr + 1) fun l c => onV (some (.data len sz cs (some Γ.ctr))) fun y => K ((Γ.setTk l c).put d y)) := by
  cases h : X.mt t with
  | false => exact op_buildSlice0 h
  | true =>
    unfold awpOp
    have : mutOp X.mt (.buildSlice t len parts) = true := h
    rw [this]
    rfl

@[go_sem ↓] theorem opD_move : awpOpD X ⟨d, .move x, ty, pos, af, g⟩ Γ K = onV (some (opv X.G Γ.tm x)) fun y => K (Γ.put d y) := (awpOpD_val rfl (by simp) rfl rfl).trans onC_true
@[go_sem ↓] theorem opD_assign : awpOpD X ⟨d, .assign x, ty, pos, af, g⟩ Γ K = onV (some (opv X.G Γ.tm x)) fun y => K (Γ.put d y) := (awpOpD_val rfl (by simp) rfl rfl).trans onC_true
@[go_sem ↓] theorem opD_load : awpOpD X ⟨d, .load t x, ty, pos, af, g⟩ Γ K = onV (vload X.T Γ.hp t (opv X.G Γ.tm x)) fun y => K (Γ.put d y) := (awpOpD_val rfl (by simp) rfl rfl).trans onC_map
@[go_sem ↓] theorem opD_binOp {op : BinOp} {yt : TypeId} : awpOpD X ⟨d, .binOp op t x y yt, ty, pos, af, g⟩ Γ K = onC (vbin X.T X.Q op t (opv X.G Γ.tm x) (opv X.G Γ.tm y)) fun y => K (Γ.put d y) := awpOpD_val rfl (by simp) rfl rfl
@[go_sem ↓] theorem opD_unOp {op : UnOp} : awpOpD X ⟨d, .unOp op t x, ty, pos, af, g⟩ Γ K = onV (vunary op (opv X.G Γ.tm x)) fun y => K (Γ.put d y) := (awpOpD_val rfl (by simp) rfl rfl).trans onC_map
@[go_sem ↓] theorem opD_convert {s : TypeId} : awpOpD X ⟨d, .convert s t x, ty, pos, af, g⟩ Γ K = onV (vconv X.T s t (opv X.G Γ.tm x)) fun y => K (Γ.put d y) := (awpOpD_val rfl (by simp) rfl rfl).trans onC_map
@[go_sem ↓] theorem opD_fieldAddr {f : Nat} : awpOpD X ⟨d, .fieldAddr t x f, ty, pos, af, g⟩ Γ K = onV (vfieldAddr X.T t f (opv X.G Γ.tm x)) fun y => K (Γ.put d y) := (awpOpD_val rfl (by simp) rfl rfl).trans onC_map
@[go_sem ↓] theorem opD_field {f : Nat} : awpOpD X ⟨d, .field t x f, ty, pos, af, g⟩ Γ K = onV (vfield X.T t f (opv X.G Γ.tm x)) fun y => K (Γ.put d y) := (awpOpD_val rfl (by simp) rfl rfl).trans onC_map
@[go_sem ↓] theorem opD_indexAddr : awpOpD X ⟨d, .indexAddr t x y, ty, pos, af, g⟩ Γ K = onC (vindexAddr X.T t (opv X.G Γ.tm x) (opv X.G Γ.tm y)) fun y => K (Γ.put d y) := awpOpD_val rfl (by simp) rfl rfl
@[go_sem ↓] theorem opD_index : awpOpD X ⟨d, .index t x y, ty, pos, af, g⟩ Γ K = onC (vindex X.T t (opv X.G Γ.tm x) (opv X.G Γ.tm y)) fun y => K (Γ.put d y) := awpOpD_val rfl (by simp) rfl rfl
@[go_sem ↓] theorem opD_nilCheck : awpOpD X ⟨d, .nilCheck x, ty, pos, af, g⟩ Γ K = onV (vnil (opv X.G Γ.tm x)) fun y => K (Γ.put d y) := (awpOpD_val rfl (by simp) rfl rfl).trans (by
  unfold vnil
  simp only [vval]
  split <;> simp [onC, onV])
@[go_sem ↓] theorem opD_pick : awpOpD X ⟨d, .pick x y z, ty, pos, af, g⟩ Γ K = onV (vpick (opv X.G Γ.tm x) (opv X.G Γ.tm y) (opv X.G Γ.tm z)) fun y => K (Γ.put d y) := (awpOpD_val rfl (by simp) rfl rfl).trans (by
  simp only [vval, vpick]
  split <;> simp_all [onC, onV])
@[go_sem ↓] theorem opD_extract {i : Nat} : awpOpD X ⟨d, .extract x i, ty, pos, af, g⟩ Γ K = onV (vext (opv X.G Γ.tm x) i) fun y => K (Γ.put d y) := (awpOpD_val rfl (by simp) rfl rfl).trans (by
  simp only [vval, vext]
  cases opv X.G Γ.tm x <;> first | rfl | exact onC_map)
@[go_sem ↓] theorem opD_build {parts : Array (Nat × Operand)} : awpOpD X ⟨d, .build t parts, ty, pos, af, g⟩ Γ K = onV (vbuild X.T t (mapP X.G Γ parts.toList)) fun y => K (Γ.put d y) := (awpOpD_val rfl (by simp) rfl rfl).trans onC_map

@[go_sem ↓] theorem opD_call {fo : Operand} {args : Array Operand} {tys : Array TypeId} : awpOpD X ⟨d, .call ⟨.value fo, args, tys⟩, ty, pos, af, g⟩ Γ K = onM (heapFn X.mt fo) (onCalleeH X (mapV X.G Γ args.toList) d Γ K (opv X.G Γ.tm fo)) (onCalleeD X (mapV X.G Γ args.toList) d Γ K (opv X.G Γ.tm fo)) := by
  show (bif heapFn X.mt fo then _ else _) = _
  cases heapFn X.mt fo <;> rfl
@[go_sem] theorem heapFn_func {mt : TypeId → Bool} {f : FuncId} : heapFn mt (.func f) = mt (1000000 + f) := rfl
@[go_sem] theorem heapFn_tmp {mt : TypeId → Bool} {f : Nat} : heapFn mt (.tmp f) = false := rfl
@[go_sem ↓] theorem opD_len : awpOpD X ⟨d, .call ⟨.builtin .len, #[x], #[t]⟩, ty, pos, af, g⟩ Γ K = onV (vlen X.T t (opv X.G Γ.tm x)) fun y => K (Γ.put d y) :=
  (bind_val (o := ⟨d, .call ⟨.builtin .len, #[x], #[t]⟩, ty, pos, af, g⟩) rfl fun _ => rfl).trans onC_map
@[go_sem ↓] theorem opD_box {v : Operand} : awpOpD X ⟨d, .box t v, ty, pos, af, g⟩ Γ K = onR (vcells (opv X.G Γ.tm v)) fun cs => onV (some (.ref Γ.hp.length 0)) fun y => onH (some (Γ.hp ++ [cs])) fun H => K ((Γ.setHp H).put d y) := by
  show bindS (vstep X.T X.Q X.G ⟨d, .box t v, ty, pos, af, g⟩ Γ) K = _
  unfold vstep
  simp only [vval, vmake]
  cases vcells (opv X.G Γ.tm v) <;> simp [bindS, onR, onV, onH, St.setHp]
@[go_sem ↓] theorem opD_alloc : awpOpD X ⟨d, .alloc t, ty, pos, af, g⟩ Γ K = onR (vzero X.T t) fun cs => onV (some (.ref Γ.hp.length 0)) fun y => onH (some (Γ.hp ++ [cs])) fun H => K ((Γ.setHp H).put d y) := by
  show bindS (vstep X.T X.Q X.G ⟨d, .alloc t, ty, pos, af, g⟩ Γ) K = _
  unfold vstep vzero
  simp only [vval, vmake]
  cases X.T t with
  | none => simp [bindS, onR]
  | some ti =>
    simp only
    split <;> simp [bindS, onR, onV, onH, St.setHp]
@[go_sem ↓] theorem opD_store {a v : Operand} : awpOpD X ⟨d, .store t a v, ty, pos, af, g⟩ Γ K = onH (vstore X.T Γ.hp t (opv X.G Γ.tm a) (opv X.G Γ.tm v)) fun H => K ((Γ.setHp H).put d (.sc undef)) := by
  show bindS (vstep X.T X.Q X.G ⟨d, .store t a v, ty, pos, af, g⟩ Γ) K = _
  unfold vstep vstore
  simp only [vval, vmake]
  generalize opv X.G Γ.tm a = va
  generalize vcells (opv X.G Γ.tm v) = vc
  generalize X.T t = vt
  cases va <;> cases vc <;> cases vt <;> try (simp [bindS, onH]; done)
  rename_i k off cs ti
  simp only
  cases Γ.hp[k]? with
  | none => simp [bindS, onH]
  | some old =>
    simp only [bindS]
    split
    · rename_i hh; simp only [onH]; exact propext ⟨fun h => h.2, fun h => ⟨hh, h⟩⟩
    · rename_i hh; simp only [onH]; exact propext ⟨fun h => hh h.1, fun h => h.elim⟩

theorem opD_append0 {a v : Operand} {u : TypeId} (h : X.mt t = false) : awpOpD X ⟨d, .call ⟨.builtin .append, #[a, v], #[t, u]⟩, ty, pos, af, g⟩ Γ K =
    onA (vappend X.T Γ.lv t u (opv X.G Γ.tm a) (opv X.G Γ.tm v)) fun n sz cs τ0 e => onL ((Γ.ctr, e) :: lvDrop τ0 Γ.lv) (Γ.ctr + 1) fun l c => onV (some (.data n sz cs (some Γ.ctr))) fun y => K ((Γ.setTk l c).put d y) := by
  unfold awpOpD
  have : mutOp X.mt (.call ⟨.builtin .append, #[a, v], #[t, u]⟩) = false := h
  rw [this]
  show bindS (vstep X.T X.Q X.G ⟨d, .call ⟨.builtin .append, #[a, v], #[t, u]⟩, ty, pos, af, g⟩ Γ) K = _
  unfold vstep
  simp only [vval, vbuiltin, vmake]
  cases vappend X.T Γ.lv t u (opv X.G Γ.tm a) (opv X.G Γ.tm v) with
  | none => rfl
  | some p => rfl
theorem opD_buildSlice0 {len : Nat} {parts : Array (Nat × Operand)} (h : X.mt t = false) : awpOpD X ⟨d, .buildSlice t len parts, ty, pos, af, g⟩ Γ K =
    onB (vbs X.T t len (mapP X.G Γ parts.toList)) fun sz cs e => onL ((Γ.ctr, e) :: Γ.lv) (Γ.ctr + 1) fun l c => onV (some (.data len sz cs (some Γ.ctr))) fun y => K ((Γ.setTk l c).put d y) := by
  unfold awpOpD
  have : mutOp X.mt (.buildSlice t len parts) = false := h
  rw [this]
  show bindS (vstep X.T X.Q X.G ⟨d, .buildSlice t len parts, ty, pos, af, g⟩ Γ) K = _
  unfold vstep vbs mapP
  simp only [vval, vmake]
  generalize hvt : X.T t = vt
  match vt with
  | none => rfl
  | some ⟨.slice e, _, _, _⟩ =>
    simp only
    cases X.T e with
    | none => rfl
    | some ti =>
      simp only
      split
      · rename_i hz
        rw [← vzF_eq ti.zero (len * ti.size) (by omega)]
        cases vfill (fun i => some (i * ti.size, ti.size)) (vzeros ti.zero (len * ti.size)) (parts.toList.map fun p => (p.1, opv X.G Γ.tm p.2)) with
        | none => rfl
        | some cs => simp [bindS, onB, onL, onV, St.setTk]
      · rfl
  | some ⟨.bool, _, _, _⟩ => rfl
  | some ⟨.int _, _, _, _⟩ => rfl
  | some ⟨.string, _, _, _⟩ => rfl
  | some ⟨.pointer _, _, _, _⟩ => rfl
  | some ⟨.array _ _, _, _, _⟩ => rfl
  | some ⟨.struct _, _, _, _⟩ => rfl
  | some ⟨.other, _, _, _⟩ => rfl

@[go_sem ↓] theorem opD_append {a v : Operand} {u : TypeId} : awpOpD X ⟨d, .call ⟨.builtin .append, #[a, v], #[t, u]⟩, ty, pos, af, g⟩ Γ K =
    onM (X.mt t) (mutD X ⟨d, .call ⟨.builtin .append, #[a, v], #[t, u]⟩, ty, pos, af, g⟩ Γ K) (onA (vappend X.T Γ.lv t u (opv X.G Γ.tm a) (opv X.G Γ.tm v)) fun n sz cs τ0 e => onL ((Γ.ctr, e) :: lvDrop τ0 Γ.lv) (Γ.ctr + 1) fun l c => onV (some (.data n sz cs (some Γ.ctr))) fun y => K ((Γ.setTk l c).put d y)) := by
  cases h : X.mt t with
  | false => exact opD_append0 h
  | true =>
    unfold awpOpD
    have : mutOp X.mt (.call ⟨.builtin .append, #[a, v], #[t, u]⟩) = true := h
    rw [this]
    rfl
@[go_sem ↓] theorem opD_buildSlice {len : Nat} {parts : Array (Nat × Operand)} : awpOpD X ⟨d, .buildSlice t len parts, ty, pos, af, g⟩ Γ K =
    onM (X.mt t) (mutD X ⟨d, .buildSlice t len parts, ty, pos, af, g⟩ Γ K) (onB (vbs X.T t len (mapP X.G Γ parts.toList)) fun sz cs e => onL ((Γ.ctr, e) :: Γ.lv) (Γ.ctr + 1) fun l c => onV (some (.data len sz cs (some Γ.ctr))) fun y => K ((Γ.setTk l c).put d y)) := by
  cases h : X.mt t with
  | false => exact opD_buildSlice0 h
  | true =>
    unfold awpOpD
    have : mutOp X.mt (.buildSlice t len parts) = true := h
    rw [this]
    rfl


@[go_sem ↓] theorem opv_tmp {G : Nat → Option (List V)} {f : Nat → V} {t : Nat} : opv G f (.tmp t) = f t := rfl
@[go_sem ↓] theorem opv_const {G : Nat → Option (List V)} {f : Nat → V} {v : Value} : opv G f (.const v) = constV v := rfl
@[go_sem ↓] theorem opv_func {G : Nat → Option (List V)} {f : Nat → V} {v : FuncId} : opv G f (.func v) = .clo v [] := rfl
@[go_sem ↓] theorem constV_int {k : IntKind} {n : Int} : constV (.int k n) = .sc (.int k n) := rfl
@[go_sem ↓] theorem constV_bool {b : Bool} : constV (.bool b) = .sc (.bool b) := rfl
@[go_sem ↓] theorem constV_string {b : ByteArray} : constV (.string b) = .sc (.string b) := rfl
@[go_sem ↓] theorem constV_pointer {b : Option Addr} : constV (.pointer b) = .sc (.pointer b) := rfl
@[go_sem ↓] theorem constV_slice {b : Option Addr} {n c : Nat} : constV (.slice b n c) = .sc (.slice b n c) := rfl

section
variable {T : Tab} {Q : EqTab} {k : IntKind} {a b : Int}
@[go_sem] theorem bin_add : vbin T Q .add t (.sc (.int k a)) (.sc (.int k b)) = some (True, .sc (.int k (k.wrap (a + b)))) := by simp [vbin, vint]
@[go_sem] theorem bin_sub : vbin T Q .sub t (.sc (.int k a)) (.sc (.int k b)) = some (True, .sc (.int k (k.wrap (a - b)))) := by simp [vbin, vint]
@[go_sem] theorem bin_mul : vbin T Q .mul t (.sc (.int k a)) (.sc (.int k b)) = some (True, .sc (.int k (k.wrap (a * b)))) := by simp [vbin, vint]
@[go_sem] theorem bin_quo : vbin T Q .quo t (.sc (.int k a)) (.sc (.int k b)) = some (b ≠ 0, .sc (.int k (k.wrap (a.tdiv b)))) := by simp [vbin, vint]
@[go_sem] theorem bin_rem : vbin T Q .rem t (.sc (.int k a)) (.sc (.int k b)) = some (b ≠ 0, .sc (.int k (a.tmod b))) := by simp [vbin, vint]
@[go_sem] theorem bin_eql : vbin T Q .eql t (.sc (.int k a)) (.sc (.int k b)) = some (True, .sc (.bool (decide (a = b)))) := by simp [vbin, vint]
@[go_sem] theorem bin_neq : vbin T Q .neq t (.sc (.int k a)) (.sc (.int k b)) = some (True, .sc (.bool (decide (a ≠ b)))) := by simp [vbin, vint]
@[go_sem] theorem bin_lss : vbin T Q .lss t (.sc (.int k a)) (.sc (.int k b)) = some (True, .sc (.bool (decide (a < b)))) := by simp [vbin, vint]
@[go_sem] theorem bin_leq : vbin T Q .leq t (.sc (.int k a)) (.sc (.int k b)) = some (True, .sc (.bool (decide (a ≤ b)))) := by simp [vbin, vint]
@[go_sem] theorem bin_gtr : vbin T Q .gtr t (.sc (.int k a)) (.sc (.int k b)) = some (True, .sc (.bool (decide (b < a)))) := by simp [vbin, vint]
@[go_sem] theorem bin_geq : vbin T Q .geq t (.sc (.int k a)) (.sc (.int k b)) = some (True, .sc (.bool (decide (b ≤ a)))) := by simp [vbin, vint]
variable {u v : ByteArray} {o off : Nat} {op : BinOp}
@[go_sem] theorem bin_shr {k' : IntKind} : vbin T Q .shr t (.sc (.int k a)) (.sc (.int k' b)) = some (0 ≤ b, .sc (.int k (a.fdiv (2 ^ (min b.toNat k.bits))))) := rfl
@[go_sem] theorem bin_shl {k' : IntKind} : vbin T Q .shl t (.sc (.int k a)) (.sc (.int k' b)) = some (0 ≤ b, .sc (.int k (k.wrap (a * 2 ^ (min b.toNat k.bits))))) := rfl
@[go_sem] theorem bin_agg {cs ds : List V} : vbin T Q op t (.agg cs) (.agg ds) = (match Q t with
    | some ks => (match veqs ks cs ds, op with
      | some r, .eql => some (True, .sc (.bool r))
      | some r, .neq => some (True, .sc (.bool (!r)))
      | _, _ => none)
    | none => none) := rfl
@[go_sem] theorem bin_beql {p q : Bool} : vbin T Q op t (.sc (.bool p)) (.sc (.bool q)) = (match T t, op with
    | some ⟨.bool, _, _, _⟩, .eql => some (True, .sc (.bool (decide (p = q))))
    | some ⟨.bool, _, _, _⟩, .neq => some (True, .sc (.bool (decide (p ≠ q))))
    | _, _ => none) := rfl
attribute [go_sem] veqs vconv
@[go_sem] theorem bin_ref : vbin T Q op t (.ref o off) (.sc (.pointer none)) = (match T t, op with
    | some ⟨.pointer _, _, _, _⟩, .eql => some (True, .sc (.bool false))
    | some ⟨.pointer _, _, _, _⟩, .neq => some (True, .sc (.bool true))
    | _, _ => none) := rfl
@[go_sem] theorem bin_sadd : vbin T Q .add t (.sc (.string u)) (.sc (.string v)) = some (u.size + v.size ≤ 9223372036854775807, .sc (.string (u ++ v))) := rfl
@[go_sem] theorem bin_seql : vbin T Q .eql t (.sc (.string u)) (.sc (.string v)) = some (True, .sc (.bool (decide (u = v)))) := rfl
@[go_sem] theorem bin_sneq : vbin T Q .neq t (.sc (.string u)) (.sc (.string v)) = some (True, .sc (.bool (decide (u ≠ v)))) := rfl
@[go_sem] theorem bin_slss : vbin T Q .lss t (.sc (.string u)) (.sc (.string v)) = some (True, .sc (.bool (slt u v))) := rfl
@[go_sem] theorem bin_sgeq : vbin T Q .geq t (.sc (.string u)) (.sc (.string v)) = some (True, .sc (.bool (!slt u v))) := rfl
end

attribute [go_sem] true_and and_true if_true if_false decide_true decide_false Bool.not_true Bool.not_false List.map_cons List.map_nil List.toList_toArray Nat.reduceEqDiff reduceCtorEq
attribute [go_sem ↓] reduceIte
end

theorem renTok_one (c τ : Nat) : renTok c [τ] τ = some c := by simp [renTok, List.idxOf?, List.findIdx?_cons]
theorem Bd.mono {k c k' c' : Nat} {x : V} (h : Bd k c x) (hk : k ≤ k') (hc : c ≤ c') : Bd k' c' x := by
  induction h with
  | any => exact .any
  | sc v => exact .sc v
  | data ht _ ih => exact .data (fun τ e => Nat.lt_of_lt_of_le (ht τ e) hc) ih
  | dptr _ ih => exact .dptr ih
  | ref h => exact .ref (Nat.lt_of_lt_of_le h hk)
  | osl h => exact .osl (Nat.lt_of_lt_of_le h hk)
  | clo _ ih => exact .clo ih
  | agg _ ih => exact .agg ih
  | tup _ ih => exact .tup ih
/-- No reference, no token. -/
abbrev Flat (cs : List V) : Prop := ∀ x ∈ cs, Bd 0 0 x
theorem Flat.keep {cs : List V} (h : Flat cs) {k c : Nat} {f : Nat → Option Nat} : CutL k c f cs cs := CutL.keep fun x hx => (h x hx).mono (Nat.zero_le _) (Nat.zero_le _)

theorem awpCall_pure {X : Ctx} {f : FuncId} {xs : List V} {R : Nat → V} {own : List TypeId} {d : Option Nat} {Γ : St} {K : St → Prop} (h : Pure X f xs R own)
    (hk : onL (toks own Γ.ctr ++ Γ.lv) (Γ.ctr + own.length) fun l c => onV (some (R Γ.ctr)) fun y => K ((Γ.setTk l c).put d y)) : onCall X f xs d Γ K :=
  show awpCall X f xs d Γ K from (h Γ.hp Γ.ctr).mono fun r H' lv' c' ⟨h1, h2, h3, h4⟩ => by subst h1; subst h2; subst h3; subst h4; exact hk
theorem calleeD_pure {X : Ctx} {f : FuncId} {xs caps : List V} {R : Nat → V} {own : List TypeId} {d : Option Nat} {Γ : St} {K : St → Prop} (h : Pure X f (xs ++ caps) R own)
    (hk : onL (toks own Γ.ctr ++ Γ.lv) (Γ.ctr + own.length) fun l c => onV (some (R Γ.ctr)) fun y => K ((Γ.setTk l c).put d y)) : onCalleeD X xs d Γ K (.clo f caps) := ⟨R, own, h, hk⟩
theorem awpCall_does {X : Ctx} {f : FuncId} {xs : List V} {r : V} {H H2 : List (List V)} {own : List TypeId} {d : Option Nat} {Γ : St} {K : St → Prop} {c0 : Nat} (h : Does X f xs H c0 r H2 own) (hH : Γ.hp = H) (hc : Γ.ctr = c0)
    (hk : onL (toks own c0 ++ Γ.lv) (c0 + own.length) fun l c => onV (some r) fun y => onH (some H2) fun H' => K (((Γ.setHp H').setTk l c).put d y)) : onCall X f xs d Γ K := by
  subst hH; subst hc
  show awpCall X f xs d Γ K
  exact h.mono fun r H' lv' c' ⟨h1, h2, h3, h4⟩ => by subst h1; subst h2; subst h3; subst h4; exact hk
@[go_sem] theorem toks_nil (c : Nat) : toks [] c = [] := rfl
@[go_sem] theorem toks_one (e : TypeId) (c : Nat) : toks [e] c = [(c, e)] := rfl

theorem Bd.nr {k c : Nat} {x : V} (h : Bd k c x) : NR k x := by
  induction h with
  | any => exact .any
  | sc v => exact .sc v
  | data ht _ ih => exact .data ih
  | dptr _ ih => exact .dptr ih
  | ref h => exact .ref h
  | osl h => exact .osl h
  | clo _ ih => exact .clo ih
  | agg _ ih => exact .agg ih
  | tup _ ih => exact .tup ih

theorem envOf_P {P : V → Prop} (h0 : P .any) : ∀ (l : List (Nat × V)), (∀ p ∈ l, P p.2) → ∀ t, P (envOf l t)
  | [], _, _ => h0
  | (k, v) :: l, h, t => by
    simp only [envOf]
    split
    · exact h (k, v) (by simp)
    · exact envOf_P h0 l (fun p hp => h p (by simp [hp])) t

/-- Slots are forgotten, and objects from k on. -/
theorem SubG.to {X : Ctx} {h0 : Nat} {Γ : St} (l : List (Nat × V)) (H : List (List V)) (lv : List (Nat × TypeId)) (c : Nat) (hl : ∀ p ∈ l, Wk (Γ.tm p.1) p.2) (hk : h0 ≤ H.length) (hH : Γ.hp.take H.length = H) (hlv : ∀ p ∈ lv, p ∈ Γ.lv) (hc : Γ.ctr = c)
    (hnr : ∀ p ∈ l, NR H.length p.2) (hhp : ∀ cs ∈ H, ∀ x ∈ cs, NR H.length x) (hGn : ∀ g cs, X.G g = some cs → ∀ x ∈ cs, NR H.length x) : SubG X h0 Γ ⟨envOf l, H, lv, c⟩ := by
  have h1 : SubG X h0 Γ ⟨envOf l, Γ.hp, lv, Γ.ctr⟩ := SubG.env (wk_envOf l hl) hlv
  have h2 := SubG.drop (X := X) (h0 := h0) (Γ := ⟨envOf l, Γ.hp, lv, Γ.ctr⟩) H.length hk (by
    have := congrArg List.length hH
    rw [List.length_take] at this
    show H.length ≤ Γ.hp.length
    omega) (envOf_P .any l hnr) (by rw [show (⟨envOf l, Γ.hp, lv, Γ.ctr⟩ : St).hp = Γ.hp from rfl, hH]; exact hhp) hGn
  refine h1.trans ?_
  simpa only [hH, hc] using h2

theorem flat_drop {α : Type} (f : α → List V) (n : Nat) (hf : ∀ a, (f a).length = n) : ∀ (l : List α) (i : Nat) (x : α), l[i]? = some x → (l.flatMap f).drop (i * n) = f x ++ (l.drop (i + 1)).flatMap f
  | [], i, x, h => by simp at h
  | a :: l, 0, x, h => by simp at h; subst h; simp
  | a :: l, i + 1, x, h => by
    have ih := flat_drop f n hf l i x (by simpa using h)
    rw [List.flatMap_cons, List.drop_append, hf a]
    have e1 : (i + 1) * n - n = i * n := by rw [Nat.succ_mul]; omega
    have e2 : (f a).drop ((i + 1) * n) = [] := List.drop_eq_nil_of_le (by rw [hf a, Nat.succ_mul]; omega)
    rw [e1, e2, ih]
    simp

theorem ifG_dec {P p q : Prop} [Decidable P] (h1 : P → p) (h2 : ¬ P → q) : onI (decide P) p q := ⟨fun h => h1 (of_decide_eq_true h), fun h => h2 (of_decide_eq_false h)⟩

theorem onI_bool {x : Bool} {p q : Prop} (h1 : x = true → p) (h2 : x = false → q) : onI x p q := ⟨h1, h2⟩

/-! ### Objects and cells -/
section
variable {H L : List (List V)} {k : Nat} {x : List V} {T : Tab} {cs : List V} {off : Nat}
@[go_sem] theorem hp_len : (H ++ L).length = H.length + L.length := List.length_append
@[go_sem] theorem hp_app {M : List (List V)} : (H ++ L) ++ M = H ++ (L ++ M) := List.append_assoc _ _ _
@[go_sem] theorem hp_get0 : (H ++ L)[H.length]? = L[0]? := by rw [List.getElem?_append_right (Nat.le_refl _), Nat.sub_self]
@[go_sem] theorem hp_getk : (H ++ L)[H.length + k]? = L[k]? := by rw [List.getElem?_append_right (Nat.le_add_right _ _), Nat.add_sub_cancel_left]
@[go_sem] theorem hp_set0 : (H ++ L).set H.length x = H ++ L.set 0 x := by rw [List.set_append_right _ _ (Nat.le_refl _), Nat.sub_self]
@[go_sem] theorem hp_setk : (H ++ L).set (H.length + k) x = H ++ L.set k x := by rw [List.set_append_right _ _ (Nat.le_add_right _ _), Nat.add_sub_cancel_left]
@[go_sem] theorem hp_take0 : H.take H.length = H := List.take_length
@[go_sem] theorem cut_sc {m c : Nat} {f : Nat → Option Nat} {v : Value} : Cut m c f (.sc v) (.sc v) = True := eq_true (.keep (by simp))
@[go_sem] theorem hp_take : (H ++ L).take H.length = H := List.take_left
@[go_sem] theorem vload_dptr {t : TypeId} : vload T H t (.dptr cs) = vpart T t cs 0 := rfl
@[go_sem] theorem vload_ref {o : Nat} {t : TypeId} : vload T H t (.ref o off) = (match H[o]? with | some cs => vpart T t cs off | none => none) := rfl
attribute [go_sem] List.length_cons List.length_nil List.nil_append List.cons_append List.append_nil List.getElem?_cons_zero List.getElem?_cons_succ List.set_cons_zero List.set_cons_succ Nat.zero_add Nat.add_zero Nat.reduceAdd List.take_succ_cons List.take_zero List.drop_succ_cons List.drop_zero Nat.reduceLeDiff Nat.reduceMul Nat.reduceSub
attribute [go_sem] Int.toNat_natCast Nat.le_add_left Nat.le_add_right Nat.add_assoc
attribute [go_sem] vplaces vbuild List.all_map List.getElem?_map Option.map_some Option.bind_some Option.map_none List.any_cons List.any_nil
attribute [go_sem] vappend V.rowOf lvDrop vbs vfill List.mem_cons List.not_mem_nil or_false true_or Nat.reduceLT Nat.zero_mul and_self
attribute [go_sem] vpart vcells vsplice vfieldAddr vfield Ty.isAgg vnil V.isPtr vzero vstore vlen V.row V.rowOf vindexAddr vunary Value.oneCell' List.all_cons List.all_nil Bool.and_true Bool.true_and Bool.false_eq_true ne_eq not_true_eq_false not_false_eq_true
end


@[go_sem] theorem vresults_nil {T : Tab} {Γ : St} : vresults T Γ [] = some [] := rfl
def consO (y : Option V) (ys : Option (List V)) : Option (List V) := match y, ys with | some y, some ys => some (y :: ys) | _, _ => none
@[go_sem] theorem vresults_tmp {T : Tab} {Γ : St} {t : Nat} {l : List ResultVar} : vresults T Γ (.tmp t :: l) = consO (some (Γ.tm t)) (vresults T Γ l) := by
  simp only [vresults, consO]
  cases vresults T Γ l <;> rfl
@[go_sem] theorem vresults_cell {T : Tab} {Γ : St} {t : Nat} {a : TypeId} {l : List ResultVar} : vresults T Γ (.cell t a :: l) = consO (vload T Γ.hp a (Γ.tm t)) (vresults T Γ l) := rfl
@[go_sem] theorem consO_some {y : V} {ys : List V} : consO (some y) (some ys) = some (y :: ys) := rfl
@[go_sem] theorem vresult_one {y : V} : vresult [y] = y := rfl
@[go_sem] theorem vresult_nil : vresult [] = .tup [] := rfl
@[go_sem] theorem vresult_two {x y : V} {l : List V} : vresult (x :: y :: l) = .tup (x :: y :: l) := rfl



/-! ### Loops -/

/-- Behind a round: held back. -/
def onBack (Γ : St) (P : St → Prop) (_ : Hold (Γ, P) := .mk) : Prop := P Γ

def JumpL (Γ : St) : List (Nat × V) → Prop
  | [] => True
  | (k, v) :: l => Wk (Γ.tm k) v ∧ JumpL Γ l
def SubLv (lv : List (Nat × TypeId)) : List (Nat × TypeId) → Prop
  | [] => True
  | p :: l => p ∈ lv ∧ SubLv lv l
def NRL (k : Nat) : List (Nat × V) → Prop
  | [] => True
  | (_, v) :: l => NR k v ∧ NRL k l
/-- What a frame is known to be, at a loop's head. -/
structure Head where
  l : List (Nat × V)
  H : List (List V)
  lv : List (Nat × TypeId)
  c : Nat
def Head.st (h : Head) : St := ⟨envOf h.l, h.H, h.lv, h.c⟩
def HpTake (A B : List (List V)) : Prop := A.take B.length = B
def Jump (Γ : St) (h : Head) : Prop := JumpL Γ h.l ∧ HpTake Γ.hp h.H ∧ SubLv Γ.lv h.lv ∧ Γ.ctr = h.c
/-- References and tokens of what is kept are those of what is kept. -/
def BdAll (h : Head) : Prop := ∀ cs ∈ h.H, ∀ x ∈ cs, Bd h.H.length h.c x
def Kept (X : Ctx) (h0 : Nat) (Γ : St) (h : Head) : Prop :=
  Γ.hp.length = h.H.length ∨ (h0 ≤ h.H.length ∧ NRL h.H.length h.l ∧ (∀ cs ∈ h.H, ∀ x ∈ cs, NR h.H.length x) ∧ (∀ g cs, X.G g = some cs → ∀ x ∈ cs, NR h.H.length x))

theorem jumpL_mem {Γ : St} : ∀ {l : List (Nat × V)}, JumpL Γ l → ∀ p ∈ l, Wk (Γ.tm p.1) p.2
  | [], _, p, hp => by cases hp
  | (k, v) :: l, h, p, hp => by
    rcases List.mem_cons.1 hp with rfl | hp
    · exact h.1
    · exact jumpL_mem h.2 p hp
theorem subLv_mem {lv : List (Nat × TypeId)} : ∀ {l : List (Nat × TypeId)}, SubLv lv l → ∀ p ∈ l, p ∈ lv
  | [], _, p, hp => by cases hp
  | q :: l, h, p, hp => by
    rcases List.mem_cons.1 hp with rfl | hp
    · exact h.1
    · exact subLv_mem h.2 p hp
theorem nrL_mem {k : Nat} : ∀ {l : List (Nat × V)}, NRL k l → ∀ p ∈ l, NR k p.2
  | [], _, p, hp => by cases hp
  | (j, v) :: l, h, p, hp => by
    rcases List.mem_cons.1 hp with rfl | hp
    · exact h.1
    · exact nrL_mem h.2 p hp
theorem HoldsG.bd {G : Nat → Option (List V)} {E0 : Env} {N : Nat} {Γ : St} {a : Act} {w : World} (h : HoldsG G E0 N Γ a w) : ∀ cs ∈ Γ.hp, ∀ x ∈ cs, Bd Γ.hp.length Γ.ctr x := by
  obtain ⟨E, _, hh, _⟩ := h
  intro cs hcs x hx
  obtain ⟨o, ho'⟩ := List.getElem?_of_mem hcs
  obtain ⟨us, ex, e, _, hr', _⟩ := hh.objs.obj o cs ho'
  obtain ⟨j, hj⟩ := List.getElem?_of_mem hx
  obtain ⟨u, _, hu⟩ := hr'.get hj
  have := hu.bd
  rw [hh.objs.nob, hh.ctr] at this
  exact this

theorem Jump.goes {X : Ctx} {h0 : Nat} {Γ : St} {h : Head} (hj : Jump Γ h) (hk : Kept X h0 Γ h) : SubG X h0 Γ h.st := by
  rcases hk with hk | ho
  · have h1 : SubG X h0 Γ ⟨envOf h.l, Γ.hp, h.lv, Γ.ctr⟩ := SubG.env (wk_envOf h.l (jumpL_mem hj.1)) (subLv_mem hj.2.2.1)
    have e1 : Γ.hp = h.H := by
      have : Γ.hp.take h.H.length = h.H := hj.2.1
      rw [← hk, List.take_length] at this
      exact this
    rw [e1, hj.2.2.2] at h1
    exact h1
  · exact SubG.to h.l h.H h.lv h.c (jumpL_mem hj.1) ho.1 hj.2.1 (subLv_mem hj.2.2.1) hj.2.2.2 (nrL_mem ho.2.1) ho.2.2.1 ho.2.2.2

/-- The rest of a round. -/
def BackP (X : Ctx) (h0 : Nat) {α : Type} (m : α → Nat) (I : α → Prop) (S : α → Head) (n : Nat) (Γ : St) : Prop :=
  Goes X h0 Γ fun Γ' => ∃ k, k < n ∧ ∃ a, I a ∧ BdAll (S a) ∧ k = m a ∧ Γ' = (S a).st

theorem onLoop_inv {X : Ctx} {h0 : Nat} {F : (St → Prop) → St → Prop} {Γ : St} {α : Type} (m : α → Nat) (I : α → Prop) (S : α → Head) (a0 : α) (hI : I a0) (hj : Jump Γ (S a0)) (hk : Kept X h0 Γ (S a0))
    (hstep : ∀ a, I a → BdAll (S a) → (∀ Γ' a', I a' → m a' < m a → Jump Γ' (S a') → Kept X h0 Γ' (S a') → onBack Γ' (BackP X h0 m I S (m a))) → F (fun Γ' => onBack Γ' (BackP X h0 m I S (m a))) (S a).st) : onLoop X h0 F Γ := by
  refine ⟨fun n Γ => ∃ a, I a ∧ BdAll (S a) ∧ n = m a ∧ Γ = (S a).st, fun E0 N a w h1 h2 h3 => ?_, ?_⟩
  · have h4 := hj.goes hk E0 N a w h1 h2 h3
    exact ⟨_, h4, _, a0, hI, h4.bd, rfl, rfl⟩
  rintro n Γ ⟨a, ha, hb, rfl, rfl⟩
  refine hstep a ha hb fun Γ' a' ha' hm hj' hk' E0 N a w h1 h2 h3 => ?_
  have h4 := hj'.goes hk' E0 N a w h1 h2 h3
  exact ⟨_, h4, _, hm, a', ha', h4.bd, rfl, rfl⟩

theorem wk_refl {x : V} : Wk x x = True := eq_true (.refl x)
theorem jumpL_nil {Γ : St} : JumpL Γ [] = True := rfl
theorem jumpL_cons {Γ : St} {k : Nat} {v : V} {l : List (Nat × V)} : JumpL Γ ((k, v) :: l) = (Wk (Γ.tm k) v ∧ JumpL Γ l) := rfl
theorem subLv_nil {lv : List (Nat × TypeId)} : SubLv lv [] = True := rfl
theorem subLv_cons {lv l : List (Nat × TypeId)} {p : Nat × TypeId} : SubLv lv (p :: l) = (p ∈ lv ∧ SubLv lv l) := rfl
theorem nrl_nil {k : Nat} : NRL k [] = True := rfl
theorem nrl_cons {k j : Nat} {v : V} {l : List (Nat × V)} : NRL k ((j, v) :: l) = (NR k v ∧ NRL k l) := rfl
theorem jump_mk {Γ : St} {l : List (Nat × V)} {H : List (List V)} {lv : List (Nat × TypeId)} {c : Nat} : Jump Γ ⟨l, H, lv, c⟩ = (JumpL Γ l ∧ HpTake Γ.hp H ∧ SubLv Γ.lv lv ∧ Γ.ctr = c) := rfl
theorem hpTake_refl {A : List (List V)} : HpTake A A = True := eq_true List.take_length
theorem hpTake_app {A L : List (List V)} : HpTake (A ++ L) A = True := eq_true List.take_left
theorem hpTake_nil {A : List (List V)} : HpTake A [] = True := eq_true rfl
theorem hpTake_cons {a : List V} {L M : List (List V)} : HpTake (a :: L) (a :: M) = HpTake L M := by simp [HpTake]
theorem hpTake_apps {A L M : List (List V)} : HpTake (A ++ L) (A ++ M) = HpTake L M := by
  unfold HpTake
  rw [List.length_append, List.take_append, List.take_of_length_le (by omega), Nat.add_sub_cancel_left]
  exact propext ⟨fun h => List.append_cancel_left h, fun h => by rw [h]⟩
attribute [go_sem] hpTake_refl hpTake_app hpTake_nil hpTake_cons hpTake_apps
theorem head_tm {h : Head} {t : Nat} : h.st.tm t = envOf h.l t := rfl
theorem head_hp {h : Head} : h.st.hp = h.H := rfl
theorem head_lv {h : Head} : h.st.lv = h.lv := rfl
theorem head_ctr {h : Head} : h.st.ctr = h.c := rfl
attribute [go_sem ↓] jumpL_nil jumpL_cons subLv_nil subLv_cons nrl_nil nrl_cons jump_mk head_tm head_hp head_lv head_ctr
attribute [go_sem] wk_refl

/-! ### Calls whose outcome is told by a condition -/
theorem ACall.bd {X : Ctx} {f : FuncId} {xs : List V} {H : List (List V)} {c : Nat} {Post : V → List (List V) → List (Nat × TypeId) → Nat → Prop} (h : ACall X f xs H c Post) :
    ACall X f xs H c fun r H' lv' c' => Post r H' lv' c' ∧ (∀ cs ∈ H', ∀ x ∈ cs, Bd H'.length c' x) ∧ Bd H'.length c' r :=
  ⟨h.1, fun E vs h1 h2 h3 h4 h5 h6 => (h.2 E vs h1 h2 h3 h4 h5 h6).mono fun _ _ ⟨rv, r, H', lv', E', e1, e2, e3, e4, e5, e6, e7⟩ => ⟨rv, r, H', lv', E', e1, e2, e3, e4, e5, e6, e7, fun cs hcs x hx => by
      obtain ⟨o, ho'⟩ := List.getElem?_of_mem hcs
      obtain ⟨us, ex, e, _, hr', _⟩ := e4.obj o cs ho'
      obtain ⟨j, hj⟩ := List.getElem?_of_mem hx
      obtain ⟨u, _, hu⟩ := hr'.get hj
      have := hu.bd
      rw [e4.nob] at this
      exact this, by
      have := e3.bd
      rw [e4.nob] at this
      exact this⟩⟩

theorem onCall_post {X : Ctx} {f : FuncId} {xs : List V} {H : List (List V)} {c0 : Nat} {Post : V → List (List V) → List (Nat × TypeId) → Nat → Prop} {d : Option Nat} {Γ : St} {K : St → Prop} (h : ACall X f xs H c0 Post) (hH : Γ.hp = H) (hc : Γ.ctr = c0)
    (hk : ∀ r H' lv' c', Post r H' lv' c' → (∀ cs ∈ H', ∀ x ∈ cs, Bd H'.length c' x) → Bd H'.length c' r → onL (lv' ++ Γ.lv) c' fun l c => onV (some r) fun y => onH (some H') fun H' => K (((Γ.setHp H').setTk l c).put d y)) : onCall X f xs d Γ K := by
  subst hH; subst hc
  show awpCall X f xs d Γ K
  exact h.bd.mono fun r H' lv' c' ⟨h1, h2, h3⟩ => hk r H' lv' c' h1 h2 h3

/-! ### Small facts -/
theorem natCast_add_one {i : Nat} : ((i + 1 : Nat) : Int) = (i : Int) + 1 := rfl
theorem nr_flat {k n sz : Nat} {cs : List V} {tok : Option Nat} (h : Flat cs) : NR k (.data n sz cs tok) := .data fun x hx => ((h x hx).mono (Nat.zero_le _) (Nat.le_refl 0)).nr
theorem BdAll.nr {h : Head} (hb : BdAll h) : ∀ cs ∈ h.H, ∀ x ∈ cs, NR h.H.length x := fun cs hcs x hx => (hb cs hcs x hx).nr
/-- Objects from the entry's on are forgotten; those before are as at the loop's head. -/
theorem Kept.back {X : Ctx} {h0 : Nat} {Γ : St} {l : List (Nat × V)} {H : List (List V)} {lv : List (Nat × TypeId)} {c c' : Nat} (hb : ∀ cs ∈ H, ∀ x ∈ cs, Bd H.length c' x) (hG : X.G = fun _ => none) (hle : h0 ≤ H.length) (hl : NRL H.length l) : Kept X h0 Γ ⟨l, H, lv, c⟩ :=
  .inr ⟨hle, hl, fun cs hcs x hx => (hb cs hcs x hx).nr, fun g cs h => by rw [hG] at h; cases h⟩
attribute [go_sem] or_true false_or or_self Int.reduceAdd Int.reduceSub Int.reduceMul Int.reduceLT Int.reduceLE Int.reduceEq Int.reduceNe Int.reduceNeg Int.reduceToNat Nat.sub_zero Nat.mul_one Nat.one_mul Int.natCast_zero Int.natCast_one natCast_add_one nr_any nr_sc nr_ref nr_osl

theorem calleeH_does {X : Ctx} {f : FuncId} {xs caps : List V} {r : V} {H M : List (List V)} {own : List TypeId} {d : Option Nat} {Γ : St} {K : St → Prop} {c0 : Nat} (h : Does X f (xs ++ caps) H c0 r (H ++ M) own) (hH : Γ.hp = H) (hc : Γ.ctr = c0)
    (hk : onL (toks own c0 ++ Γ.lv) (c0 + own.length) fun l c => onV (some r) fun y => onH (some (H ++ M)) fun H' => K (((Γ.setHp H').setTk l c).put d y)) : onCalleeH X xs d Γ K (.clo f caps) := by
  subst hH; subst hc
  exact ⟨r, M, own, h, hk⟩

/-- What is new and is not handed back is forgotten; the list that is handed back comes next. -/
theorem ACall.newobj {X : Ctx} {f : FuncId} {xs : List V} {H : List (List V)} {c n sz : Nat} {cs : List V}
    (h : ACall X f xs H c fun r H' lv' c' => ∃ o cap L, r = .osl o 0 n sz cap ∧ H' = H ++ L ∧ H.length ≤ o ∧ H'[o]? = some cs ∧ lv' = [] ∧ c' = c) (hn : ∀ x ∈ cs, NR H.length x) : Does X f xs H c (.osl H.length 0 n sz none) (H ++ [cs]) [] := by
  refine ⟨h.1, fun E vs h1 h2 h3 h4 h5 h6 => (h.2 E vs h1 h2 h3 h4 h5 h6).mono fun _ _ ⟨rv, r, H', lv', E', e1, e2, e3, e4, e5, e6, o, cap, L, hr, hH, ho, hcs, hl, hc⟩ => ?_⟩
  subst hr; subst hH; subst hl
  have hnob : E.nobj = H.length := h4.nob
  have hnob' : E'.nobj = (H ++ L).length := e4.nob
  have hol : o < (H ++ L).length := (List.getElem?_eq_some_iff.1 hcs).1
  have hnr : ∀ i, i < H.length → ∀ ds, H[i]? = some ds → ∀ x ∈ ds, NR H.length x := by
    intro i hi ds hds x hx
    obtain ⟨us, ex, e, _, hr', _⟩ := h4.obj i ds hds
    obtain ⟨j, hj⟩ := List.getElem?_of_mem hx
    obtain ⟨u, _, hu⟩ := hr'.get hj
    have := hu.bd.nr
    rw [hnob] at this
    exact this
  let E2 : Env := { E' with ρ := fun i => if i < H.length then E'.ρ i else E'.ρ o, cp := fun i => if i < H.length then E'.cp i else E'.cp o, nobj := H.length + 1 }
  have hP : LeP E' E2 := ⟨Nat.le_refl _, fun _ _ => rfl, fun b o hb => ⟨hb, rfl⟩⟩
  have hlen : ∀ {ds : List V} {us : List Value}, (∀ x ∈ ds, NR H.length x) → RelL E' ds us → RelL E2 ds us := fun hds hr =>
    ⟨hr.1, fun j x u hx hu => (hr.2 j x u hx hu).leNR hP H.length (by show H.length ≤ H.length + 1; omega) (fun i hi => if_pos hi) (fun i hi => if_pos hi) (hds x (mem_of_get hx))⟩
  have hρ : E2.ρ H.length = E'.ρ o := if_neg (Nat.lt_irrefl _)
  have hcp : E2.cp H.length = E'.cp o := if_neg (Nat.lt_irrefl _)
  refine ⟨rv, _, H ++ [cs], [], E2, e1, e2, ?_, ⟨by show H.length + 1 = _; simp, ?_, ?_, ?_, e4.inb⟩, ⟨fun τ e he => absurd he List.not_mem_nil, fun τ τ' e e' u u' g he => absurd he List.not_mem_nil⟩, ⟨⟨⟨e6.le.ctr, e6.le.tok, e6.le.imm⟩, by show _ ≤ H.length + 1; omega, fun i hi => ?_, fun i hi => ?_⟩, e6.base, e6.sz, e6.os, e6.tape, e6.output, e6.size, e6.keep, fun i h7 h8 => ?_, e6.newI⟩, rfl, rfl, rfl, by show E'.ctr = c + 0; omega⟩
  · obtain ⟨A, k, rfl, hlt, hA, hnk, hm, _, hs⟩ := e3.osl_inv
    exact .osl k (by show H.length < H.length + 1; omega) (fun h0 => by rw [hρ]; exact hA h0) hnk hm (fun k' e => by cases e) (by rw [hcp]; exact hs)
  · intro i ds hds
    by_cases hi : i < H.length
    · rw [List.getElem?_append_left hi] at hds
      obtain ⟨us, ex, e, hb, hr', h9⟩ := e4.obj i ds (by rw [List.getElem?_append_left hi]; exact hds)
      refine ⟨us, ex, e, ?_, hlen (hnr i hi ds hds) hr', h9.1, ?_⟩
      · rw [show E2.ρ i = E'.ρ i from if_pos hi]; exact hb
      · rw [show E2.cp i = E'.cp i from if_pos hi]; exact h9.2
    · rw [List.getElem?_append_right (by omega)] at hds
      have hi0 : i - H.length = 0 := by
        have := (List.getElem?_eq_some_iff.1 hds).1
        simp at this
        omega
      rw [hi0] at hds
      simp at hds
      subst hds
      have hie : i = H.length := by omega
      subst hie
      obtain ⟨us, ex, e, hb, hr', h9⟩ := e4.obj o cs hcs
      refine ⟨us, ex, e, by rw [hρ]; exact hb, hlen hn hr', h9.1, by rw [hcp]; exact h9.2⟩
  · intro i off hi
    by_cases hi' : i < H.length
    · rw [show E2.ρ i = E'.ρ i from if_pos hi']
      exact e4.noI i off (by simp; omega)
    · rw [show E2.ρ i = E'.ρ o from if_neg hi']
      exact e4.noI o off hol
  · intro i j hi hj hij
    simp only [List.length_append, List.length_cons, List.length_nil] at hi hj
    by_cases hi' : i < H.length <;> by_cases hj' : j < H.length
    · rw [show E2.ρ i = E'.ρ i from if_pos hi', show E2.ρ j = E'.ρ j from if_pos hj'] at hij
      exact e4.inj i j (by simp; omega) (by simp; omega) hij
    · rw [show E2.ρ i = E'.ρ i from if_pos hi', show E2.ρ j = E'.ρ o from if_neg hj'] at hij
      have := e4.inj i o (by simp; omega) hol hij
      omega
    · rw [show E2.ρ i = E'.ρ o from if_neg hi', show E2.ρ j = E'.ρ j from if_pos hj'] at hij
      have := e4.inj o j hol (by simp; omega) hij
      omega
    · omega
  · rw [show E2.ρ i = E'.ρ i from if_pos (by omega)]
    exact e6.le.rho i hi
  · rw [show E2.cp i = E'.cp i from if_pos (by omega)]
    exact e6.le.cps i hi
  · have h9 : i < H.length + 1 := h8
    rw [show E2.ρ i = E'.ρ o from if_neg (by omega)]
    exact e6.newo o (by omega) (by omega)

/-! ### Less may be handed on than is known -/
theorem Wk.tok {n sz : Nat} {cs : List V} {t : Option Nat} : Wk (.data n sz cs t) (.data n sz cs none) :=
  .data rfl (fun j x y hx hy => by rw [hx] at hy; cases hy; exact .refl x) (.inl rfl)
def WkL : List V → List V → Prop
  | [], [] => True
  | x :: xs, y :: ys => Wk x y ∧ WkL xs ys
  | _, _ => False
theorem WkL.get : ∀ {xs ys : List V}, WkL xs ys → xs.length = ys.length ∧ ∀ (j : Nat) (x y : V), xs[j]? = some x → ys[j]? = some y → Wk x y
  | [], [], _ => ⟨rfl, fun j x y h => by simp at h⟩
  | x :: xs, y :: ys, ⟨h, hs⟩ => by
    obtain ⟨h1, h2⟩ := WkL.get hs
    refine ⟨by simp [h1], fun j => ?_⟩
    cases j with
    | zero => intro a b ha hb; simp at ha hb; subst ha; subst hb; exact h
    | succ j => intro a b ha hb; exact h2 j a b (by simpa using ha) (by simpa using hb)
theorem WkL.refl : ∀ (xs : List V), WkL xs xs
  | [] => trivial
  | x :: xs => ⟨.refl x, WkL.refl xs⟩
theorem WkL.agg {xs ys : List V} (h : WkL xs ys) : Wk (.agg xs) (.agg ys) := .agg h.get.1 h.get.2
theorem WkL.tup {xs ys : List V} (h : WkL xs ys) : Wk (.tup xs) (.tup ys) := .tup h.get.1 h.get.2
theorem WkL.data {n sz : Nat} {xs ys : List V} {t t' : Option Nat} (h : WkL xs ys) (ht : t' = none ∨ t' = t) : Wk (.data n sz xs t) (.data n sz ys t') := .data h.get.1 h.get.2 ht
theorem WkL.app : ∀ {xs ys as bs : List V}, WkL xs ys → WkL as bs → WkL (xs ++ as) (ys ++ bs)
  | [], [], _, _, _, k => k
  | _ :: _, _ :: _, _, _, ⟨h, hs⟩, k => ⟨h, WkL.app hs k⟩
theorem RelL.wk {E : Env} {xs ys : List V} {us : List Value} (h : WkL xs ys) (hr : RelL E xs us) : RelL E ys us :=
  ⟨hr.1.trans h.get.1, fun j y u hy hu => by
    obtain ⟨x, hx⟩ := get_of_len h.get.1 hy
    exact (hr.2 j x u hx hu).wk (h.get.2 j x y hx hy)⟩
theorem ACall.wk {X : Ctx} {f : FuncId} {xs ys : List V} {H : List (List V)} {c : Nat} {Post : V → List (List V) → List (Nat × TypeId) → Nat → Prop} (hw : WkL xs ys) (h : ACall X f ys H c Post) : ACall X f xs H c Post :=
  ⟨h.1, fun E vs h1 h2 h3 h4 h5 h6 => h.2 E vs h1 h2 h3 h4 h5 (h6.wk hw)⟩
theorem Pure.wk {X : Ctx} {f : FuncId} {xs ys : List V} {R : Nat → V} {own : List TypeId} (hw : WkL xs ys) (h : Pure X f ys R own) : Pure X f xs R own := fun H c => (h H c).wk hw
theorem Does.wk {X : Ctx} {f : FuncId} {xs ys : List V} {H H2 : List (List V)} {c : Nat} {r : V} {own : List TypeId} (hw : WkL xs ys) (h : Does X f ys H c r H2 own) : Does X f xs H c r H2 own := ACall.wk hw h
theorem wkL_nil : WkL [] [] = True := rfl
theorem wkL_cons {x y : V} {xs ys : List V} : WkL (x :: xs) (y :: ys) = (Wk x y ∧ WkL xs ys) := rfl
theorem wk_tok {n sz τ : Nat} {cs : List V} : Wk (.data n sz cs (some τ)) (.data n sz cs none) = True := eq_true .tok
theorem wk_cap {o off n sz k : Nat} : Wk (.osl o off n sz (some k)) (.osl o off n sz none) = True := eq_true (.cap _ _ _ _ _)
attribute [go_sem] wkL_nil wkL_cons wk_tok wk_cap

/-! ### Ahead of a loop -/
theorem onLoop_sub {X : Ctx} {h0 : Nat} {F : (St → Prop) → St → Prop} {Γ Γ1 : St} (hs : SubG X h0 Γ Γ1) (h : onLoop X h0 F Γ1) : onLoop X h0 F Γ := by
  obtain ⟨Inv, hgo, hstep⟩ := h
  exact ⟨Inv, fun E0 N a w h1 h2 h3 => hgo E0 N a w h1 h2 (hs E0 N a w h1 h2 h3), hstep⟩
/-- A nil slice may be appended to: it gets a token. -/
theorem onLoop_nil {X : Ctx} {h0 : Nat} {F : (St → Prop) → St → Prop} {Γ : St} (t : Nat) (e : TypeId) {sz : Nat} (hsz : X.P.cellsOf e = sz) (ht : Γ.tm t = .sc (.slice none 0 0))
    (h : onLoop X h0 F ((Γ.setTk ((Γ.ctr, e) :: Γ.lv) (Γ.ctr + 1)).put (some t) (.data 0 sz [] (some Γ.ctr)))) : onLoop X h0 F Γ := by
  subst hsz
  exact onLoop_sub (SubG.nilTok t e ht) h
end Go.VS
