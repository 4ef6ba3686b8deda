/- What a step of a walk waits for; what follows is held back until then. -/
import Derived.Test.YtgjnkppjfbcicaaGvS
namespace Go.VS
universe u

/-- A word that hangs on another one: it keeps the simplifier away from that. -/
inductive Hold {α : Sort u} (a : α) : Type
  | mk

def onV (r : Option V) (K : V → Prop) (_ : Hold K := .mk) : Prop := match r with | some y => K y | none => False
def onC (r : Option (Prop × V)) (K : V → Prop) (_ : Hold K := .mk) : Prop := match r with | some (C, y) => C ∧ K y | none => False
def onL (l : List (Nat × TypeId)) (c : Nat) (k : List (Nat × TypeId) → Nat → Prop) (_ : Hold k := .mk) : Prop := k l c
def onH (r : Option (List (List V))) (k : List (List V) → Prop) (_ : Hold k := .mk) : Prop := match r with | some n => k n | none => False
def onS (r : Option Nat) (k : Nat → Prop) (_ : Hold k := .mk) : Prop := match r with | some n => k n | none => False
def onR (r : Option (List V)) (k : List V → Prop) (_ : Hold k := .mk) : Prop := match r with | some n => k n | none => False
def onM (b : Bool) (p q : Prop) (_ : Hold (p, q) := .mk) : Prop := match b with | true => p | false => q
def onA (r : Option (Prop × Nat × Nat × List V × Option Nat × TypeId)) (k : Nat → Nat → List V → Option Nat → TypeId → Prop) (_ : Hold k := .mk) : Prop := match r with | some (C, n, sz, cs, τ0, e) => C ∧ k n sz cs τ0 e | none => False
def onB (r : Option (Nat × List V × TypeId)) (k : Nat → List V → TypeId → Prop) (_ : Hold k := .mk) : Prop := match r with | some (sz, cs, e) => k sz cs e | none => False
def onN (r : Option (Nat × Nat)) (k : Nat → Nat → Prop) (_ : Hold k := .mk) : Prop := match r with | some (a, b) => k a b | none => False
def onW (r : Option (Nat × List V)) (k : Nat → List V → Prop) (_ : Hold k := .mk) : Prop := match r with | some (a, b) => k a b | none => False
def onI (x : Bool) (p q : Prop) (_ : Hold (p, q) := .mk) : Prop := ifG x p q
def onIf (v : V) (p q : Prop) (_ : Hold (p, q) := .mk) : Prop := condG v p q
def onG (v : V) (b : Bool) (p q : Prop) (_ : Hold (p, q) := .mk) : Prop := guardG v b p q
def onCall (X : Ctx) (f : FuncId) (xs : List V) (d : Option Nat) (Γ : St) (K : St → Prop) (_ : Hold (X, Γ, K) := .mk) : Prop := awpCall X f xs d Γ K
def onCallee (X : Ctx) (xs : List V) (d : Option Nat) (Γ : St) (K : St → Prop) (v : V) (_ : Hold (X, Γ, K) := .mk) : Prop := calleeG X xs d Γ K v
def onCalleeD (X : Ctx) (xs : List V) (d : Option Nat) (Γ : St) (K : St → Prop) (v : V) (_ : Hold (X, Γ, K) := .mk) : Prop := calleeD X xs d Γ K v
def onDraw (X : Ctx) (ops : Array Oper) (Γ : St) (K : St → Prop) (_ : Hold (X, ops, Γ, K) := .mk) : Prop := (∃ p, okCut X.mt p ops = true ∧ awpOpsD X ops.toList (ops.toList.take p) Γ fun Γ' => awpOps X ops.toList (ops.toList.drop p) Γ' K) ∨
  ∃ i j, okTwo X.mt i j ops = true ∧ awpOpsD X ops.toList ops.toList Γ K ∧ awpOpsD X ops.toList (swapL i j ops.toList) Γ K
def onCalleeH (X : Ctx) (xs : List V) (d : Option Nat) (Γ : St) (K : St → Prop) (v : V) (_ : Hold (X, Γ, K) := .mk) : Prop := calleeH X xs d Γ K v
def onLoop (X : Ctx) (h0 : Nat) (F : (St → Prop) → St → Prop) (Γ : St) (_ : Hold (X, h0, F, Γ) := .mk) : Prop := LoopG X h0 F Γ
def onApp (Γ : St) (d : Option Nat) (s : V) (m : Nat) (ds : List V) (size bytes : Nat) (K : St → Prop) (_ : Hold (Γ, K) := .mk) : Prop := appOut Γ d s m ds size bytes K

def mapV (G : Nat → Option (List V)) (Γ : St) (l : List Operand) (_ : Hold (G, Γ) := .mk) : List V := l.map (opv G Γ.tm)
def mapP (G : Nat → Option (List V)) (Γ : St) (l : List (Nat × Operand)) (_ : Hold (G, Γ) := .mk) : List (Nat × V) := l.map fun p => (p.1, opv G Γ.tm p.2)

def St.setHp (Γ : St) (H : List (List V)) : St := { Γ with hp := H }
def St.setTk (Γ : St) (l : List (Nat × TypeId)) (c : Nat) : St := { Γ with lv := l, ctr := c }

section
variable {K : V → Prop} {y : V} {C : Prop} {p q : Prop}
theorem onV_some : onV (some y) K = K y := rfl
theorem onC_some : onC (some (C, y)) K = (C ∧ K y) := rfl
theorem onL_eq {l : List (Nat × TypeId)} {c : Nat} {k : List (Nat × TypeId) → Nat → Prop} : onL l c k = k l c := rfl
theorem onH_some {H : List (List V)} {k : List (List V) → Prop} : onH (some H) k = k H := rfl
theorem onS_some {n : Nat} {k : Nat → Prop} : onS (some n) k = k n := rfl
theorem onR_some {l : List V} {k : List V → Prop} : onR (some l) k = k l := rfl
theorem onM_true : onM true p q = p := rfl
theorem onM_false : onM false p q = q := rfl
theorem onA_some {n sz : Nat} {cs : List V} {τ0 : Option Nat} {e : TypeId} {k : Nat → Nat → List V → Option Nat → TypeId → Prop} : onA (some (C, n, sz, cs, τ0, e)) k = (C ∧ k n sz cs τ0 e) := rfl
theorem onB_some {sz : Nat} {cs : List V} {e : TypeId} {k : Nat → List V → TypeId → Prop} : onB (some (sz, cs, e)) k = k sz cs e := rfl
theorem onN_some {a b : Nat} {k : Nat → Nat → Prop} : onN (some (a, b)) k = k a b := rfl
theorem onW_some {a : Nat} {b : List V} {k : Nat → List V → Prop} : onW (some (a, b)) k = k a b := rfl
theorem onI_true : onI true p q = p := by simp [onI, ifG]
theorem onI_false : onI false p q = q := by simp [onI, ifG]
theorem onIf_bool {x : Bool} : onIf (.sc (.bool x)) p q = onI x p q := rfl
theorem onG_t {x : Bool} : onG (.sc (.bool x)) true p q = onI x p q := rfl
theorem onG_f {x : Bool} : onG (.sc (.bool x)) false p q = onI x q p := rfl
theorem onG_u {b : Bool} : onG (.sc undef) b p q = q := by cases b <;> rfl
theorem onCallee_clo {X : Ctx} {xs : List V} {d : Option Nat} {Γ : St} {K : St → Prop} {f : FuncId} {caps : List V} : onCallee X xs d Γ K (.clo f caps) = onCall X f (xs ++ caps) d Γ K := rfl
variable {G : Nat → Option (List V)} {Γ : St}
theorem mapV_nil : mapV G Γ [] = [] := rfl
theorem mapV_cons {o : Operand} {l : List Operand} : mapV G Γ (o :: l) = opv G Γ.tm o :: mapV G Γ l := rfl
theorem mapP_nil : mapP G Γ [] = [] := rfl
theorem mapP_cons {n : Nat} {o : Operand} {l : List (Nat × Operand)} : mapP G Γ ((n, o) :: l) = (n, opv G Γ.tm o) :: mapP G Γ l := rfl
variable {d t c : Nat} {do? : Option Nat} {x : V} {H : List (List V)} {lv : List (Nat × TypeId)}
theorem pt_tm : (Γ.put (some d) x).tm t = if t = d then x else Γ.tm t := rfl
theorem put_tm0 : (Γ.put none x).tm t = Γ.tm t := rfl
theorem setHp_tm : (Γ.setHp H).tm t = Γ.tm t := rfl
theorem setTk_tm : (Γ.setTk lv c).tm t = Γ.tm t := rfl
theorem pt_hp : (Γ.put do? x).hp = Γ.hp := by cases do? <;> rfl
theorem pt_lv : (Γ.put do? x).lv = Γ.lv := by cases do? <;> rfl
theorem pt_ctr : (Γ.put do? x).ctr = Γ.ctr := by cases do? <;> rfl
theorem setHp_hp : (Γ.setHp H).hp = H := rfl
theorem setHp_lv : (Γ.setHp H).lv = Γ.lv := rfl
theorem setHp_ctr : (Γ.setHp H).ctr = Γ.ctr := rfl
theorem setTk_hp : (Γ.setTk lv c).hp = Γ.hp := rfl
theorem setTk_lv : (Γ.setTk lv c).lv = lv := rfl
theorem setTk_ctr : (Γ.setTk lv c).ctr = c := rfl
variable {xs : List V}
theorem st0_tm : (St0 xs H c).tm t = xs.getD t (.sc undef) := rfl
theorem st0_hp : (St0 xs H c).hp = H := rfl
theorem st0_lv : (St0 xs H c).lv = [] := rfl
theorem st0_ctr : (St0 xs H c).ctr = c := rfl
variable {k : Nat} {v : V} {l : List (Nat × V)} {f : Nat → V}
theorem mk_tm : (St.mk f H lv c).tm t = f t := rfl
theorem mk_hp : (St.mk f H lv c).hp = H := rfl
theorem mk_lv : (St.mk f H lv c).lv = lv := rfl
theorem mk_ctr : (St.mk f H lv c).ctr = c := rfl
theorem env_nil : envOf [] t = .any := rfl
theorem env_cons : envOf ((k, v) :: l) t = if t = k then v else envOf l t := rfl
variable {o : Oper} {ops : List Oper} {j : Nat}
theorem gslot_zero : gslot (o :: ops) 0 = o.dst := rfl
theorem gslot_succ : gslot (o :: ops) (j + 1) = gslot ops j := rfl
end
attribute [go_sem] onV_some onC_some onL_eq onH_some onS_some onR_some onM_true onM_false onA_some onB_some onN_some onW_some onI_true onI_false onIf_bool onG_t onG_f onG_u onCallee_clo mapV_nil mapP_nil
attribute [go_sem ↓] mapV_cons mapP_cons pt_tm put_tm0 setHp_tm setTk_tm pt_hp pt_lv pt_ctr setHp_hp setHp_lv setHp_ctr setTk_hp setTk_lv setTk_ctr st0_tm st0_hp st0_lv st0_ctr mk_tm mk_hp mk_lv mk_ctr env_nil env_cons gslot_zero gslot_succ
attribute [go_sem ↓] List.getD_cons_zero List.getD_cons_succ
end Go.VS
