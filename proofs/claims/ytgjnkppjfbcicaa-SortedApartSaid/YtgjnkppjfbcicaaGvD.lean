/- Operators on numbers, texts, truths and structs. -/
import Derived.Test.YtgjnkppjfbcicaaGvC
namespace Go.VS

def ibits (op : BinOp) (k : IntKind) (x y : Int) : Int :=
  let a := BitVec.ofInt k.bits x
  let b := BitVec.ofInt k.bits y
  k.wrap (match op with | .and => a &&& b | .or => a ||| b | .xor => a ^^^ b | _ => a &&& ~~~b : BitVec k.bits).toNat

/-- Is a text ahead of another one, byte by byte? -/
def slt (a b : ByteArray) : Bool := Op.bytesLess a.data.toList b.data.toList

def vint (op : BinOp) (k k' : IntKind) (a b : Int) : Option (Prop × V) :=
  match op with
  | .shl => some (0 ≤ b, .sc (.int k (k.wrap (a * 2 ^ (min b.toNat k.bits)))))
  | .shr => some (0 ≤ b, .sc (.int k (a.fdiv (2 ^ (min b.toNat k.bits)))))
  | .add => if k = k' then some (True, .sc (.int k (k.wrap (a + b)))) else none
  | .sub => if k = k' then some (True, .sc (.int k (k.wrap (a - b)))) else none
  | .mul => if k = k' then some (True, .sc (.int k (k.wrap (a * b)))) else none
  | .quo => if k = k' then some (b ≠ 0, .sc (.int k (k.wrap (a.tdiv b)))) else none
  | .rem => if k = k' then some (b ≠ 0, .sc (.int k (a.tmod b))) else none
  | .and => if k = k' then some (True, .sc (.int k (ibits .and k a b))) else none
  | .or => if k = k' then some (True, .sc (.int k (ibits .or k a b))) else none
  | .xor => if k = k' then some (True, .sc (.int k (ibits .xor k a b))) else none
  | .andNot => if k = k' then some (True, .sc (.int k (ibits .andNot k a b))) else none
  | .eql => if k = k' then some (True, .sc (.bool (decide (a = b)))) else none
  | .neq => if k = k' then some (True, .sc (.bool (decide (a ≠ b)))) else none
  | .lss => if k = k' then some (True, .sc (.bool (decide (a < b)))) else none
  | .leq => if k = k' then some (True, .sc (.bool (decide (a ≤ b)))) else none
  | .gtr => if k = k' then some (True, .sc (.bool (decide (b < a)))) else none
  | .geq => if k = k' then some (True, .sc (.bool (decide (b ≤ a)))) else none

def vstr (op : BinOp) (a b : ByteArray) : Option (Prop × V) :=
  match op with
  | .add => some (a.size + b.size ≤ 9223372036854775807, .sc (.string (a ++ b)))
  | .eql => some (True, .sc (.bool (decide (a = b))))
  | .neq => some (True, .sc (.bool (decide (a ≠ b))))
  | .lss => some (True, .sc (.bool (slt a b)))
  | .leq => some (True, .sc (.bool (!slt b a)))
  | .gtr => some (True, .sc (.bool (slt b a)))
  | .geq => some (True, .sc (.bool (!slt a b)))
  | _ => none

/-- Kinds of one cell, one by one, of what is compared. -/
def veqs : List Ty → List V → List V → Option Bool
  | [], [], [] => some true
  | .int k :: ks, .sc (.int k1 a) :: cs, .sc (.int k2 b) :: ds => if k1 = k ∧ k2 = k then (veqs ks cs ds).map (decide (a = b) && ·) else none
  | .bool :: ks, .sc (.bool a) :: cs, .sc (.bool b) :: ds => (veqs ks cs ds).map (decide (a = b) && ·)
  | .string :: ks, .sc (.string a) :: cs, .sc (.string b) :: ds => (veqs ks cs ds).map (decide (a = b) && ·)
  | _, _, _ => none

def eqs : List Ty → List Value → List Value → Option Bool
  | [], [], [] => some true
  | .int k :: ks, .int k1 a :: cs, .int k2 b :: ds => if k1 = k ∧ k2 = k then (eqs ks cs ds).map (decide (a = b) && ·) else none
  | .bool :: ks, .bool a :: cs, .bool b :: ds => (eqs ks cs ds).map (decide (a = b) && ·)
  | .string :: ks, .string a :: cs, .string b :: ds => (eqs ks cs ds).map (decide (a = b) && ·)
  | _, _, _ => none

/-- How values of a type are compared, cell by cell. -/
abbrev EqTab := TypeId → Option (List Ty)

structure EqOk (P : Program) (Q : EqTab) : Prop where
  ok : ∀ t ks us vs r w, Q t = some ks → eqs ks us vs = some r →
    (∀ (op : BinOp) (x y : Operand), (eqGuard op t x y (.agg us.toArray) (.agg vs.toArray)).run P w = .ok () w) ∧ (Op.equal t (.agg us.toArray) (.agg vs.toArray)).run P w = .ok r w

def vbin (T : Tab) (Q : EqTab) (op : BinOp) (t : TypeId) (x y : V) : Option (Prop × V) :=
  match x, y with
  | .sc (.int k a), .sc (.int k' b) => vint op k k' a b
  | .sc (.string a), .sc (.string b) => vstr op a b
  | .sc (.bool a), .sc (.bool b) => match T t, op with
    | some ⟨.bool, _, _, _⟩, .eql => some (True, .sc (.bool (decide (a = b))))
    | some ⟨.bool, _, _, _⟩, .neq => some (True, .sc (.bool (decide (a ≠ b))))
    | _, _ => none
  | .agg cs, .agg ds => match Q t with
    | some ks => match veqs ks cs ds, op with
      | some r, .eql => some (True, .sc (.bool r))
      | some r, .neq => some (True, .sc (.bool (!r)))
      | _, _ => none
    | none => none
  | .ref _ _, .sc (.pointer none) => match T t, op with
    | some ⟨.pointer _, _, _, _⟩, .eql => some (True, .sc (.bool false))
    | some ⟨.pointer _, _, _, _⟩, .neq => some (True, .sc (.bool true))
    | _, _ => none
  | .sc (.pointer none), .sc (.pointer none) => match T t, op with
    | some ⟨.pointer _, _, _, _⟩, .eql => some (True, .sc (.bool true))
    | some ⟨.pointer _, _, _, _⟩, .neq => some (True, .sc (.bool false))
    | _, _ => none
  | _, _ => none

theorem string_eq (a b : ByteArray) : (a.toList == b.toList) = decide (a = b) := by
  rw [ByteArray.toList_eq, ByteArray.toList_eq]
  by_cases h : a = b
  · subst h; simp
  · have : a.data.toList ≠ b.data.toList := fun e => h (by cases a; cases b; simp only [ByteArray.mk.injEq]; exact Array.toList_inj.1 e)
    rw [decide_eq_false h]
    exact beq_eq_false_iff_ne.2 this

theorem bytesLess_irrefl : ∀ a : List UInt8, Op.bytesLess a a = false
  | [] => rfl
  | x :: a => by simp [Op.bytesLess, bytesLess_irrefl a]

theorem bytesLess_total : ∀ a b : List UInt8, (Op.bytesLess a b || a == b) = !Op.bytesLess b a
  | [], [] => rfl
  | [], _ :: _ => rfl
  | _ :: _, [] => rfl
  | x :: a, y :: b => by
    have ih := bytesLess_total a b
    simp only [Op.bytesLess]
    rcases Nat.lt_trichotomy x.toNat y.toNat with h | h | h
    · have h1 : x < y := h
      have h2 : ¬ y < x := fun h' => by have : y.toNat < x.toNat := h'; omega
      have h3 : ¬ y = x := fun e => by subst e; omega
      simp [h1, h2, h3]
    · have e : x = y := UInt8.toNat_inj.1 h
      subst e
      simpa using ih
    · have h1 : y < x := h
      have h2 : ¬ x < y := fun h' => by have : x.toNat < y.toNat := h'; omega
      have h3 : ¬ x = y := fun e => by subst e; omega
      simp [h1, h2, h3]

section
variable {P : Program} (w : World)
theorem int_sound {op : BinOp} {t : TypeId} {k k' : IntKind} {a b : Int} {C : Prop} {y : V} (h : vint op k k' a b = some (C, y)) (hC : C) :
    ∃ u, (binOp op t (.int k a) (.int k' b)).run P w = .ok u w ∧ y = .sc u := by
  unfold vint at h
  split at h
  case h_1 =>
    simp only [Option.some.injEq, Prod.mk.injEq] at h; obtain ⟨rfl, rfl⟩ := h
    exact ⟨_, by simp [binOp, Op.shift, Int.not_lt.2 hC], rfl⟩
  case h_2 =>
    simp only [Option.some.injEq, Prod.mk.injEq] at h; obtain ⟨rfl, rfl⟩ := h
    exact ⟨_, by simp [binOp, Op.shift, Int.not_lt.2 hC], rfl⟩
  all_goals
    split at h <;> try cases h
    rename_i hk
    subst hk
    refine ⟨_, ?_, rfl⟩
    first
      | (simp [binOp, Op.intArith]; done)
      | (simp [binOp, Op.intDiv, hC]; done)
      | (simp [binOp, Op.intCmp]; done)
      | (simp [binOp, Op.intBits, ibits]; done)
      | (simp [binOp, Op.intCmp]; rfl)

theorem str_sound {op : BinOp} {t : TypeId} {a b : ByteArray} {C : Prop} {y : V} (h : vstr op a b = some (C, y)) (hC : C) :
    ∃ u, (binOp op t (.string a) (.string b)).run P w = .ok u w ∧ y = .sc u := by
  have e1 := string_eq a b
  have e2 : slt a b = Op.bytesLess a.toList b.toList := by simp [slt, ByteArray.toList_eq]
  have e3 : slt b a = Op.bytesLess b.toList a.toList := by simp [slt, ByteArray.toList_eq]
  have e4 := bytesLess_total a.toList b.toList
  unfold vstr at h
  cases op <;> simp only [Option.some.injEq, Prod.mk.injEq, reduceCtorEq] at h <;> obtain ⟨rfl, rfl⟩ := h
  case add =>
    refine ⟨_, ?_, rfl⟩
    have : ¬ ((a.size + b.size : Nat) : Int) > IntKind.i64.max := by
      have : IntKind.i64.max = 9223372036854775807 := by decide
      omega
    simp only [binOp, Op.stringOp, this, if_false]
    rfl
  case eql => exact ⟨_, by simp [binOp, Op.stringOp, e1], rfl⟩
  case neq => exact ⟨_, by simp [binOp, Op.stringOp, e1], rfl⟩
  case lss => exact ⟨_, by simp [binOp, Op.stringOp, e2], rfl⟩
  case leq => exact ⟨_, by simp only [binOp, Op.stringOp]; rw [e4, e3]; rfl, rfl⟩
  case gtr => exact ⟨_, by simp only [binOp, Op.stringOp]; rw [e4, e3, Bool.not_not]; rfl, rfl⟩
  case geq => exact ⟨_, by simp [binOp, Op.stringOp, e2], rfl⟩
end

theorem eqs_of_veqs {E : Env} : ∀ (ks : List Ty) (cs ds : List V) (us vs : List Value) (r : Bool), RelL E cs us → RelL E ds vs → veqs ks cs ds = some r → eqs ks us vs = some r
  | [], cs, ds, us, vs, r, hc, hd, h => by
    cases cs <;> cases ds <;> simp [veqs] at h
    subst h
    have := hc.1; have := hd.1
    cases us <;> cases vs <;> simp_all [eqs]
  | k :: ks, cs, ds, us, vs, r, hc, hd, h => by
    cases cs with
    | nil => cases k <;> simp [veqs] at h
    | cons c cs =>
    cases ds with
    | nil => cases k <;> cases c <;> simp [veqs] at h
    | cons d ds =>
    cases us with
    | nil => have := hc.1; simp at this
    | cons u us =>
    cases vs with
    | nil => have := hd.1; simp at this
    | cons v vs =>
    have h1 := hc.2 0 c u rfl rfl
    have h2 := hd.2 0 d v rfl rfl
    have hc' : RelL E cs us := ⟨by simpa using hc.1, fun j x u hx hu => hc.2 (j + 1) x u (by simpa using hx) (by simpa using hu)⟩
    have hd' : RelL E ds vs := ⟨by simpa using hd.1, fun j x u hx hu => hd.2 (j + 1) x u (by simpa using hx) (by simpa using hu)⟩
    unfold veqs at h
    split at h
    · simp at *
    · rename_i e1 e2 e3
      injection e1 with e1 e1'; injection e2 with e2 e2'; injection e3 with e3 e3'
      subst e1 e1' e2 e2' e3 e3'
      split at h <;> try cases h
      rename_i hk
      have := h1.sc_inv; subst this
      have := h2.sc_inv; subst this
      simp only [Option.map_eq_some_iff] at h
      obtain ⟨r', hr', rfl⟩ := h
      simp [eqs, hk, eqs_of_veqs ks cs ds us vs r' hc' hd' hr']
    · rename_i e1 e2 e3
      injection e1 with e1 e1'; injection e2 with e2 e2'; injection e3 with e3 e3'
      subst e1 e1' e2 e2' e3 e3'
      have := h1.sc_inv; subst this
      have := h2.sc_inv; subst this
      simp only [Option.map_eq_some_iff] at h
      obtain ⟨r', hr', rfl⟩ := h
      simp [eqs, eqs_of_veqs ks cs ds us vs r' hc' hd' hr']
    · rename_i e1 e2 e3
      injection e1 with e1 e1'; injection e2 with e2 e2'; injection e3 with e3 e3'
      subst e1 e1' e2 e2' e3 e3'
      have := h1.sc_inv; subst this
      have := h2.sc_inv; subst this
      simp only [Option.map_eq_some_iff] at h
      obtain ⟨r', hr', rfl⟩ := h
      simp [eqs, eqs_of_veqs ks cs ds us vs r' hc' hd' hr']
    · cases h

theorem ptr_eql {P : Program} (w : World) {t e : TypeId} (hd : P.underlying t = some (.pointer e)) (ox oy : Operand) (p : Option Addr) :
    (do eqGuard .eql t ox oy (.pointer p) (.pointer none); binOp .eql t (.pointer p) (.pointer none) : Sem Value).run P w = .ok (.bool p.isNone) w := by
  have h := run_eql_pointer_nil (P := P) w t p (by simp [Program.pointee, hd])
  simp only [Sem.run_bind, eqGuard]
  simpa using h
theorem ptr_neq {P : Program} (w : World) {t e : TypeId} (hd : P.underlying t = some (.pointer e)) (ox oy : Operand) (p : Option Addr) :
    (do eqGuard .neq t ox oy (.pointer p) (.pointer none); binOp .neq t (.pointer p) (.pointer none) : Sem Value).run P w = .ok (.bool (!p.isNone)) w := by
  have h := run_neq_pointer_nil (P := P) w t p (by simp [Program.pointee, hd])
  simp only [Sem.run_bind, eqGuard]
  simpa using h

section
variable {P : Program} {T : Tab} {Q : EqTab} (hT : TabOk P T) (hQ : EqOk P Q) {op : BinOp} {t : TypeId} {E : Env} {x y z : V} {u v : Value} {C : Prop}
include hT hQ
theorem bin_sound (hx : Rel E x u) (hy : Rel E y v) (h : vbin T Q op t x y = some (C, z)) (hC : C) (ox oy : Operand) :
    ∃ r, (do eqGuard op t ox oy u v; binOp op t u v : Sem Value).run P E.w = .ok r E.w ∧ Rel E z r := by
  unfold vbin at h
  split at h
  · have := hx.sc_inv; subst this
    have := hy.sc_inv; subst this
    obtain ⟨r, hr, rfl⟩ := int_sound (P := P) E.w (t := t) h hC
    exact ⟨r, by simp [eqGuard, hr], .sc r⟩
  · have := hx.sc_inv; subst this
    have := hy.sc_inv; subst this
    obtain ⟨r, hr, rfl⟩ := str_sound (P := P) E.w (t := t) h hC
    exact ⟨r, by simp [eqGuard, hr], .sc r⟩
  · have := hx.sc_inv; subst this
    have := hy.sc_inv; subst this
    split at h <;> simp only [Option.some.injEq, Prod.mk.injEq, reduceCtorEq] at h <;> obtain ⟨rfl, rfl⟩ := h
    · rename_i ht
      obtain ⟨hd, _⟩ := hT.ok t _ ht
      exact ⟨_, by simp [eqGuard, run_eql_bool (P := P) E.w t _ _ hd]; rfl, .sc _⟩
    · rename_i ht
      obtain ⟨hd, _⟩ := hT.ok t _ ht
      exact ⟨_, by simp [eqGuard, run_neq_bool (P := P) E.w t _ _ hd]; rfl, .sc _⟩
  · obtain ⟨us, rfl, hu, _⟩ := hx.agg_inv
    obtain ⟨vs, rfl, hv, _⟩ := hy.agg_inv
    split at h <;> try cases h
    rename_i ks hk
    split at h <;> simp only [Option.some.injEq, Prod.mk.injEq, reduceCtorEq] at h <;> obtain ⟨rfl, rfl⟩ := h
    · rename_i r hr
      obtain ⟨h1, h2⟩ := hQ.ok t ks us vs r E.w hk (eqs_of_veqs ks _ _ us vs r hu hv hr)
      exact ⟨_, by simp only [Sem.run_bind, h1, Result.andThen_ok, binOp, h2, Sem.run_pure], .sc _⟩
    · rename_i r hr
      obtain ⟨h1, h2⟩ := hQ.ok t ks us vs r E.w hk (eqs_of_veqs ks _ _ us vs r hu hv hr)
      exact ⟨_, by simp only [Sem.run_bind, h1, Result.andThen_ok, binOp, h2, Sem.run_pure], .sc _⟩
  · obtain ⟨rfl, _⟩ := hx.ref_inv
    have := hy.sc_inv; subst this
    split at h <;> simp only [Option.some.injEq, Prod.mk.injEq, reduceCtorEq] at h <;> obtain ⟨rfl, rfl⟩ := h
    · rename_i ht
      obtain ⟨hd, _⟩ := hT.ok t _ ht
      simp only [TyOk] at hd
      exact ⟨_, ptr_eql E.w hd ox oy _, .sc _⟩
    · rename_i ht
      obtain ⟨hd, _⟩ := hT.ok t _ ht
      simp only [TyOk] at hd
      exact ⟨_, ptr_neq E.w hd ox oy _, .sc _⟩
  · have := hx.sc_inv; subst this
    have := hy.sc_inv; subst this
    split at h <;> simp only [Option.some.injEq, Prod.mk.injEq, reduceCtorEq] at h <;> obtain ⟨rfl, rfl⟩ := h
    · rename_i ht
      obtain ⟨hd, _⟩ := hT.ok t _ ht
      simp only [TyOk] at hd
      exact ⟨_, ptr_eql E.w hd ox oy _, .sc _⟩
    · rename_i ht
      obtain ⟨hd, _⟩ := hT.ok t _ ht
      simp only [TyOk] at hd
      exact ⟨_, ptr_neq E.w hd ox oy _, .sc _⟩
  · cases h
end
end Go.VS
