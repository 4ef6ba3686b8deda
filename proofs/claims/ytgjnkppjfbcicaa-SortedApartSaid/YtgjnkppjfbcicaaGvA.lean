/- The values, the relation to memory, and what is kept while memory grows. -/
import Derived.WalkKit
import Derived.Maps.AppendAt
namespace Go.VS

/-- What is known of a Go value. -/
inductive V where
  | any
  | sc (v : Value)
  | data (n sz : Nat) (cs : List V) (tok : Option Nat)
  | dptr (cs : List V)
  | ref (o off : Nat)
  | osl (o off n sz : Nat) (cap : Option Nat)
  | clo (f : FuncId) (cap : List V)
  | agg (cs : List V)
  | tup (vs : List V)
  deriving Inhabited

/-- How the abstract state lies in a world: the objects' blocks, the owned slices, the cells that stay. -/
structure Env where
  ρ : Nat → Nat
  cp : Nat → Nat
  nobj : Nat
  θ : Nat → Option (Value × TypeId)
  I : Nat → Nat → Prop
  ctr : Nat
  base : Nat
  sz : TypeId → Nat
  w : World

def CellsAt (E : Env) (A : Option Addr) (us : List Value) : Prop :=
  ∀ (j : Nat) (u : Value), us[j]? = some u → ∃ a, A = some a ∧ a.spot = none ∧ E.I a.block (a.off + j) ∧ E.w.cell? ⟨a.block, a.off + j, none⟩ = some u ∧ u.oneCell' = true

def TokOk (E : Env) (tok : Option Nat) (v : Value) : Prop := ∀ τ, tok = some τ → τ < E.ctr ∧ ∀ u, E.θ τ = some u → u.1 = v

inductive Rel (E : Env) : V → Value → Prop
  | any (v : Value) : Rel E .any v
  | sc (v : Value) : Rel E (.sc v) v
  | data {n sz : Nat} {cs : List V} {tok : Option Nat} {A : Option Addr} {c : Nat} (us : List Value) (hl : us.length = cs.length) (hz : cs.length = n * sz) (hc : n ≤ c) (hm : c ≤ maxLen)
      (h0 : 0 < n → ∃ a, A = some a ∧ a.spot = none) (hcell : CellsAt E A us)
      (hR : ∀ (j : Nat) (x : V) (u : Value), cs[j]? = some x → us[j]? = some u → Rel E x u) (ht : TokOk E tok (.slice A n c)) : Rel E (.data n sz cs tok) (.slice A n c)
  | dptr {cs : List V} {a : Addr} (us : List Value) (hl : us.length = cs.length) (hs : a.spot = none) (hcell : CellsAt E (some a) us)
      (hR : ∀ (j : Nat) (x : V) (u : Value), cs[j]? = some x → us[j]? = some u → Rel E x u) : Rel E (.dptr cs) (.pointer (some a))
  | ref {o off : Nat} (ho : o < E.nobj) : Rel E (.ref o off) (.pointer (some ⟨E.ρ o, off, none⟩))
  | osl {o off n sz : Nat} {cap : Option Nat} {A : Option Addr} (c : Nat) (ho : o < E.nobj) (hA : 0 < c → A = some ⟨E.ρ o, off, none⟩) (hn : n ≤ c) (hm : c ≤ maxLen) (hc : ∀ k, cap = some k → c = k) (hs : off + c * sz ≤ E.cp o) : Rel E (.osl o off n sz cap) (.slice A n c)
  | clo {f : FuncId} {cap : List V} (us : List Value) (hl : us.length = cap.length)
      (hR : ∀ (j : Nat) (x : V) (u : Value), cap[j]? = some x → us[j]? = some u → Rel E x u) : Rel E (.clo f cap) (.func (.func f) #[] us.toArray)
  | agg {cs : List V} (us : List Value) (hl : us.length = cs.length) (h1 : ∀ u ∈ us, u.oneCell' = true)
      (hR : ∀ (j : Nat) (x : V) (u : Value), cs[j]? = some x → us[j]? = some u → Rel E x u) : Rel E (.agg cs) (.agg us.toArray)
  | tup {cs : List V} (us : List Value) (hl : us.length = cs.length)
      (hR : ∀ (j : Nat) (x : V) (u : Value), cs[j]? = some x → us[j]? = some u → Rel E x u) : Rel E (.tup cs) (.tuple us.toArray)

/-- Lists of values, one by one. -/
def RelL (E : Env) (cs : List V) (us : List Value) : Prop := us.length = cs.length ∧ ∀ (j : Nat) (x : V) (u : Value), cs[j]? = some x → us[j]? = some u → Rel E x u

/-- What stays: the cells of I, the names of the owned slices. -/
structure LeP (E E' : Env) : Prop where
  ctr : E.ctr ≤ E'.ctr
  tok : ∀ τ, τ < E.ctr → E'.θ τ = E.θ τ
  imm : ∀ b o, E.I b o → E'.I b o ∧ E'.w.cell? ⟨b, o, none⟩ = E.w.cell? ⟨b, o, none⟩

structure Le (E E' : Env) : Prop extends LeP E E' where
  nob : E.nobj ≤ E'.nobj
  rho : ∀ o, o < E.nobj → E'.ρ o = E.ρ o
  cps : ∀ o, o < E.nobj → E'.cp o = E.cp o

theorem LeP.refl (E : Env) : LeP E E := ⟨Nat.le_refl _, fun _ _ => rfl, fun _ _ h => ⟨h, rfl⟩⟩
theorem Le.refl (E : Env) : Le E E := ⟨LeP.refl E, Nat.le_refl _, fun _ _ => rfl, fun _ _ => rfl⟩
theorem LeP.trans {A B C : Env} (h : LeP A B) (k : LeP B C) : LeP A C :=
  ⟨Nat.le_trans h.ctr k.ctr, fun τ ht => (k.tok τ (Nat.lt_of_lt_of_le ht h.ctr)).trans (h.tok τ ht),
   fun b o hb => ⟨(k.imm b o (h.imm b o hb).1).1, (k.imm b o (h.imm b o hb).1).2.trans (h.imm b o hb).2⟩⟩
theorem Le.trans {A B C : Env} (h : Le A B) (k : Le B C) : Le A C :=
  ⟨h.toLeP.trans k.toLeP, Nat.le_trans h.nob k.nob, fun o ho => (k.rho o (Nat.lt_of_lt_of_le ho h.nob)).trans (h.rho o ho), fun o ho => (k.cps o (Nat.lt_of_lt_of_le ho h.nob)).trans (h.cps o ho)⟩

theorem CellsAt.le {E E' : Env} {A : Option Addr} {us : List Value} (h : CellsAt E A us) (k : LeP E E') : CellsAt E' A us := fun j u hu => by
  obtain ⟨a, e, hs, hI, hc, h1⟩ := h j u hu
  exact ⟨a, e, hs, (k.imm _ _ hI).1, (k.imm _ _ hI).2.trans hc, h1⟩
theorem TokOk.le {E E' : Env} {tok : Option Nat} {v : Value} (h : TokOk E tok v) (k : LeP E E') : TokOk E' tok v := fun τ e =>
  ⟨Nat.lt_of_lt_of_le (h τ e).1 k.ctr, fun u hu => (h τ e).2 u ((k.tok τ (h τ e).1).symm.trans hu)⟩

theorem Rel.le {E E' : Env} {x : V} {v : Value} (h : Rel E x v) (k : Le E E') : Rel E' x v := by
  induction h with
  | any v => exact .any v
  | sc v => exact .sc v
  | data us hl hz hc hm h0 hcell _ ht ih => exact .data us hl hz hc hm h0 (hcell.le k.toLeP) ih (ht.le k.toLeP)
  | dptr us hl hs hcell _ ih => exact .dptr us hl hs (hcell.le k.toLeP) ih
  | ref ho => rw [← k.rho _ ho]; exact .ref (Nat.lt_of_lt_of_le ho k.nob)
  | osl c ho hA hn hm hc hs => exact .osl c (Nat.lt_of_lt_of_le ho k.nob) (by rw [k.rho _ ho]; exact hA) hn hm hc (by rw [k.cps _ ho]; exact hs)
  | clo us hl _ ih => exact .clo us hl ih
  | agg us hl h1 _ ih => exact .agg us hl h1 ih
  | tup us hl _ ih => exact .tup us hl ih
theorem RelL.le {E E' : Env} {cs : List V} {us : List Value} (h : RelL E cs us) (k : Le E E') : RelL E' cs us := ⟨h.1, fun j x u hx hu => (h.2 j x u hx hu).le k⟩

/-- No reference to an object from k on. -/
inductive NR (k : Nat) : V → Prop
  | any : NR k .any
  | sc (v : Value) : NR k (.sc v)
  | data {n sz : Nat} {cs : List V} {tok : Option Nat} (h : ∀ x ∈ cs, NR k x) : NR k (.data n sz cs tok)
  | dptr {cs : List V} (h : ∀ x ∈ cs, NR k x) : NR k (.dptr cs)
  | ref {o off : Nat} (h : o < k) : NR k (.ref o off)
  | osl {o off n sz : Nat} {cap : Option Nat} (h : o < k) : NR k (.osl o off n sz cap)
  | clo {f : FuncId} {cs : List V} (h : ∀ x ∈ cs, NR k x) : NR k (.clo f cs)
  | agg {cs : List V} (h : ∀ x ∈ cs, NR k x) : NR k (.agg cs)
  | tup {cs : List V} (h : ∀ x ∈ cs, NR k x) : NR k (.tup cs)

section
variable {k n sz o off : Nat} {cs : List V} {tok : Option Nat} {v : Value} {f : FuncId}
@[simp] theorem nr_any : NR k .any ↔ True := ⟨fun _ => trivial, fun _ => .any⟩
@[simp] theorem nr_sc : NR k (.sc v) ↔ True := ⟨fun _ => trivial, fun _ => .sc v⟩
@[simp] theorem nr_data : NR k (.data n sz cs tok) ↔ ∀ x ∈ cs, NR k x := ⟨fun h => by cases h; assumption, .data⟩
@[simp] theorem nr_dptr : NR k (.dptr cs) ↔ ∀ x ∈ cs, NR k x := ⟨fun h => by cases h; assumption, .dptr⟩
@[simp] theorem nr_ref : NR k (.ref o off) ↔ o < k := ⟨fun h => by cases h; assumption, .ref⟩
@[simp] theorem nr_osl {cap : Option Nat} : NR k (.osl o off n sz cap) ↔ o < k := ⟨fun h => by cases h; assumption, .osl⟩
@[simp] theorem nr_clo : NR k (.clo f cs) ↔ ∀ x ∈ cs, NR k x := ⟨fun h => by cases h; assumption, .clo⟩
@[simp] theorem nr_agg : NR k (.agg cs) ↔ ∀ x ∈ cs, NR k x := ⟨fun h => by cases h; assumption, .agg⟩
@[simp] theorem nr_tup : NR k (.tup cs) ↔ ∀ x ∈ cs, NR k x := ⟨fun h => by cases h; assumption, .tup⟩
end

theorem mem_of_get {α : Type} {l : List α} {j : Nat} {x : α} (h : l[j]? = some x) : x ∈ l := List.mem_of_getElem? h

theorem Rel.leNR {E E' : Env} {x : V} {v : Value} (h : Rel E x v) (k : LeP E E') (m : Nat) (hm : m ≤ E'.nobj) (hρ : ∀ o, o < m → E'.ρ o = E.ρ o) (hcp : ∀ o, o < m → E'.cp o = E.cp o) : NR m x → Rel E' x v := by
  induction h with
  | any v => exact fun _ => .any v
  | sc v => exact fun _ => .sc v
  | data us hl hz hc hx h0 hcell _ ht ih => exact fun hn => .data us hl hz hc hx h0 (hcell.le k) (fun j x u hx hu => ih j x u hx hu (nr_data.1 hn x (mem_of_get hx))) (ht.le k)
  | dptr us hl hs hcell _ ih => exact fun hn => .dptr us hl hs (hcell.le k) (fun j x u hx hu => ih j x u hx hu (nr_dptr.1 hn x (mem_of_get hx)))
  | ref ho => exact fun hn => by rw [← hρ _ (nr_ref.1 hn)]; exact .ref (Nat.lt_of_lt_of_le (nr_ref.1 hn) hm)
  | osl c ho h0 h1 h2 h3 h4 => exact fun hn => .osl c (Nat.lt_of_lt_of_le (nr_osl.1 hn) hm) (by rw [hρ _ (nr_osl.1 hn)]; exact h0) h1 h2 h3 (by rw [hcp _ (nr_osl.1 hn)]; exact h4)
  | clo us hl _ ih => exact fun hn => .clo us hl (fun j x u hx hu => ih j x u hx hu (nr_clo.1 hn x (mem_of_get hx)))
  | agg us hl h1 _ ih => exact fun hn => .agg us hl h1 (fun j x u hx hu => ih j x u hx hu (nr_agg.1 hn x (mem_of_get hx)))
  | tup us hl _ ih => exact fun hn => .tup us hl (fun j x u hx hu => ih j x u hx hu (nr_tup.1 hn x (mem_of_get hx)))

/-- The abstract state of a frame. -/
structure St where
  tm : Nat → V
  hp : List (List V)
  lv : List (Nat × TypeId)
  ctr : Nat

def St.put (Γ : St) (d : Option Nat) (x : V) : St :=
  match d with
  | some d => { Γ with tm := fun t => if t = d then x else Γ.tm t }
  | none => Γ

/-- An owned slice: it begins a block of its own from base on, and nothing that stays lies behind its length. -/
def Own (E : Env) (m : Nat) (u : Value × TypeId) : Prop :=
  ∃ n xs, E.w.ownsRow E.base u.2 (E.sz u.2) u.1 n xs ∧ ∀ g, u.1.ownBlock = some g → (∀ off, E.I g off → off < n * E.sz u.2) ∧ ∀ o, o < m → E.ρ o ≠ g

structure Objs (E : Env) (hp : List (List V)) : Prop where
  nob : E.nobj = hp.length
  obj : ∀ o cs, hp[o]? = some cs → ∃ us ex e, E.w.heap[E.ρ o]? = some (.cells (List.toArray (us ++ ex)) e (0, 0)) ∧ RelL E cs us ∧ (∀ u ∈ us ++ ex, u.oneCell' = true) ∧ (us ++ ex).length = E.cp o
  noI : ∀ o off, o < hp.length → ¬ E.I (E.ρ o) off
  inj : ∀ o o', o < hp.length → o' < hp.length → E.ρ o = E.ρ o' → o = o'
  inb : ∀ b o, E.I b o → b < E.w.heap.size

structure Toks (E : Env) (m : Nat) (lv : List (Nat × TypeId)) : Prop where
  own : ∀ τ e, (τ, e) ∈ lv → τ < E.ctr ∧ ∃ v, E.θ τ = some (v, e) ∧ Own E m (v, e)
  sep : ∀ τ τ' e e' u u' g, (τ, e) ∈ lv → (τ', e') ∈ lv → E.θ τ = some u → E.θ τ' = some u' → u.1.ownBlock = some g → u'.1.ownBlock = some g → τ = τ'

/-- What has become of the world since the entry. -/
structure Ext (E0 E : Env) : Prop where
  le : Le E0 E
  base : E.base = E0.w.heap.size
  sz : E.sz = E0.sz
  os : E.w.os = E0.w.os
  tape : E.w.tape = E0.w.tape
  output : E.w.output = E0.w.output
  size : E0.w.heap.size ≤ E.w.heap.size
  keep : ∀ b, b < E0.w.heap.size → (∀ o, o < E0.nobj → E0.ρ o ≠ b) → E.w.heap[b]? = E0.w.heap[b]?
  newo : ∀ o, E0.nobj ≤ o → o < E.nobj → E0.w.heap.size ≤ E.ρ o
  newI : ∀ b o, E.I b o → E0.I b o ∨ E0.w.heap.size ≤ b

structure HoldsE (E0 E : Env) (N : Nat) (Γ : St) (a : Act) : Prop where
  ctr : E.ctr = Γ.ctr
  objs : Objs E Γ.hp
  toks : Toks E Γ.hp.length Γ.lv
  ext : Ext E0 E
  size : a.tmps.size = N
  defers : a.defers = []
  tm : ∀ t, Rel E (Γ.tm t) (a.tmps.getD t undef)

def Holds (E0 : Env) (N : Nat) (Γ : St) (a : Act) (w : World) : Prop := ∃ E, E.w = w ∧ HoldsE E0 E N Γ a

end Go.VS
