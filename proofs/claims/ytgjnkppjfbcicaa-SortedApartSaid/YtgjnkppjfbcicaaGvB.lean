/- The table of types; what an operation that only reads yields, and that it does. -/
import Derived.Test.YtgjnkppjfbcicaaGvA
import Derived.WalkLawsBesides
import Derived.WalkSpells
namespace Go.VS

inductive Ty where
  | bool | int (k : IntKind) | string | pointer (e : TypeId) | slice (e : TypeId) | array (n : Nat) (e : TypeId) | struct (fs : List (Nat × TypeId)) | other
  deriving DecidableEq

structure TI where
  d : Ty
  size : Nat
  bytes : Nat
  zero : List Value

abbrev Tab := TypeId → Option TI

def Ty.isAgg : Ty → Bool
  | .array _ _ | .struct _ => true
  | _ => false

def TyOk (P : Program) (t : TypeId) : Ty → Prop
  | .bool => P.underlying t = some .bool
  | .int k => P.underlying t = some (.int k)
  | .string => P.underlying t = some .string
  | .pointer e => P.underlying t = some (.pointer e)
  | .slice e => P.underlying t = some (.slice e)
  | .array n e => P.underlying t = some (.array n e)
  | .struct fs => ∃ F : Array Field, P.underlying t = some (.struct F) ∧ F.toList.map (fun f => (f.offset, f.type)) = fs
  | .other => ∃ d, P.underlying t = some d ∧ (∀ F, d ≠ .struct F) ∧ ∀ n e, d ≠ .array n e

def InfoOk (P : Program) (t : TypeId) (ti : TI) : Prop :=
  ∃ i z, P.info? t = some i ∧ i.size = ti.size ∧ i.bytes = ti.bytes ∧ i.zero = some z ∧ z.cells.toList = ti.zero ∧ (ti.d.isAgg = true → z = .agg ti.zero.toArray) ∧ (ti.d.isAgg = false → ti.zero = [z])

structure TabOk (P : Program) (T : Tab) : Prop where
  ok : ∀ t ti, T t = some ti → TyOk P t ti.d ∧ InfoOk P t ti

section
variable {P : Program} {T : Tab} (hT : TabOk P T) {t : TypeId} {ti : TI} (w : World)
include hT
theorem TabOk.agg (h : T t = some ti) : (isAgg t).run P w = .ok ti.d.isAgg w := by
  obtain ⟨hd, _⟩ := hT.ok t ti h
  cases hk : ti.d <;> rw [hk] at hd <;> simp only [TyOk] at hd
  case struct fs =>
    obtain ⟨F, hF, _⟩ := hd
    simp [isAgg, run_underlying hF, Ty.isAgg]
  case other =>
    obtain ⟨d, hd, h1, h2⟩ := hd
    cases d <;> first | (simp [isAgg, run_underlying hd, Ty.isAgg]; done) | exact absurd rfl (h1 _) | exact absurd rfl (h2 _ _)
  all_goals simp [isAgg, run_underlying hd, Ty.isAgg]
theorem TabOk.size (h : T t = some ti) : (sizeOf t).run P w = .ok ti.size w := by
  obtain ⟨_, i, z, hi, hs, _⟩ := hT.ok t ti h
  simp [sizeOf, typeInfo, hi, hs]
theorem TabOk.cellsOf (h : T t = some ti) : P.cellsOf t = ti.size := by
  obtain ⟨_, i, z, hi, hs, _⟩ := hT.ok t ti h
  simp [Program.cellsOf, hi, hs]
theorem TabOk.zero (h : T t = some ti) : ∃ z, (zeroValue t).run P w = .ok z w ∧ z.cells.toList = ti.zero ∧ (ti.d.isAgg = true → z = .agg ti.zero.toArray) := by
  obtain ⟨_, i, z, hi, hs, hb, hz, hc, hd, _⟩ := hT.ok t ti h
  exact ⟨z, by simp [zeroValue, typeInfo, hi, hz], hc, hd⟩
end

/-- A part of cells: a struct's field, an element. -/
def vpart (T : Tab) (t : TypeId) (cs : List V) (off : Nat) : Option V :=
  match T t with
  | some ti => if ti.d.isAgg then (if off + ti.size ≤ cs.length then some (.agg ((cs.drop off).take ti.size)) else none) else cs[off]?
  | none => none

def constV : Value → V
  | .agg cs => if cs.toList.all (·.oneCell') then .agg (cs.toList.map .sc) else .any
  | v => .sc v

theorem rel_constV (E : Env) (v : Value) : Rel E (constV v) v := by
  unfold constV
  split
  · rename_i cs
    split
    · rename_i h1
      have := Rel.agg (E := E) (cs := cs.toList.map .sc) cs.toList (by simp) (fun u hu => List.all_eq_true.1 h1 u hu) (fun j x u hx hu => by
        rw [List.getElem?_map, hu] at hx
        simp at hx
        subst hx
        exact .sc u)
      simpa using this
    · exact .any _
  · exact .sc v

/-- An operand. -/
def opv (G : Nat → Option (List V)) (f : Nat → V) : Operand → V
  | .tmp t => f t
  | .const v => constV v
  | .global g => match G g with | some cs => .dptr cs | none => .sc (.pointer (some ⟨g, 0, none⟩))
  | .func g => .clo g []

def GlobOk (G : Nat → Option (List V)) (E : Env) : Prop := ∀ g cs, G g = some cs → Rel E (.dptr cs) (.pointer (some ⟨g, 0, none⟩))

theorem rel_opv {G : Nat → Option (List V)} {E : Env} {f : Nat → V} {a : Act} (hG : GlobOk G E) (h : ∀ t, Rel E (f t) (a.tmps.getD t undef)) (x : Operand) : Rel E (opv G f x) (a.eval x) := by
  cases x with
  | tmp t => exact h t
  | const v => exact rel_constV E v
  | global g =>
    unfold opv
    dsimp only
    split
    · rename_i cs hc; exact hG g cs hc
    · exact .sc _
  | func g => exact .clo [] rfl (by simp)

section
variable {E : Env} {x : V} {v : Value}
theorem Rel.sc_inv {u : Value} (h : Rel E (.sc u) v) : v = u := by cases h; rfl
theorem Rel.agg_inv {cs : List V} (h : Rel E (.agg cs) v) : ∃ us, v = .agg (List.toArray us) ∧ RelL E cs us ∧ ∀ u ∈ us, u.oneCell' = true := by cases h; exact ⟨_, rfl, ⟨‹_›, ‹_›⟩, ‹_›⟩
theorem Rel.tup_inv {cs : List V} (h : Rel E (.tup cs) v) : ∃ us, v = .tuple (List.toArray us) ∧ RelL E cs us := by cases h; exact ⟨_, rfl, ‹_›, ‹_›⟩
theorem Rel.osl_inv {o off n sz : Nat} {cap : Option Nat} (h : Rel E (.osl o off n sz cap) v) : ∃ A c, v = .slice A n c ∧ o < E.nobj ∧ (0 < c → A = some ⟨E.ρ o, off, none⟩) ∧ n ≤ c ∧ c ≤ maxLen ∧ (∀ k, cap = some k → c = k) ∧ off + c * sz ≤ E.cp o := by cases h; exact ⟨_, _, rfl, ‹_›, ‹_›, ‹_›, ‹_›, ‹_›, ‹_›⟩
theorem Rel.ref_inv {o off : Nat} (h : Rel E (.ref o off) v) : v = .pointer (some ⟨E.ρ o, off, none⟩) ∧ o < E.nobj := by cases h; exact ⟨rfl, ‹_›⟩
theorem Rel.dptr_inv {cs : List V} (h : Rel E (.dptr cs) v) : ∃ a us, v = .pointer (some a) ∧ a.spot = none ∧ CellsAt E (some a) us ∧ RelL E cs us := by cases h; exact ⟨_, _, rfl, ‹_›, ‹_›, ‹_›, ‹_›⟩
theorem Rel.data_inv {n sz : Nat} {cs : List V} {tok : Option Nat} (h : Rel E (.data n sz cs tok) v) :
    ∃ A c us, v = .slice A n c ∧ cs.length = n * sz ∧ n ≤ c ∧ c ≤ maxLen ∧ (0 < n → ∃ a, A = some a ∧ a.spot = none) ∧ CellsAt E A us ∧ RelL E cs us ∧ TokOk E tok v := by
  cases h; exact ⟨_, _, _, rfl, ‹_›, ‹_›, ‹_›, ‹_›, ‹_›, ⟨‹_›, ‹_›⟩, ‹_›⟩
theorem Rel.clo_inv {f : FuncId} {cs : List V} (h : Rel E (.clo f cs) v) : ∃ us, v = .func (.func f) #[] (List.toArray us) ∧ RelL E cs us := by cases h; exact ⟨_, rfl, ‹_›, ‹_›⟩
theorem RelL.agg {cs : List V} {us : List Value} (h : RelL E cs us) (h1 : ∀ u ∈ us, u.oneCell' = true) : Rel E (.agg cs) (.agg us.toArray) := .agg us h.1 h1 h.2
theorem RelL.tup {cs : List V} {us : List Value} (h : RelL E cs us) : Rel E (.tup cs) (.tuple us.toArray) := .tup us h.1 h.2
theorem RelL.drop {cs : List V} {us : List Value} (h : RelL E cs us) (k : Nat) : RelL E (cs.drop k) (us.drop k) :=
  ⟨by simp [h.1], fun j x u hx hu => h.2 (k + j) x u (by simpa using hx) (by simpa using hu)⟩
theorem RelL.take {cs : List V} {us : List Value} (h : RelL E cs us) (k : Nat) : RelL E (cs.take k) (us.take k) :=
  ⟨by simp [h.1], fun j x u hx hu => by
    rw [List.getElem?_take] at hx hu
    split at hx
    · rw [if_pos ‹_›] at hu; exact h.2 j x u hx hu
    · cases hx⟩
theorem RelL.get {cs : List V} {us : List Value} (h : RelL E cs us) {j : Nat} (hx : cs[j]? = some x) : ∃ u, us[j]? = some u ∧ Rel E x u := by
  have hj : j < us.length := by rw [h.1]; exact (List.getElem?_eq_some_iff.1 hx).1
  exact ⟨us[j], List.getElem?_eq_getElem hj, h.2 j x _ hx (List.getElem?_eq_getElem hj)⟩
theorem RelL.nil : RelL E [] [] := ⟨rfl, by simp⟩
theorem RelL.cons {u : Value} {cs : List V} {us : List Value} (h : Rel E x u) (k : RelL E cs us) : RelL E (x :: cs) (u :: us) :=
  ⟨by simp [k.1], fun j => by
    cases j with
    | zero => intro y z hy hz; simp at hy hz; subst hy; subst hz; exact h
    | succ j => intro y z hy hz; exact k.2 j y z (by simpa using hy) (by simpa using hz)⟩
theorem RelL.append {cs ds : List V} {us vs : List Value} (h : RelL E cs us) (k : RelL E ds vs) : RelL E (cs ++ ds) (us ++ vs) :=
  ⟨by simp [h.1, k.1], fun j x u hx hu => by
    by_cases hj : j < cs.length
    · rw [List.getElem?_append_left hj] at hx
      rw [List.getElem?_append_left (by rw [h.1]; exact hj)] at hu
      exact h.2 j x u hx hu
    · rw [List.getElem?_append_right (by omega)] at hx
      rw [List.getElem?_append_right (by rw [h.1]; omega), h.1] at hu
      exact k.2 _ x u hx hu⟩
theorem CellsAt.drop {A : Addr} {us : List Value} (h : CellsAt E (some A) us) (k : Nat) (hs : A.spot = none) : CellsAt E (some (A.add k)) (us.drop k) := fun j u hu => by
  obtain ⟨a, e, hs', hI, hc, h1⟩ := h (k + j) u (by simpa using hu)
  injection e with e
  subst e
  refine ⟨_, rfl, ?_, ?_, ?_, h1⟩
  · unfold Addr.add; split <;> first | exact hs | rfl
  all_goals unfold Addr.add; split <;> simp_all [Nat.add_assoc]
end

section
variable {P : Program} {T : Tab} (hT : TabOk P T) {t : TypeId} {cs : List V} {us : List Value} {off : Nat} {x : V} {E : Env}
include hT

theorem part_sound (h : vpart T t cs off = some x) (hr : RelL E cs us) (h1 : ∀ u ∈ us, u.oneCell' = true) : ∃ v, (∀ w, (part t us.toArray off).run P w = .ok v w) ∧ Rel E x v := by
  unfold vpart at h
  split at h
  · rename_i ti ht
    split at h
    · rename_i ha
      split at h
      · rename_i hl
        injection h with h; subst h
        refine ⟨.agg ((us.drop off).take ti.size).toArray, fun w => ?_, ((hr.drop off).take _).agg (fun u hu => h1 u (List.mem_of_mem_drop (List.mem_of_mem_take hu)))⟩
        simp only [part, Sem.run_bind, hT.agg w ht, Result.andThen_ok, ha, if_true, hT.size w ht, Sem.run_pure]
        congr 2
        simp [List.extract_eq_take_drop, Nat.add_sub_cancel_left]
      · cases h
    · rename_i ha
      obtain ⟨u, hu, hx⟩ := hr.get h
      refine ⟨u, fun w => ?_, hx⟩
      simp [part, hT.agg w ht, ha, hu]
  · cases h
end

end Go.VS
