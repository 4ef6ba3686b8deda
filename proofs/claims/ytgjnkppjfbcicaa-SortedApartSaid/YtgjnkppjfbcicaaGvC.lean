/- Operations that only read: each yields a value of which this is known. -/
import Derived.Test.YtgjnkppjfbcicaaGvB
namespace Go.VS

theorem addr_add (a : Addr) (j : Nat) (hs : a.spot = none) : a.add j = ⟨a.block, a.off + j, none⟩ := by
  unfold Addr.add
  cases a
  split
  · rename_i h; subst h; simp_all
  · rfl

def vload (T : Tab) (hp : List (List V)) (t : TypeId) : V → Option V
  | .ref o off => match hp[o]? with | some cs => vpart T t cs off | none => none
  | .dptr cs => vpart T t cs 0
  | _ => none

section
variable {P : Program} {T : Tab} (hT : TabOk P T) {t : TypeId} {E : Env} {x y : V} {v : Value}
include hT

/-- Reading a variable whose cells lie there. -/
theorem load_cells {cs : List V} {us : List Value} {a : Addr} (hs : a.spot = none) (hr : RelL E cs us) (h1 : ∀ u ∈ us, u.oneCell' = true) (hc : ∀ (j : Nat) (u : Value), us[j]? = some u → E.w.cell? ⟨a.block, a.off + j, none⟩ = some u)
    (h : vpart T t cs 0 = some y) : ∃ v, (Instr.loadAt t (.pointer (some a))).run P E.w = .ok v E.w ∧ Rel E y v := by
  unfold vpart at h
  split at h
  · rename_i ti ht
    split at h
    · rename_i ha
      split at h
      · rename_i hl
        injection h with h; subst h
        refine ⟨.agg (us.take ti.size).toArray, ?_, by simpa using (hr.take ti.size).agg (fun u hu => h1 u (List.mem_of_mem_take hu))⟩
        have hn : (us.take ti.size).length = ti.size := by rw [List.length_take, hr.1]; omega
        have := run_loadCells_list (P := P) E.w a (us.take ti.size) (fun j u hu => by
          rw [addr_add a j hs]
          rw [List.getElem?_take] at hu
          split at hu
          · exact hc j u hu
          · cases hu)
        rw [hn] at this
        simp [Instr.loadAt, Instr.sureAddr, loadVar, hT.agg E.w ht, ha, hT.size E.w ht, this]
      · cases h
    · rename_i ha
      obtain ⟨u, hu, hx⟩ := hr.get h
      refine ⟨u, ?_, hx⟩
      have hcc := hc 0 u hu
      have ha0 : E.w.cell? a = some u := by
        have : a = ⟨a.block, a.off + 0, none⟩ := by cases a; simp_all
        rw [this]; exact hcc
      simp [Instr.loadAt, Instr.sureAddr, loadVar, hT.agg E.w ht, ha, ha0]
  · cases h

theorem load_sound {hp : List (List V)} (ho : Objs E hp) (hx : Rel E x v) (h : vload T hp t x = some y) : ∃ u, (Instr.loadAt t v).run P E.w = .ok u E.w ∧ Rel E y u := by
  unfold vload at h
  split at h
  · rename_i o off
    obtain ⟨rfl, _⟩ := hx.ref_inv
    split at h
    · rename_i cs hcs
      obtain ⟨us, ex, e, hb, hr, h1, _⟩ := ho.obj o cs hcs
      have hv : vpart T t (cs.drop off) 0 = some y := by
        unfold vpart at h ⊢
        split at h
        · rename_i ti ht
          split at h
          · rename_i ha
            split at h
            · rename_i hl
              injection h with h; subst h
              by_cases h0 : ti.size = 0
              · simp [ha, h0]
              · simp [ha]; omega
            · cases h
          · rename_i ha
            rw [if_neg ha]
            simpa using h
        · cases h
      exact load_cells hT (a := ⟨E.ρ o, off, none⟩) rfl (hr.drop off) (fun u hu => h1 u (List.mem_append_left _ (List.mem_of_mem_drop hu))) (fun j u hu => by
        rw [cell_of_row E.w (E.ρ o) (off + j) (us ++ ex).toArray e (0, 0) hb]
        have hu' : us[off + j]? = some u := by simpa using hu
        simp only [List.getElem?_toArray]
        rw [List.getElem?_append_left (List.getElem?_eq_some_iff.1 hu').1]
        exact hu') hv
    · cases h
  · obtain ⟨a, us, rfl, hs, hcell, hr⟩ := hx.dptr_inv
    exact load_cells hT hs hr (fun u hu => by obtain ⟨j, hj⟩ := List.getElem?_of_mem hu; obtain ⟨_, _, _, _, _, h1⟩ := hcell j u hj; exact h1) (fun j u hu => by obtain ⟨a', e, _, _, hc, _⟩ := hcell j u hu; injection e with e; subst e; exact hc) h
  · cases h
end

/-- A field's place. -/
def vfieldAddr (T : Tab) (s : TypeId) (f : Nat) : V → Option V
  | .ref o off => match T s with
    | some ⟨.struct fs, _, _, _⟩ => match fs[f]? with
      | some (k, ft) => match T ft with | some ti => if ti.size = 0 then none else some (.ref o (off + k)) | none => none
      | none => none
    | _ => none
  | .dptr cs => match T s with
    | some ⟨.struct fs, _, _, _⟩ => match fs[f]? with
      | some (k, ft) => match T ft with | some ti => if ti.size = 0 then none else some (.dptr (cs.drop k)) | none => none
      | none => none
    | _ => none
  | _ => none

section
variable {P : Program} {T : Tab} (hT : TabOk P T) {s : TypeId} {f : Nat} {E : Env} {x y : V} {v : Value}
include hT
theorem field_place {fs : List (Nat × TypeId)} {n b : Nat} {z : List Value} (h : T s = some ⟨.struct fs, n, b, z⟩) {k ft : Nat} (hf : fs[f]? = some (k, ft)) {ti : TI} (ht : T ft = some ti) (h0 : ti.size ≠ 0) (a : Addr) (w : World) :
    (Instr.fieldAt s (.pointer (some a)) f).run P w = .ok (.pointer (some (a.add k))) w := by
  obtain ⟨⟨F, hF, hm⟩, _⟩ := hT.ok s _ h
  rw [← hm, List.getElem?_map] at hf
  cases hg : F.toList[f]? with
  | none => rw [hg] at hf; simp at hf
  | some fd =>
    rw [hg] at hf
    simp only [Option.map_some, Option.some.injEq, Prod.mk.injEq] at hf
    obtain ⟨rfl, rfl⟩ := hf
    have hg' : F[f]? = some fd := by rw [← Array.getElem?_toList]; exact hg
    simp [Instr.fieldAt, run_underlying hF, hg', Instr.sureAddr, fieldPlace, hT.size w ht, h0]

theorem fieldAddr_sound (hx : Rel E x v) (h : vfieldAddr T s f x = some y) : ∃ u, (Instr.fieldAt s v f).run P E.w = .ok u E.w ∧ Rel E y u := by
  unfold vfieldAddr at h
  split at h
  · rename_i o off
    obtain ⟨rfl, hlt⟩ := hx.ref_inv
    split at h <;> try cases h
    rename_i hs
    split at h <;> try cases h
    rename_i hf
    split at h <;> try cases h
    rename_i ht
    split at h <;> try cases h
    rename_i h0
    refine ⟨_, field_place hT hs hf ht h0 _ _, ?_⟩
    rw [addr_add _ _ rfl]
    exact .ref hlt
  · obtain ⟨a, us, rfl, hsp, hcell, hr⟩ := hx.dptr_inv
    split at h <;> try cases h
    rename_i hs
    split at h <;> try cases h
    rename_i hf
    split at h <;> try cases h
    rename_i ht
    split at h <;> try cases h
    rename_i h0
    refine ⟨_, field_place hT hs hf ht h0 _ _, ?_⟩
    exact .dptr _ (hr.drop _).1 (by rw [addr_add _ _ hsp]) (hcell.drop _ hsp) (hr.drop _).2
  · cases h
end

/-- A field of a struct by value. -/
def vfield (T : Tab) (s : TypeId) (f : Nat) : V → Option V
  | .agg cs => match T s with
    | some ⟨.struct fs, _, _, _⟩ => match fs[f]? with
      | some (k, ft) => vpart T ft cs k
      | none => none
    | _ => none
  | _ => none

section
variable {P : Program} {T : Tab} (hT : TabOk P T) {s : TypeId} {f : Nat} {E : Env} {x y : V} {v : Value}
include hT
theorem field_sound (hx : Rel E x v) (h : vfield T s f x = some y) : ∃ u, (∀ w, (Instr.field s v f).run P w = .ok u w) ∧ Rel E y u := by
  unfold vfield at h
  split at h
  · obtain ⟨us, rfl, hr, h1⟩ := hx.agg_inv
    split at h <;> try cases h
    rename_i hs
    split at h <;> try cases h
    rename_i k ft hf
    obtain ⟨u, hu, hy⟩ := part_sound hT h hr h1
    refine ⟨u, fun w => ?_, hy⟩
    obtain ⟨⟨F, hF, hm⟩, _⟩ := hT.ok s _ hs
    rw [← hm, List.getElem?_map] at hf
    cases hg : F.toList[f]? with
    | none => rw [hg] at hf; simp at hf
    | some fd =>
      rw [hg] at hf
      simp only [Option.map_some, Option.some.injEq, Prod.mk.injEq] at hf
      obtain ⟨rfl, rfl⟩ := hf
      have hg' : F[f]? = some fd := by rw [← Array.getElem?_toList]; exact hg
      simp [Instr.field, run_underlying hF, hg', asAgg, hu]
  · cases h
end

/-- The value of a slice, as far as it is known: its length and its cells. -/
def V.row : V → Option (Nat × List V)
  | .data n _ cs _ => some (n, cs)
  | .sc (.slice none 0 0) => some (0, [])
  | _ => none

/-- The same where the elements are of this size. -/
def V.rowOf (size : Nat) : V → Option (Nat × List V)
  | .data n sz cs _ => if sz = size then some (n, cs) else none
  | .sc (.slice none 0 0) => some (0, [])
  | _ => none

theorem rowOf_inv {E : Env} {x : V} {v : Value} {size n : Nat} {cs : List V} (h : x.rowOf size = some (n, cs)) (hx : Rel E x v) :
    cs.length = n * size ∧ ∃ A c us, v = .slice A n c ∧ n ≤ c ∧ c ≤ maxLen ∧ (0 < n → ∃ a, A = some a ∧ a.spot = none) ∧ CellsAt E A us ∧ RelL E cs us := by
  unfold V.rowOf at h
  split at h <;> try cases h
  · split at h <;> cases h
    rename_i hs
    obtain ⟨A, c, us, rfl, hz, hc, hm, h0, hcell, hr, _⟩ := hx.data_inv
    exact ⟨by rw [hz, hs], A, c, us, rfl, hc, hm, h0, hcell, hr⟩
  · have := hx.sc_inv; subst this
    exact ⟨by simp, none, 0, [], rfl, Nat.le_refl _, by simp [maxLen], fun h => absurd h (by omega), fun j u hu => by simp at hu, RelL.nil⟩

/-- An element's place. -/
def vindexAddr (T : Tab) (t : TypeId) (x i : V) : Option (Prop × V) :=
  match T t, i with
  | some ⟨.slice e, _, _, _⟩, .sc (.int _ k) => match T e with
    | some ti => match x with
      | .osl o off n sz _ => if sz = ti.size then some (0 ≤ k ∧ k < (n : Int), .ref o (off + k.toNat * sz)) else none
      | x => match x.row with
        | some (n, cs) => some (0 ≤ k ∧ k < (n : Int), .dptr (cs.drop (k.toNat * ti.size)))
        | none => none
    | none => none
  | some ⟨.array n e, _, _, _⟩, .sc (.int _ k) => match T e with
    | some ti => match x with
      | .ref o off => some (0 ≤ k ∧ k < (n : Int), .ref o (off + k.toNat * ti.size))
      | .dptr cs => some (0 ≤ k ∧ k < (n : Int), .dptr (cs.drop (k.toNat * ti.size)))
      | _ => none
    | none => none
  | _, _ => none

section
variable {P : Program} {T : Tab} (hT : TabOk P T) {t : TypeId} {E : Env} {x i y : V} {v iv : Value} {C : Prop}
include hT
theorem indexAddr_sound (hx : Rel E x v) (hi : Rel E i iv) (h : vindexAddr T t x i = some (C, y)) (hC : C) : ∃ u, (Instr.indexAt t v iv).run P E.w = .ok u E.w ∧ Rel E y u := by
  unfold vindexAddr at h
  split at h
  · rename_i e n0 b0 z0 kk k hs
    have := hi.sc_inv
    subst this
    split at h <;> try cases h
    rename_i ti ht
    obtain ⟨hd, _⟩ := hT.ok t _ hs
    simp only [TyOk] at hd
    split at h
    · rename_i o off n sz cap
      split at h <;> cases h
      rename_i hsz
      subst hsz
      obtain ⟨A, c, rfl, hlt, hA, hn, hm, _, hs'⟩ := hx.osl_inv
      rw [hA (by omega)]
      refine ⟨.pointer (some ((⟨E.ρ o, off, none⟩ : Addr).add (k.toNat * ti.size))), ?_, by rw [addr_add _ _ rfl]; exact .ref hlt⟩
      simp [Instr.indexAt, asIntOf, run_underlying hd, hC, hT.size E.w ht]
    unfold V.row at h
    split at h
    · rename_i n cs hrow
      split at hrow
      · injection hrow with hrow
        simp only [Prod.mk.injEq] at hrow
        obtain ⟨rfl, rfl⟩ := hrow
        simp only [Option.some.injEq, Prod.mk.injEq] at h
        obtain ⟨rfl, rfl⟩ := h
        obtain ⟨A, c, us, rfl, hz, hc, hm, h0, hcell, hr, _⟩ := hx.data_inv
        obtain ⟨a, rfl, hsp⟩ := h0 (by omega)
        refine ⟨.pointer (some (a.add (k.toNat * ti.size))), ?_, .dptr _ (hr.drop _).1 (by rw [addr_add _ _ hsp]) (hcell.drop _ hsp) (hr.drop _).2⟩
        simp [Instr.indexAt, asIntOf, run_underlying hd, hC, hT.size E.w ht]
      · injection hrow with hrow
        simp only [Prod.mk.injEq] at hrow
        obtain ⟨rfl, rfl⟩ := hrow
        simp only [Option.some.injEq, Prod.mk.injEq] at h
        obtain ⟨rfl, rfl⟩ := h
        omega
      · cases hrow
    · cases h
  · rename_i n e n0 b0 z0 kk k hs
    have := hi.sc_inv
    subst this
    split at h <;> try cases h
    rename_i ti ht
    obtain ⟨hd, _⟩ := hT.ok t _ hs
    simp only [TyOk] at hd
    split at h
    · rename_i o off
      simp only [Option.some.injEq, Prod.mk.injEq] at h
      obtain ⟨rfl, rfl⟩ := h
      obtain ⟨rfl, hlt⟩ := hx.ref_inv
      refine ⟨.pointer (some ((⟨E.ρ o, off, none⟩ : Addr).add (k.toNat * ti.size))), ?_, by rw [addr_add _ _ rfl]; exact .ref hlt⟩
      simp [Instr.indexAt, asIntOf, run_underlying hd, Instr.sureAddr, hC, hT.size E.w ht]
    · simp only [Option.some.injEq, Prod.mk.injEq] at h
      obtain ⟨rfl, rfl⟩ := h
      obtain ⟨a, us, rfl, hsp, hcell, hr⟩ := hx.dptr_inv
      refine ⟨.pointer (some (a.add (k.toNat * ti.size))), ?_, .dptr _ (hr.drop _).1 (by rw [addr_add _ _ hsp]) (hcell.drop _ hsp) (hr.drop _).2⟩
      simp [Instr.indexAt, asIntOf, run_underlying hd, Instr.sureAddr, hC, hT.size E.w ht]
    · cases h
  · cases h
end

end Go.VS
