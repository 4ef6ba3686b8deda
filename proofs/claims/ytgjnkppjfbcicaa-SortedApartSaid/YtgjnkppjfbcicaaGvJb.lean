/- Slices whose rows are objects: made, appended to. -/
import Derived.Test.YtgjnkppjfbcicaaGvJ
namespace Go.VS
open Go.RowKit Go.Lib

theorem HoldsE.drew {E0 E : Env} {N : Nat} {Γ : St} {a : Act} (h : HoldsE E0 E N Γ a) : Le E { E with w := E.w.drew } ∧ HoldsE E0 { E with w := E.w.drew } N Γ a := by
  have hle : Le E { E with w := E.w.drew } := ⟨⟨Nat.le_refl _, fun _ _ => rfl, fun b o hb => ⟨hb, rfl⟩⟩, Nat.le_refl _, fun _ _ => rfl, fun _ _ => rfl⟩
  refine ⟨hle, h.ctr, ⟨h.objs.nob, fun o cs ho => ?_, h.objs.noI, h.objs.inj, h.objs.inb⟩, ⟨fun τ e he => ?_, h.toks.sep⟩, ⟨h.ext.le.trans hle, h.ext.base, h.ext.sz, h.ext.os, h.ext.tape, h.ext.output, h.ext.size, h.ext.keep, h.ext.newo, h.ext.newI⟩, h.size, h.defers, fun t => (h.tm t).le hle⟩
  · obtain ⟨us, ex, e, hb, hr, h1⟩ := h.objs.obj o cs ho
    exact ⟨us, ex, e, hb, hr.le hle, h1⟩
  · exact h.toks.own τ e he


/-- The cells of a slice, data or object. -/
def orow (hp : List (List V)) (size : Nat) : V → Option (Nat × List V)
  | .osl o off n sz _ => if sz = size then (match hp[o]? with | some cs => if off + n * sz ≤ cs.length then some (n, (cs.drop off).take (n * sz)) else none | none => none) else none
  | x => x.rowOf size

theorem orow_sound {E : Env} {hp : List (List V)} {x : V} {v : Value} {size n : Nat} {cs : List V} (ho : Objs E hp) (hx : Rel E x v) (h : orow hp size x = some (n, cs)) :
    ∃ A c us, v = .slice A n c ∧ RelL E cs us ∧ us.length = n * size ∧ (∀ u ∈ us, u.oneCell' = true) ∧ (A = none → n = 0) ∧ ∀ a, A = some a → ∀ (j : Nat) (u : Value), us[j]? = some u → E.w.cell? (a.add j) = some u := by
  have gen : x.rowOf size = some (n, cs) → ∃ A c us, v = .slice A n c ∧ RelL E cs us ∧ us.length = n * size ∧ (∀ u ∈ us, u.oneCell' = true) ∧ (A = none → n = 0) ∧ ∀ a, A = some a → ∀ (j : Nat) (u : Value), us[j]? = some u → E.w.cell? (a.add j) = some u := by
    intro h
    obtain ⟨hl, A, c, us, rfl, hc, hm, h0, hcell, hr⟩ := rowOf_inv h hx
    refine ⟨A, c, us, rfl, hr, hr.1.trans hl, fun u hu => ?_, fun hA => ?_, fun a hA j u hu => ?_⟩
    · obtain ⟨j, hj⟩ := List.getElem?_of_mem hu
      obtain ⟨_, _, _, _, _, h1⟩ := hcell j u hj
      exact h1
    · rcases Nat.eq_zero_or_pos n with h | h
      · exact h
      · obtain ⟨a, ha, _⟩ := h0 h; rw [hA] at ha; cases ha
    · obtain ⟨a', ha, hs, _, hcc, _⟩ := hcell j u hu
      rw [hA] at ha; injection ha with ha; subst ha
      rw [addr_add _ _ hs]; exact hcc
  unfold orow at h
  split at h
  · rename_i o off n' sz cap
    split at h <;> try cases h
    rename_i hsz; subst hsz
    split at h <;> try cases h
    rename_i cs0 hcs
    split at h <;> cases h
    rename_i hle
    obtain ⟨A, c, rfl, hlt, hA, hn, hm, _, _⟩ := hx.osl_inv
    obtain ⟨us, ex, e, hb, hr, h1, _⟩ := ho.obj o cs0 hcs
    refine ⟨A, c, (us.drop off).take (n * sz), rfl, (hr.drop off).take _, ?_, fun u hu => h1 u (List.mem_append_left _ (List.mem_of_mem_drop (List.mem_of_mem_take hu))), (fun h => by
      rcases Nat.eq_zero_or_pos c with h0 | h0
      · omega
      · rw [hA h0] at h; cases h), fun a ha j u hu => ?_⟩
    · have := hr.1; simp; omega
    · have hj : j < n * sz := by
        have := (List.getElem?_eq_some_iff.1 hu).1
        simp at this
        omega
      have hc0 : 0 < c := by
        rcases Nat.eq_zero_or_pos c with h0 | h0
        · have : n = 0 := by omega
          subst this; simp at hj
        · exact h0
      rw [hA hc0] at ha
      injection ha with ha; subst ha
      rw [addr_add _ _ rfl, cell_of_row E.w (E.ρ o) (off + j) (us ++ ex).toArray e (0, 0) hb]
      rw [List.getElem?_take, if_pos hj] at hu
      have hu' : us[off + j]? = some u := by simpa using hu
      simp only [List.getElem?_toArray]
      rw [List.getElem?_append_left (List.getElem?_eq_some_iff.1 hu').1]
      exact hu'
  · exact gen h

section
variable {P : Program} {T : Tab} {Q : EqTab} {G : Nat → Option (List V)} (hP : ProgOk P T Q) {E0 E : Env} {N : Nat} {Γ : St} {a : Act}
include hP

/-- A slice built, in memory. -/
theorem build_run (hsz : E0.sz = P.cellsOf) (h : HoldsE E0 E N Γ a) (hG : GlobOk G E) {t e : TypeId} {len : Nat} {parts : Array (Nat × Operand)} {n0 b0 : Nat} {z0 : List Value} {ti : TI} {cs : List V} {dst : Option Nat} {ty : TypeId} {pos : String} {after : Array Edge} {guard : Option (Nat × Bool)}
    (ht : T t = some ⟨.slice e, n0, b0, z0⟩) (hte : T e = some ti) (hpos : 0 < ti.size) (hsm : len * ti.size ≤ 16777216) (hzl : ti.zero.length = ti.size) (hz1 : ti.zero.all (·.oneCell') = true)
    (hf : vfill (fun i => some (i * ti.size, ti.size)) (vzeros ti.zero (len * ti.size)) (parts.toList.map fun p => (p.1, opv G Γ.tm p.2)) = some cs) :
    ∃ us' : Array Value, RelL E cs us'.toList ∧ (∀ u ∈ us'.toList, u.oneCell' = true) ∧ us'.size = len * ti.size ∧
      (execOp a.eval { dst := dst, op := .buildSlice t len parts, type := ty, pos := pos, after := after, guard := guard }).run P E.w = .ok (.value (.slice (some ⟨E.w.heap.size, 0, none⟩) len len)) (E.w.alloc (.cells us' e)) := by
  have hT := hP.tab
  have hev : ∀ x, Rel E (opv G Γ.tm x) (a.eval x) := rel_opv hG h.tm
  obtain ⟨hdt, _⟩ := hT.ok t _ ht
  simp only [TyOk] at hdt
  obtain ⟨z, hz, hzc, _⟩ := hT.zero E.w hte
  have hzc' : z.cells = ti.zero.toArray := toArray_toList hzc
  have hmc : (madeCells ti.zero.toArray (len * ti.size)).toList = (List.range (len * ti.size)).map fun i => ti.zero[i % ti.zero.length]! := by rw [toList_madeCells]
  obtain ⟨us', hu, hr, h1⟩ := fill_sound (E := E) (place := fun i => some (i * ti.size, ti.size)) (parts.toList.map fun p => (p.1, opv G Γ.tm p.2)) (parts.toList.map fun p => (p.1, a.eval p.2)) _ cs (madeCells ti.zero.toArray (len * ti.size))
    (by rw [hmc]; exact rel_vzeros E _ _)
    (by
      rw [hmc]
      refine one_vzeros _ _ (fun u hu => List.all_eq_true.1 hz1 u hu) ?_
      by_cases h0 : len * ti.size = 0
      · exact .inl h0
      · refine .inr (fun hz => h0 ?_)
        rw [hz] at hzl
        simp at hzl
        rw [← hzl]; simp)
    (by simp) (fun j p q hp hq => by
      rw [List.getElem?_map] at hp hq
      cases hj : parts.toList[j]? with
      | none => rw [hj] at hp; simp at hp
      | some r => rw [hj] at hp hq; simp only [Option.map_some, Option.some.injEq] at hp hq; subst hp; subst hq; exact ⟨rfl, hev _⟩) hf
  have hsz' : us'.size = len * ti.size := by
    have hl := hr.1
    have hfl : ∀ (ps : List (Nat × V)) (cells cells' : List V), vfill (fun i => some (i * ti.size, ti.size)) cells ps = some cells' → cells'.length = cells.length := by
      intro ps
      induction ps with
      | nil => intro cells cells' h; simp [vfill] at h; rw [h]
      | cons p ps ih =>
        intro cells cells' h
        obtain ⟨i, x⟩ := p
        simp only [vfill] at h
        split at h <;> try cases h
        split at h <;> try cases h
        rename_i hc
        rw [ih _ _ h]
        simp [vsplice]
        omega
    have := hfl _ _ _ hf
    simp at hl
    rw [hl, this]
    simp [vzeros]

  refine ⟨us', hr, h1, hsz', ?_⟩
  have hqs : (parts.map fun x => (x.1, a.eval x.2)).toList = parts.toList.map fun p => (p.1, a.eval p.2) := by simp
  have hmz : (if len * ti.size = 0 then #[] else z.cells) = if len * ti.size = 0 then #[] else ti.zero.toArray := by rw [hzc']
  by_cases h0 : len * ti.size = 0
  · have hu' := hu
    rw [h0] at hu'
    have e0 : madeCells ti.zero.toArray 0 = #[] := by simp [madeCells]
    rw [e0] at hu'
    simp [execOp, Instr.buildSlice, run_underlying hdt, hT.size E.w hte, h0, newRow, hqs]
    have e00 : ∀ f : Nat → Value, Array.map f (Array.range 0) = #[] := fun f => by simp
    simp [e00, hu']
  · simp only [execOp, Instr.buildSlice, Sem.run_bind, run_underlying hdt, Result.andThen_ok, hT.size E.w hte]
    rw [if_neg (by omega)]
    simp only [h0, if_false, Sem.run_bind, hz, Result.andThen_ok, Sem.run_pure, hzc', hqs]
    have : Array.map (fun x => ti.zero.toArray[x % ti.zero.toArray.size]!) (Array.range (len * ti.size)) = madeCells ti.zero.toArray (len * ti.size) := rfl
    simp only [this, hu, newRow, Sem.run_bind, run_newObj_alloc, Result.andThen_ok, Sem.run_pure]

end

def nilSlice : V → Bool
  | .sc (.slice none 0 0) => true
  | _ => false

/-- append to an object's slice, or to nil. -/
def appOut (Γ : St) (dst : Option Nat) (sv : V) (m : Nat) (ds : List V) (size bytes : Nat) (K : St → Prop) : Prop :=
  match sv with
  | .osl o off n sz cap => match Γ.hp[o]? with
    | some cs => sz = size ∧ off + n * sz ≤ cs.length ∧ (m = 0 → K (Γ.put dst sv)) ∧ (m ≠ 0 → n + m ≤ 9223372036854775807 ∧ (n + m) * bytes ≤ 140737488355328 ∧
        ((∀ c, cap = some c → n + m ≤ c) → K (({ Γ with hp := Γ.hp.set o (vsplice cs (off + n * sz) ds) } : St).put dst (.osl o off (n + m) sz cap))) ∧
        ((∀ c, cap = some c → c < n + m) → K (({ Γ with hp := Γ.hp ++ [(cs.drop off).take (n * sz) ++ ds] } : St).put dst (.osl Γ.hp.length 0 (n + m) sz none))))
    | none => False
  | sv => nilSlice sv = true ∧ (m = 0 → K (Γ.put dst sv)) ∧ (m ≠ 0 → m ≤ 9223372036854775807 ∧ m * bytes ≤ 140737488355328 ∧ K (({ Γ with hp := Γ.hp ++ [ds] } : St).put dst (.osl Γ.hp.length 0 m size none)))

/-- Slices whose rows are objects: built, made, appended to. -/
def mutG (X : Ctx) (o : Oper) (Γ : St) (K : St → Prop) : Prop :=
  match o.op with
  | .buildSlice t len parts => (match X.T t with
    | some ⟨.slice e, _, _, _⟩ => (match X.T e with
      | some ti => len * ti.size ≤ 16777216 ∧ 0 < ti.size ∧ ti.zero.length = ti.size ∧ ti.zero.all (·.oneCell') = true ∧
          (match vfill (fun i => some (i * ti.size, ti.size)) (vzeros ti.zero (len * ti.size)) (parts.toList.map fun p => (p.1, opv X.G Γ.tm p.2)) with
          | some cs => K (({ Γ with hp := Γ.hp ++ [cs] } : St).put o.dst (.osl Γ.hp.length 0 len ti.size (some len)))
          | none => False)
      | none => False)
    | _ => False)
  | .makeSlice t l c => (match X.T t, opv X.G Γ.tm l, opv X.G Γ.tm c with
    | some ⟨.slice e, _, _, _⟩, .sc (.int _ lk), .sc (.int _ ck) => (match X.T e with
      | some ti => 0 < ti.size ∧ ti.zero.length = ti.size ∧ ti.zero.all (·.oneCell') = true ∧ 0 ≤ lk ∧ lk ≤ ck ∧ ti.bytes * ck ≤ 281474976710656 ∧ ck ≤ 9223372036854775807 ∧
          K (({ Γ with hp := Γ.hp ++ [vzeros ti.zero (ck.toNat * ti.size)] } : St).put o.dst (.osl Γ.hp.length 0 lk.toNat ti.size (some ck.toNat)))
      | none => False)
    | _, _, _ => False)
  | .call c => (match c.callee, c.args.toList, c.argTypes.toList with
    | .builtin .append, [s, x], [t, u] => (match X.T t with
      | some ⟨.slice e, _, _, _⟩ => (match X.T e with
        | some ti => u = t ∧ 0 < ti.size ∧ ti.zero.length = ti.size ∧ ti.zero.all (·.oneCell') = true ∧ (match orow Γ.hp ti.size (opv X.G Γ.tm x) with
          | some (m, ds) => appOut Γ o.dst (opv X.G Γ.tm s) m ds ti.size ti.bytes K
          | none => False)
        | none => False)
      | _ => False)
    | _, _, _ => False)
  | _ => False

section
variable {X : Ctx} (hP : ProgOk X.P X.T X.Q) {E0 : Env} {N : Nat} (hsz : E0.sz = X.P.cellsOf)
include hP hsz

def RanK (X : Ctx) (E0 : Env) (N : Nat) (o : Oper) (a : Act) (w : World) (K : St → Prop) : Prop :=
  ∃ v w' Γ', (execOp a.eval o).run X.P w = .ok (.value v) w' ∧ K Γ' ∧ HoldsG X.G E0 N Γ' (a.put o.dst v) w'

theorem mut_sound {Γ : St} {a : Act} {E : Env} {o : Oper} {K : St → Prop} (h : HoldsE E0 E N Γ a) (hG : GlobOk X.G E) (hd : ∀ k, o.dst = some k → k < N) (hs : mutG X o Γ K) : RanK X E0 N o a E.w K := by
  have hT := hP.tab
  have hev : ∀ x, Rel E (opv X.G Γ.tm x) (a.eval x) := rel_opv hG h.tm
  have hszE : E.sz = X.P.cellsOf := h.ext.sz.trans hsz
  obtain ⟨dst, op, ty, pos, after, guard⟩ := o
  cases op <;> simp only [mutG] at hs <;> try exact hs.elim
  case buildSlice t len parts =>
    split at hs <;> try exact hs.elim
    rename_i e n0 b0 z0 ht
    split at hs <;> try exact hs.elim
    rename_i ti hte
    obtain ⟨hsm, hpos, hzl, hz1, hs⟩ := hs
    split at hs <;> try exact hs.elim
    rename_i cs hf
    obtain ⟨us', hr, h1, hl, hrun⟩ := build_run (dst := dst) (ty := ty) (pos := pos) (after := after) (guard := guard) hP hsz h hG ht hte hpos hsm hzl hz1 hf
    obtain ⟨E', hw, hρ, hcp, hle, hh, _⟩ := h.objX (ex := []) e hr (by simpa using h1)
    simp only [List.append_nil] at hw hcp
    refine ⟨_, E'.w, _, by rw [hrun, hw], hs, E', rfl, hh.put hd ?_, hG.le hle⟩
    rw [← hρ]
    have hlm : len ≤ len * ti.size := Nat.le_mul_of_pos_right _ hpos
    have hx := Rel.osl (E := E') (o := Γ.hp.length) (off := 0) (n := len) (sz := ti.size) (cap := some len) len (by rw [hh.objs.nob]; simp) (fun _ => rfl) (Nat.le_refl _) (by simp only [maxLen]; omega) (fun k e => by injection e)
      (by rw [hcp]; have : us'.toList.length = len * ti.size := by simpa using hl
          rw [this]; omega)
    exact hx
  case makeSlice t l c =>
    split at hs <;> try exact hs.elim
    rename_i e n0 b0 z0 kl lk kc ck ht hl hc
    split at hs <;> try exact hs.elim
    rename_i ti hte
    obtain ⟨hpos, hzl, hz1, c0, c1, c2, c3, hs⟩ := hs
    obtain ⟨hdt, _⟩ := hT.ok t _ ht
    simp only [TyOk] at hdt
    have hlv := hev l
    rw [hl] at hlv
    have hlv' := hlv.sc_inv
    have hcv := hev c
    rw [hc] at hcv
    have hcv' := hcv.sc_inv
    obtain ⟨_, i, zz, hi, hs1, hb1, hz1', hzc, _⟩ := hT.ok e _ hte
    have hzc' : zz.cells = ti.zero.toArray := toArray_toList hzc
    have hrun := run_make (P := X.P) E.w t e i zz hdt hi hz1' kl kc lk ck c0 c1 (by rw [hb1]; exact c2) c3
    rw [hzc', hs1] at hrun
    have hckm : ck.toNat ≤ maxLen := by simp only [maxLen]; omega
    have hmc : madeCells ti.zero.toArray (ck.toNat * ti.size) = ((List.range (ck.toNat * ti.size)).map fun i => ti.zero[i % ti.zero.length]!).toArray := by
      apply Array.toList_inj.1
      rw [toList_madeCells]
    obtain ⟨E', hw, hρ, hcp, hle, hh, _⟩ := h.objX (ex := []) e (rel_vzeros E ti.zero (ck.toNat * ti.size)) (by
      rw [List.append_nil]
      exact one_vzeros _ _ (fun u hu => List.all_eq_true.1 hz1 u hu) (.inr (fun hz => by rw [hz] at hzl; simp at hzl; omega)))
    simp only [List.append_nil] at hw hcp
    rw [← hmc] at hw
    refine ⟨_, E'.w, _, ?_, hs, E', rfl, hh.put hd (?_ : Rel E' _ (.slice (some ⟨E.w.heap.size, 0, none⟩) lk.toNat ck.toNat)), hG.le hle⟩
    · rw [hw]
      simp [execOp, hlv', hcv', hrun]
    · rw [← hρ]
      exact Rel.osl (E := E') (cap := some ck.toNat) ck.toNat (by rw [hh.objs.nob]; simp) (fun _ => rfl) (by omega) hckm (fun k e => by injection e) (by rw [hcp]; simp)
  case call c =>
    obtain ⟨callee, ⟨args⟩, ⟨argTypes⟩⟩ := c
    dsimp only at hs
    split at hs <;> try exact hs.elim
    rename_i s x t u
    split at hs <;> try exact hs.elim
    rename_i e n0 b0 z0 ht
    split at hs <;> try exact hs.elim
    rename_i ti hte
    obtain ⟨rfl, hpos, hzl, hz1, hs⟩ := hs
    split at hs <;> try exact hs.elim
    rename_i m ds hrow
    obtain ⟨hdt, _⟩ := hT.ok u _ ht
    simp only [TyOk] at hdt
    obtain ⟨hde, i, zz, hi, hs1, hb1, hz1', hzc, _⟩ := hT.ok e _ hte
    have hzc' : zz.cells = ti.zero.toArray := toArray_toList hzc
    obtain ⟨A, cx, us, hx, hrus, hlus, h1us, hA0, hAc⟩ := orow_sound h.objs (hev x) hrow
    have hexec : ∀ {v' : Value} {w' : World}, (Builtin.append_ #[u, u] ty #[a.eval s, a.eval x]).run X.P E.w = .ok v' w' →
        (execOp a.eval { dst := dst, op := .call { callee := .builtin .append, args := ⟨[s, x]⟩, argTypes := ⟨[u, u]⟩ }, type := ty, pos := pos, after := after, guard := guard }).run X.P E.w = .ok (.value v') w' := by
      intro v' w' hr
      simp only [execOp, resolve, invoke, builtin, Sem.run_bind, Sem.run_pure, Result.andThen_ok, List.map_toArray, List.map_cons, List.map_nil, hr]
    have hzcell : ∀ k, ∀ u ∈ (Builtin.zeroCells zz.cells k).toList, u.oneCell' = true := by
      intro k u hu
      simp only [Builtin.zeroCells, hzc', Array.toList_map, List.mem_map] at hu
      obtain ⟨j, hj, rfl⟩ := hu
      have hne : 0 < ti.zero.length := by omega
      have hlt : j % ti.zero.length < ti.zero.length := Nat.mod_lt _ hne
      have : ti.zero.toArray[j % ti.zero.toArray.size]! = ti.zero[j % ti.zero.length]'hlt := by
        simp [hlt]
      rw [this]
      exact List.all_eq_true.1 hz1 _ (List.getElem_mem hlt)
    have hzlen : ∀ k, (Builtin.zeroCells zz.cells k).toList.length = k * ti.size := by
      intro k
      have := size_zeroCells zz.cells k
      rw [hzc'] at this
      simp only [List.size_toArray, hzl] at this
      rw [Array.length_toList, hzc', this]
    -- a new block
    have moved : ∀ (n old : Nat) (olds : List Value) (cs : List V), RelL E cs olds → (∀ u ∈ olds, u.oneCell' = true) → olds.length = n * ti.size → old < n + m → n + m ≤ 9223372036854775807 →
        (Builtin.append_ #[u, u] ty #[a.eval s, a.eval x]).run X.P E.w = .ok (.slice (some ⟨E.w.heap.size, 0, none⟩) (n + m) (grownCap E.w (n + m) old e)) (E.w.drew.alloc (.cells (olds.toArray ++ us.toArray ++ Builtin.zeroCells zz.cells (grownCap E.w (n + m) old e - (n + m))) e)) →
        K (({ Γ with hp := Γ.hp ++ [cs ++ ds] } : St).put dst (.osl Γ.hp.length 0 (n + m) ti.size none)) →
        RanK X E0 N { dst := dst, op := .call { callee := .builtin .append, args := ⟨[s, x]⟩, argTypes := ⟨[u, u]⟩ }, type := ty, pos := pos, after := after, guard := guard } a E.w K := by
      intro n old olds cs hro h1o hlo hlt h63 hrun hK
      obtain ⟨hle0, hh0⟩ := h.drew
      obtain ⟨E', hw, hρ, hcp, hle, hh, _⟩ := hh0.objX (ex := (Builtin.zeroCells zz.cells (grownCap E.w (n + m) old e - (n + m))).toList) e ((hro.append hrus).le hle0) (fun u hu => by
        simp only [List.mem_append] at hu
        rcases hu with (hu | hu) | hu
        · exact h1o u hu
        · exact h1us u hu
        · exact hzcell _ u hu)
      have hcap := grownCap_ge E.w (n + m) old e
      have hcm := grownCap_le_maxLen E.w (n + m) old e (by simp only [maxLen]; omega)
      refine ⟨.slice (some ⟨E.w.heap.size, 0, none⟩) (n + m) (grownCap E.w (n + m) old e), E'.w, _, hexec (hrun.trans ?_), hK, E', rfl, hh.put hd ?_, (hG.le hle0).le hle⟩
      · rw [hw]
        congr 3
        apply Array.toList_inj.1
        simp
      · have hρ' : E'.ρ Γ.hp.length = E.w.heap.size := hρ
        rw [← hρ']
        refine Rel.osl (E := E') (cap := none) _ (by rw [hh.objs.nob]; simp) (fun _ => rfl) hcap hcm (fun k e => by cases e) ?_
        rw [hcp]
        simp only [List.length_append, hzlen, hlo, hlus, Nat.zero_add]
        rw [← Nat.add_mul, ← Nat.add_mul]
        have : n + m + (grownCap E.w (n + m) old e - (n + m)) = grownCap E.w (n + m) old e := by omega
        rw [this]
        exact Nat.le_refl _
    unfold appOut at hs
    split at hs
    · rename_i o off n sz cap hsv
      split at hs <;> try exact hs.elim
      rename_i cs hcs
      obtain ⟨hsze, hoff, hk0, hk1⟩ := hs
      subst hsze
      have hxs := hev s
      rw [hsv] at hxs
      have hxs0 := hxs
      obtain ⟨A0, c, hsv', hlt, hA, hn, hm', hcap, hroom⟩ := hxs.osl_inv
      obtain ⟨olds, ex, e1, hb, hro, h1o, hlo⟩ := h.objs.obj o cs hcs
      by_cases hm0 : m = 0
      · subst hm0
        have hus : us = [] := List.eq_nil_of_length_eq_zero (by rw [hlus]; simp)
        refine ⟨a.eval s, E.w, _, hexec ?_, hk0 rfl, E, rfl, h.put hd (by rw [hsv]; exact hev s |> fun hh => by rw [hsv] at hh; exact hh), hG⟩
        rw [hsv', hx]
        have hf : (Builtin.firstCells i.size 0 (.slice A 0 cx)).run X.P E.w = .ok #[] E.w := by
          cases A with
          | none => simp [Builtin.firstCells]
          | some b => have := run_firstCells_some (P := X.P) E.w i.size 0 b 0 cx [] (by simp) (by simp); simpa using this
        cases A0 <;> simp [Builtin.append_, run_underlying hdt, sizeOf, typeInfo, hi, Builtin.lenOf, hn, hf, storeCells]
      · obtain ⟨h63, hby, hin, hmv⟩ := hk1 hm0
        obtain ⟨b, rfl⟩ : ∃ b, A = some b := by
          cases A with
          | none => exact absurd (hA0 rfl) hm0
          | some b => exact ⟨b, rfl⟩
        by_cases hroomc : n + m ≤ c
        · have hk := hin (fun c' e => by rw [← hcap c' e]; exact hroomc)
          have hrl := hrus.1
          have hmul : n * ti.size + m * ti.size ≤ c * ti.size := by rw [← Nat.add_mul]; exact Nat.mul_le_mul_right _ hroomc
          obtain ⟨E', hst, hle, hh⟩ := h.stored (off := off + n * ti.size) hcs hrus h1us hoff (by rw [← hrl, hlus]; omega) X.P
          have hA' := hA (by omega)
          refine ⟨.slice (some ⟨E.ρ o, off, none⟩) (n + m) c, E'.w, _, hexec ?_, hk, E', rfl, hh.put hd ?_, hG.le hle⟩
          · rw [hsv', hx, hA']
            have hf := run_firstCells_some (P := X.P) E.w i.size m b m cx us (by rw [hs1]; exact hlus) (hAc b rfl)
            have hadd : (⟨E.ρ o, off, none⟩ : Addr).add (n * i.size) = ⟨E.ρ o, off + n * ti.size, none⟩ := by rw [addr_add _ _ rfl, hs1]
            simp [Builtin.append_, run_underlying hdt, sizeOf, typeInfo, hi, Builtin.lenOf, hroomc, hf, hadd, hst]
          · have hx2 := Rel.osl (E := E) (off := off) (n := n + m) (sz := ti.size) (cap := cap) c hlt (fun _ => rfl) hroomc hm' hcap hroom
            exact hx2.le hle
        · have hk := hmv (fun c' e => by rw [← hcap c' e]; omega)
          refine moved n c ((olds.drop off).take (n * ti.size)) ((cs.drop off).take (n * ti.size)) ((hro.drop off).take _) (fun u hu => h1o u (List.mem_append_left _ (List.mem_of_mem_drop (List.mem_of_mem_take hu)))) (by have := hro.1; simp; omega) (by omega) h63 ?_ hk
          rw [hsv', hx]
          rcases Nat.eq_zero_or_pos c with hc0 | hc0
          · subst hc0
            have hn0 : n = 0 := by omega
            subst hn0
            have hby' : m * i.bytes ≤ 140737488355328 := by rw [hb1]; simpa using hby
            cases A0 with
            | none =>
              have := run_append_nil (P := X.P) E.w u ty e i zz hdt hi hz1' b m cx us (by rw [hs1]; exact hlus) (hAc b rfl) (by omega) (by omega) (by omega)
              simpa using this
            | some b0 =>
              exact run_append_grow (P := X.P) E.w u ty e i zz hdt hi hz1' b0 0 0 _ (by simp) (fun j v hj => by simp at hj) b m cx us (by rw [hs1]; exact hlus) (hAc b rfl) (by omega) (by omega) (growslice_fits (by omega) (by rw [hb1]; exact hby))
          rw [hA hc0]
          exact run_append_grow (P := X.P) E.w u ty e i zz hdt hi hz1' ⟨E.ρ o, off, none⟩ n c ((olds.drop off).take (n * ti.size)) (by have := hro.1; rw [hs1]; simp; omega) (fun j v hj => by
            rw [addr_add _ _ rfl, cell_of_row E.w (E.ρ o) (off + j) (olds ++ ex).toArray e1 (0, 0) hb]
            rw [List.getElem?_take] at hj
            split at hj
            · have hu' : olds[off + j]? = some v := by simpa using hj
              simp only [List.getElem?_toArray]
              rw [List.getElem?_append_left (List.getElem?_eq_some_iff.1 hu').1]
              exact hu'
            · cases hj) b m cx us (by rw [hs1]; exact hlus) (hAc b rfl) (by omega) (by omega) (growslice_fits (by omega) (by rw [hb1]; exact hby))
    · rename_i sv hsv
      obtain ⟨hnil, hk0, hk1⟩ := hs
      have hxs := hev s
      have hsv' : a.eval s = .slice none 0 0 := by
        unfold nilSlice at hnil
        split at hnil
        · rename_i heq; rw [heq] at hxs; exact hxs.sc_inv
        · cases hnil
      by_cases hm0 : m = 0
      · subst hm0
        have hus : us = [] := List.eq_nil_of_length_eq_zero (by rw [hlus]; simp)
        refine ⟨a.eval s, E.w, _, hexec ?_, hk0 rfl, E, rfl, h.put hd hxs, hG⟩
        rw [hsv', hx]
        have hf : (Builtin.firstCells i.size 0 (.slice A 0 cx)).run X.P E.w = .ok #[] E.w := by
          cases A with
          | none => simp [Builtin.firstCells]
          | some b => have := run_firstCells_some (P := X.P) E.w i.size 0 b 0 cx [] (by simp) (by simp); simpa using this
        simp [Builtin.append_, run_underlying hdt, sizeOf, typeInfo, hi, Builtin.lenOf, hf, storeCells]
      · obtain ⟨h63, hby, hk⟩ := hk1 hm0
        obtain ⟨b, rfl⟩ : ∃ b, A = some b := by
          cases A with
          | none => exact absurd (hA0 rfl) hm0
          | some b => exact ⟨b, rfl⟩
        have hmm := moved 0 0 [] [] RelL.nil (by simp) (by simp) (by omega) (by omega)
        simp only [Nat.zero_add, List.nil_append] at hmm
        refine hmm ?_ hk
        rw [hsv', hx]
        have := run_append_nil (P := X.P) E.w u ty e i zz hdt hi hz1' b m cx us (by rw [hs1]; exact hlus) (hAc b rfl) (by omega) (by omega) (by rw [hb1]; omega)
        simpa using this
end
end Go.VS
