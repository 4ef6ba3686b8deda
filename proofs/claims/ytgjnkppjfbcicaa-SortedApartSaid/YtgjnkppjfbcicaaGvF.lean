/- A value's cells; parts put together; all operations that only read, under one name. -/
import Derived.Test.YtgjnkppjfbcicaaGvE
namespace Go.VS

def vcells : V → Option (List V)
  | .agg cs => some cs
  | .sc v => if v.oneCell' then some [.sc v] else none
  | .any => none
  | .tup _ => none
  | x => some [x]

theorem rel_vcells {E : Env} {x : V} {v : Value} {cs : List V} (h : Rel E x v) (hc : vcells x = some cs) : RelL E cs v.cells.toList ∧ ∀ u ∈ v.cells.toList, u.oneCell' = true := by
  have one : ∀ {u : Value}, Rel E x u → u.oneCell' = true → u.cells = #[u] := fun {u} _ h1 => by cases u <;> first | rfl | simp [Value.oneCell'] at h1
  cases h with
  | any v => simp [vcells] at hc
  | tup us hl hR => simp [vcells] at hc
  | sc v =>
    unfold vcells at hc
    split at hc <;> simp at hc
    · rename_i e; injection e
    · rename_i u e
      injection e with e; subst e
      obtain ⟨h1, rfl⟩ := hc
      rw [one (.sc v) h1]
      exact ⟨.cons (.sc v) .nil, by simpa using h1⟩
    all_goals simp_all
  | agg us hl h1 hR =>
    simp only [vcells, Option.some.injEq] at hc
    subst hc
    exact ⟨by simpa [Value.cells] using ⟨hl, hR⟩, by simpa [Value.cells] using h1⟩
  | data us hl hzz hcc hm h0 hcell hR ht =>
    simp only [vcells, Option.some.injEq] at hc
    subst hc
    exact ⟨.cons (.data us hl hzz hcc hm h0 hcell hR ht) .nil, by simp [Value.cells, Value.oneCell']⟩
  | dptr us hl hs hcell hR =>
    simp only [vcells, Option.some.injEq] at hc
    subst hc
    exact ⟨.cons (.dptr us hl hs hcell hR) .nil, by simp [Value.cells, Value.oneCell']⟩
  | ref ho =>
    simp only [vcells, Option.some.injEq] at hc
    subst hc
    exact ⟨.cons (.ref ho) .nil, by simp [Value.cells, Value.oneCell']⟩
  | osl c ho hA hn hm hk hs =>
    simp only [vcells, Option.some.injEq] at hc
    subst hc
    exact ⟨.cons (.osl c ho hA hn hm hk hs) .nil, by simp [Value.cells, Value.oneCell']⟩
  | clo us hl hR =>
    simp only [vcells, Option.some.injEq] at hc
    subst hc
    exact ⟨.cons (.clo us hl hR) .nil, by simp [Value.cells, Value.oneCell']⟩

/-- Cells with others laid over some of them. -/
def vsplice (cells : List V) (off : Nat) (cs : List V) : List V := cells.take off ++ cs ++ cells.drop (off + cs.length)

def vfill (place : Nat → Option (Nat × Nat)) (cells : List V) : List (Nat × V) → Option (List V)
  | [] => some cells
  | (i, x) :: rest => match place i, vcells x with
    | some (off, size), some cs => if cs.length = size ∧ off + cs.length ≤ cells.length then vfill place (vsplice cells off cs) rest else none
    | _, _ => none

theorem foldl_set (off : Nat) : ∀ (l : List Value) (k : Nat) (cells : Array Value), off + k + l.length ≤ cells.size →
    ((l.zipIdx k).foldl (fun cs (x : Value × Nat) => cs.setIfInBounds (off + x.2) x.1) cells).toList = cells.toList.take (off + k) ++ l ++ cells.toList.drop (off + k + l.length)
  | [], k, cells, _ => by simp
  | u :: l, k, cells, h => by
    simp only [List.zipIdx_cons, List.foldl_cons]
    rw [foldl_set off l (k + 1) _ (by simp at h ⊢; omega)]
    simp only [List.length_cons] at h
    have hlt : off + k < cells.toList.length := by simp; omega
    simp only [Array.toList_setIfInBounds]
    rw [show off + (k + 1) = (off + k) + 1 from by omega, List.take_succ_eq_append_getElem (by simpa using hlt), List.getElem_set_self, List.take_set_of_le (Nat.le_refl _)]
    rw [List.drop_set_of_lt (by omega)]
    simp only [List.append_assoc, List.singleton_append, List.cons_append, List.length_cons, List.nil_append]
    congr 3
    congr 1
    omega

theorem RelL.splice {E : Env} {cells cs : List V} {us vs : List Value} (h : RelL E cells us) (k : RelL E cs vs) (off : Nat) : RelL E (vsplice cells off cs) (us.take off ++ vs ++ us.drop (off + vs.length)) := by
  unfold vsplice
  rw [k.1]
  exact ((h.take off).append k).append (h.drop _)

theorem fill_sound {E : Env} {place : Nat → Option (Nat × Nat)} : ∀ (ps : List (Nat × V)) (qs : List (Nat × Value)) (cells cells' : List V) (us : Array Value), RelL E cells us.toList → (∀ u ∈ us.toList, u.oneCell' = true) →
    ps.length = qs.length → (∀ (j : Nat) (p : Nat × V) (q : Nat × Value), ps[j]? = some p → qs[j]? = some q → p.1 = q.1 ∧ Rel E p.2 q.2) → vfill place cells ps = some cells' →
    ∃ us', Instr.fill place us qs = some us' ∧ RelL E cells' us'.toList ∧ ∀ u ∈ us'.toList, u.oneCell' = true
  | [], qs, cells, cells', us, hr, h1, hl, _, h => by
    cases qs with
    | nil => simp [vfill] at h; subst h; exact ⟨us, rfl, hr, h1⟩
    | cons q qs => simp at hl
  | (i, x) :: ps, qs, cells, cells', us, hr, h1, hl, hp, h => by
    cases qs with
    | nil => simp at hl
    | cons q qs =>
    obtain ⟨i', v⟩ := q
    obtain ⟨e, hx⟩ := hp 0 _ _ rfl rfl
    simp only at e hx
    subst e
    simp only [vfill] at h
    split at h <;> try cases h
    rename_i off size cs hpl hcs
    split at h <;> try cases h
    rename_i hsz
    obtain ⟨hrc, hc1⟩ := rel_vcells hx hcs
    have hvl : v.cells.size = size := by have := hrc.1; simp at this; omega
    have hus : us.size = cells.length := by have := hr.1; simpa using this
    have hfit : off + v.cells.size ≤ us.size := by rw [hus, hvl, ← hsz.1]; exact hsz.2
    have hfold : (v.cells.zipIdx.foldl (fun cs (x : Value × Nat) => cs.setIfInBounds (off + x.2) x.1) us).toList = us.toList.take off ++ v.cells.toList ++ us.toList.drop (off + v.cells.toList.length) := by
      have := foldl_set off v.cells.toList 0 us (by simpa using hfit)
      simp only [Nat.add_zero] at this
      rw [← this, ← Array.foldl_toList, Array.toList_zipIdx]
    obtain ⟨us', hf, hr', h1'⟩ := fill_sound ps qs (vsplice cells off cs) cells' (v.cells.zipIdx.foldl (fun cs (x : Value × Nat) => cs.setIfInBounds (off + x.2) x.1) us)
      (by rw [hfold]; exact hr.splice hrc off)
      (by
        rw [hfold]
        intro u hu
        simp only [List.mem_append] at hu
        rcases hu with (hu | hu) | hu
        · exact h1 u (List.mem_of_mem_take hu)
        · exact hc1 u hu
        · exact h1 u (List.mem_of_mem_drop hu))
      (by simpa using hl) (fun j p q hp' hq' => hp (j + 1) p q (by simpa using hp') (by simpa using hq')) h
    refine ⟨us', ?_, hr', h1'⟩
    simp only [Instr.fill, hpl]
    rw [if_neg (by simp; omega)]
    exact hf

def vplaces (T : Tab) : List (Nat × TypeId) → Option (List (Nat × Nat))
  | [] => some []
  | (off, t) :: r => match T t, vplaces T r with
    | some ti, some ps => some ((off, ti.size) :: ps)
    | _, _ => none

/-- A struct or an array out of its parts. -/
def vbuild (T : Tab) (t : TypeId) (parts : List (Nat × V)) : Option V :=
  match T t with
  | some ⟨.struct fs, _, _, z⟩ => match vplaces T fs with
    | some ps => if z.all (·.oneCell') then (vfill (fun (i : Nat) => (ps : List (Nat × Nat))[i]?) (z.map .sc) parts).map .agg else none
    | none => none
  | some ⟨.array _ e, _, _, z⟩ => match T e with
    | some ti => if z.all (·.oneCell') then (vfill (fun i => some (i * ti.size, ti.size)) (z.map .sc) parts).map .agg else none
    | none => none
  | _ => none

theorem RelL.consts (E : Env) (l : List Value) : RelL E (l.map .sc) l := ⟨by simp, fun j x u hx hu => by
  rw [List.getElem?_map, hu] at hx
  simp at hx
  subst hx
  exact .sc u⟩

theorem places_run {P : Program} {T : Tab} (hT : TabOk P T) (w : World) : ∀ (F : List Field) (ps : List (Nat × Nat)), vplaces T (F.map fun f => (f.offset, f.type)) = some ps →
    (F.mapM fun f => (do pure (f.offset, ← sizeOf f.type) : Sem (Nat × Nat))).run P w = .ok ps w
  | [], ps, h => by simp [vplaces] at h; subst h; simp
  | f :: F, ps, h => by
    simp only [List.map_cons, vplaces] at h
    split at h <;> cases h
    rename_i ti ps' ht hps
    have ih := places_run hT w F ps' hps
    simp only [List.mapM_cons, Sem.run_bind, hT.size w ht, Result.andThen_ok, Sem.run_pure]
    rw [ih]
    simp

theorem build_sound {P : Program} {T : Tab} (hT : TabOk P T) {E : Env} {t : TypeId} {ps : List (Nat × V)} {qs : List (Nat × Value)} {y : V} (hl : ps.length = qs.length)
    (hp : ∀ (j : Nat) (p : Nat × V) (q : Nat × Value), ps[j]? = some p → qs[j]? = some q → p.1 = q.1 ∧ Rel E p.2 q.2) (h : vbuild T t ps = some y) :
    ∃ u, (Instr.build t qs.toArray).run P E.w = .ok u E.w ∧ Rel E y u := by
  unfold vbuild at h
  split at h <;> try cases h
  · rename_i fs n0 b0 z ht
    obtain ⟨⟨F, hF, hm⟩, _⟩ := hT.ok t _ ht
    obtain ⟨zv, hz, hzc, _⟩ := hT.zero E.w ht
    split at h <;> try cases h
    rename_i pl hpl
    split at h <;> try cases h
    rename_i h1
    simp only [Option.map_eq_some_iff] at h
    obtain ⟨cells', hf, rfl⟩ := h
    obtain ⟨us', hu, hr, h1'⟩ := fill_sound ps qs (z.map .sc) cells' zv.cells (by rw [hzc]; exact RelL.consts E z) (by rw [hzc]; exact fun u hu => List.all_eq_true.1 h1 u hu) hl hp hf
    refine ⟨.agg us', ?_, by have := hr.agg h1'; simpa using this⟩
    have hm' := places_run hT E.w F.toList pl (by rw [hm]; exact hpl)
    have hpm : (F.mapM fun f => (do pure (f.offset, ← sizeOf f.type) : Sem (Nat × Nat))).run P E.w = .ok pl.toArray E.w := by
      rw [Array.mapM_eq_mapM_toList]
      simp only [Sem.run_map, hm', Result.andThen_ok]
    simp only [Instr.build, Sem.run_bind, hz, Result.andThen_ok, run_underlying hF, hpm]
    have : (fun (i : Nat) => pl.toArray[i]?) = (fun (i : Nat) => pl[i]?) := by funext i; simp
    simp only [this, List.toList_toArray, hu, Sem.run_pure]
  · rename_i n e n0 b0 z ht
    obtain ⟨hd, _⟩ := hT.ok t _ ht
    simp only [TyOk] at hd
    obtain ⟨zv, hz, hzc, _⟩ := hT.zero E.w ht
    split at h <;> try cases h
    rename_i ti hte
    split at h <;> try cases h
    rename_i h1
    simp only [Option.map_eq_some_iff] at h
    obtain ⟨cells', hf, rfl⟩ := h
    obtain ⟨us', hu, hr, h1'⟩ := fill_sound ps qs (z.map .sc) cells' zv.cells (by rw [hzc]; exact RelL.consts E z) (by rw [hzc]; exact fun u hu => List.all_eq_true.1 h1 u hu) hl hp hf
    refine ⟨.agg us', ?_, by have := hr.agg h1'; simpa using this⟩
    simp only [Instr.build, Sem.run_bind, hz, Result.andThen_ok, run_underlying hd, hT.size E.w hte, List.toList_toArray, hu, Sem.run_pure]

def V.isPtr : V → Bool
  | .ref _ _ | .dptr _ | .clo _ _ => true
  | _ => false

/-- Builtins that only read. -/
def vbuiltin (T : Tab) (ev : Operand → V) : Callee → List Operand → List TypeId → Option (Prop × V)
  | .builtin .len, [x], [t] => (match vlen T t (ev x) with | some y => some (True, y) | none => none)
  | .builtin .min, [x, y], _ => (match ev x, ev y with | .sc (.int k a), .sc (.int _ b) => some (True, .sc (.int k (if b < a then b else a))) | _, _ => none)
  | .builtin .max, [x, y], _ => (match ev x, ev y with | .sc (.int k a), .sc (.int _ b) => some (True, .sc (.int k (if a < b then b else a))) | _, _ => none)
  | _, _, _ => none

/-- What an operation that only reads yields, and under which condition. -/
def vval (T : Tab) (Q : EqTab) (hp : List (List V)) (ev : Operand → V) : Op → Option (Prop × V)
  | .move x => some (True, ev x)
  | .assign x => some (True, ev x)
  | .pick c a b => (match ev c with | .sc (.bool t) => some (True, if t then ev a else ev b) | _ => none)
  | .load t a => (match vload T hp t (ev a) with | some y => some (True, y) | none => none)
  | .nilCheck x => if (ev x).isPtr then some (True, ev x) else none
  | .binOp op t x y _ => vbin T Q op t (ev x) (ev y)
  | .unOp op _ x => (match vunary op (ev x) with | some y => some (True, y) | none => none)
  | .convert s d x => (match vconv T s d (ev x) with | some y => some (True, y) | none => none)
  | .slice t x lo hi mx => (match ev x with | .osl o off n sz cap => vosl T t (.osl o off n sz cap) (lo.map ev) (hi.map ev) (mx.map ev) | y => match mx with | none => vslice T t y (lo.map ev) (hi.map ev) | some _ => none)
  | .fieldAddr s x f => (match vfieldAddr T s f (ev x) with | some y => some (True, y) | none => none)
  | .field s x f => (match vfield T s f (ev x) with | some y => some (True, y) | none => none)
  | .indexAddr t x i => vindexAddr T t (ev x) (ev i)
  | .index t x i => vindex T t (ev x) (ev i)
  | .makeFunc fn first caps => (match fn, first.toList with | .func f, [] => some (True, .clo f (caps.toList.map ev)) | _, _ => none)
  | .extract x i => (match ev x with | .tup vs => (match vs[i]? with | some y => some (True, y) | none => none) | _ => none)
  | .build t parts => (match vbuild T t (parts.toList.map fun p => (p.1, ev p.2)) with | some y => some (True, y) | none => none)
  | .call c => vbuiltin T ev c.callee c.args.toList c.argTypes.toList
  | _ => none

theorem nilCheck_sound {P : Program} {E : Env} {x : V} {ρ : Operand → Value} {o : Operand} {dst : Option Tmp} {ty : TypeId} {pos : String} {after : Array Edge} {guard : Option (Nat × Bool)} (hx : Rel E x (ρ o)) (h : x.isPtr = true) :
    (execOp ρ { dst, op := .nilCheck o, type := ty, pos, after, guard }).run P E.w = .ok (.value (ρ o)) E.w := by
  simp only [execOp]
  generalize ρ o = v at hx
  cases hx <;> simp [V.isPtr] at h <;> rfl

theorem vval_sound {P : Program} {T : Tab} {Q : EqTab} (hT : TabOk P T) (hQ : EqOk P Q) {E : Env} {hp : List (List V)} (ho : Objs E hp) {ev : Operand → V} {ρ : Operand → Value} (hev : ∀ x, Rel E (ev x) (ρ x))
    {o : Oper} {C : Prop} {y : V} (h : vval T Q hp ev o.op = some (C, y)) (hC : C) : ∃ u, (execOp ρ o).run P E.w = .ok (.value u) E.w ∧ Rel E y u := by
  obtain ⟨dst, op, ty, pos, after, guard⟩ := o
  dsimp only at h
  unfold vval at h
  split at h
  · cases h; exact ⟨_, by simp [execOp], hev _⟩
  · cases h; exact ⟨_, by simp [execOp], hev _⟩
  · rename_i c a b
    split at h <;> cases h
    rename_i t hc
    have hcv := hev c
    rw [hc] at hcv
    have := hcv.sc_inv
    refine ⟨_, by simp [execOp, this, asBool]; rfl, ?_⟩
    cases t <;> simp only [if_true, if_false, Bool.false_eq_true] <;> exact hev _
  · split at h <;> cases h
    rename_i hl
    obtain ⟨u, hu, hy⟩ := load_sound hT ho (hev _) hl
    exact ⟨u, by simp [execOp, hu], hy⟩
  · rename_i x
    split at h <;> cases h
    rename_i hp'
    exact ⟨_, nilCheck_sound (hev x) hp', hev x⟩
  · rename_i op t x y0 yt
    obtain ⟨u, hu, hy⟩ := bin_sound hT hQ (hev x) (hev y0) h hC x y0
    refine ⟨u, ?_, hy⟩
    simp only [execOp, Sem.run_bind, hu, Result.andThen_ok, Sem.run_pure]
  · split at h <;> cases h
    rename_i hl
    obtain ⟨u, hu, hy⟩ := unary_sound (P := P) (hev _) hl
    exact ⟨u, by simp [execOp, hu], hy⟩
  · split at h <;> cases h
    rename_i hl
    obtain ⟨u, hu, hy⟩ := conv_sound hT (hev _) hl
    exact ⟨u, by simp [execOp, hu], hy⟩
  · rename_i t x lo hi mx
    split at h
    · rename_i o off n sz cap hxe
      have hxx := hev x
      rw [hxe] at hxx
      obtain ⟨u, hu, hy⟩ := osl_sound hT hxx (lv := lo.map ρ) (hv := hi.map ρ) (mv := mx.map ρ) (fun z hz => by
        cases lo with
        | none => cases hz
        | some l => simp at hz; subst hz; exact ⟨_, rfl, hev l⟩) (fun hz => by cases lo <;> simp_all) (fun z hz => by
        cases hi with
        | none => cases hz
        | some l => simp at hz; subst hz; exact ⟨_, rfl, hev l⟩) (fun hz => by cases hi <;> simp_all) (fun z hz => by
        cases mx with
        | none => cases hz
        | some l => simp at hz; subst hz; exact ⟨_, rfl, hev l⟩) (fun hz => by cases mx <;> simp_all) h hC
      exact ⟨u, by simp [execOp, hu], hy⟩
    split at h <;> try cases h
    obtain ⟨u, hu, hy⟩ := slice_sound hT (hev x) (lv := lo.map ρ) (hv := hi.map ρ) (fun z hz => by
      cases lo with
      | none => cases hz
      | some l => simp at hz; subst hz; exact ⟨_, rfl, hev l⟩) (fun hz => by cases lo <;> simp_all) (fun z hz => by
      cases hi with
      | none => cases hz
      | some l => simp at hz; subst hz; exact ⟨_, rfl, hev l⟩) (fun hz => by cases hi <;> simp_all) h hC
    exact ⟨u, by simp [execOp, hu], hy⟩
  · split at h <;> cases h
    rename_i hl
    obtain ⟨u, hu, hy⟩ := fieldAddr_sound hT (hev _) hl
    exact ⟨u, by simp [execOp, hu], hy⟩
  · split at h <;> cases h
    rename_i hl
    obtain ⟨u, hu, hy⟩ := field_sound hT (hev _) hl
    exact ⟨u, by simp [execOp, hu E.w], hy⟩
  · obtain ⟨u, hu, hy⟩ := indexAddr_sound hT (hev _) (hev _) h hC
    exact ⟨u, by simp [execOp, hu], hy⟩
  · obtain ⟨u, hu, hy⟩ := index_sound hT (hev _) (hev _) h hC
    exact ⟨u, by simp [execOp, hu], hy⟩
  · rename_i fn first caps
    split at h <;> cases h
    rename_i f hf
    have hf' : first = #[] := by cases first; simp at hf; simp [hf]
    subst hf'
    refine ⟨.func (.func f) #[] (caps.toList.map ρ).toArray, by simp [execOp, Instr.makeFunc]; exact Array.toList_inj.1 (by simp), ?_⟩
    refine .clo _ (by simp) (fun j x u hx hu => ?_)
    rw [List.getElem?_map] at hx hu
    cases hj : caps.toList[j]? with
    | none => rw [hj] at hx; simp at hx
    | some q => rw [hj] at hx hu; simp at hx hu; subst hx; subst hu; exact hev q
  · rename_i x i
    split at h <;> try cases h
    rename_i vs hx
    split at h <;> cases h
    rename_i y' hy
    have hv := hev x
    rw [hx] at hv
    obtain ⟨us, hus, hr⟩ := hv.tup_inv
    obtain ⟨u, hu, hyu⟩ := hr.get hy
    exact ⟨u, by simp [execOp, hus, Instr.extract, hu], hyu⟩
  · rename_i t parts
    split at h <;> cases h
    rename_i hb
    obtain ⟨u, hu, hy⟩ := build_sound hT (E := E) (qs := parts.toList.map fun p => (p.1, ρ p.2)) (by simp) (fun j p q hp' hq' => by
      rw [List.getElem?_map] at hp' hq'
      cases hj : parts.toList[j]? with
      | none => rw [hj] at hp'; simp at hp'
      | some r => rw [hj] at hp' hq'; simp only [Option.map_some, Option.some.injEq] at hp' hq'; subst hp'; subst hq'; exact ⟨rfl, hev _⟩) hb
    refine ⟨u, ?_, hy⟩
    have : (parts.map fun x => (x.1, ρ x.2)) = (parts.toList.map fun p => (p.1, ρ p.2)).toArray := Array.toList_inj.1 (by simp)
    simp only [execOp, this, Sem.run_bind, hu, Result.andThen_ok, Sem.run_pure]
  · rename_i c
    obtain ⟨callee, ⟨args⟩, ⟨argTypes⟩⟩ := c
    dsimp only at h
    unfold vbuiltin at h
    split at h
    · rename_i x t
      split at h <;> cases h
      rename_i hl
      obtain ⟨u, hu, hy⟩ := len_sound hT (ty := ty) (hev x) hl
      exact ⟨u, by simp [execOp, resolve, invoke, builtin, hu], hy⟩
    · rename_i x y0
      split at h <;> cases h
      rename_i k a k' b e1 e2
      have h1 := hev x; rw [e1] at h1
      have h2 := hev y0; rw [e2] at h2
      have h1' := h1.sc_inv
      have h2' := h2.sc_inv
      exact ⟨_, by simp [execOp, resolve, invoke, builtin, h1', h2', run_min_int2], .sc _⟩
    · rename_i x y0
      split at h <;> cases h
      rename_i k a k' b e1 e2
      have h1 := hev x; rw [e1] at h1
      have h2 := hev y0; rw [e2] at h2
      have h1' := h1.sc_inv
      have h2' := h2.sc_inv
      exact ⟨_, by simp [execOp, resolve, invoke, builtin, h1', h2', run_max_int2], .sc _⟩
    · cases h
  · cases h

end Go.VS
