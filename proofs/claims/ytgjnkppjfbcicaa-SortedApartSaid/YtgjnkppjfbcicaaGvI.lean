/- One operation of a frame, whatever it does but a call. -/
import Derived.Test.YtgjnkppjfbcicaaGvH
namespace Go.VS
open Go.RowKit Go.Lib

/-- The cells of so many zeros. -/
def vzeros (z : List Value) (n : Nat) : List V := (List.range n).map fun i => .sc (z[i % z.length]!)

def zeroByte : List Value → Bool
  | [.int .u8 0] => true
  | _ => false

/-- append: what comes out, the token that is spent, the element's type. -/
def vappend (T : Tab) (lv : List (Nat × TypeId)) (t u : TypeId) (s x : V) : Option (Prop × Nat × Nat × List V × Option Nat × TypeId) :=
  match T t with
  | some ⟨.slice e, _, _, _⟩ => match T e with
    | some ti => match s.rowOf ti.size with
      | some (n, cs) =>
        match (match s with | .data _ _ _ (some τ) => if (τ, e) ∈ lv then some (some τ) else none | .sc _ => some none | _ => none : Option (Option Nat)) with
        | some τ0 =>
          if u = t then
            match x.rowOf ti.size with
            | some (m, ds) => if 0 < ti.size ∧ ti.zero.length = ti.size then some (n + m ≤ 9223372036854775807 ∧ (n + m) * ti.bytes ≤ 140737488355328, n + m, ti.size, cs ++ ds, τ0, e) else none
            | none => none
          else
            match T u, x with
            | some ⟨.string, _, _, _⟩, .sc (.string b) => if ti.size = 1 ∧ ti.bytes = 1 ∧ ti.d = .int .u8 ∧ zeroByte ti.zero = true then some (n + b.size ≤ 140737488355328, n + b.size, ti.size, cs ++ b.data.toList.map byteV, τ0, e) else none
            | _, _ => none
        | none => none
      | none => none
    | none => none
  | _ => none

/-- Operations that make or write memory. -/
def vmake (T : Tab) (ev : Operand → V) (o : Oper) (Γ : St) : Option (Prop × St) :=
  match o.op with
  | .box _ x => (match vcells (ev x) with | some cs => some (True, ({ Γ with hp := Γ.hp ++ [cs] } : St).put o.dst (.ref Γ.hp.length 0)) | none => none)
  | .alloc t => (match T t with | some ti => if ti.zero.all (·.oneCell') then some (True, ({ Γ with hp := Γ.hp ++ [ti.zero.map .sc] } : St).put o.dst (.ref Γ.hp.length 0)) else none | none => none)
  | .store t a x => (match ev a, vcells (ev x), T t with
    | .ref k off, some cs, some ti => (match Γ.hp[k]? with | some old => some (cs.length = ti.size ∧ off + cs.length ≤ old.length, ({ Γ with hp := Γ.hp.set k (vsplice old off cs) } : St).put o.dst (.sc undef)) | none => none)
    | _, _, _ => none)
  | .buildSlice t len parts => (match T t with
    | some ⟨.slice e, _, _, _⟩ => (match T e with
      | some ti => if len * ti.size ≤ 16777216 ∧ 0 < ti.size ∧ ti.zero.length = ti.size ∧ ti.zero.all (·.oneCell') then
          (match vfill (fun i => some (i * ti.size, ti.size)) (vzeros ti.zero (len * ti.size)) (parts.toList.map fun p => (p.1, ev p.2)) with
          | some cs => some (True, ({ Γ with lv := (Γ.ctr, e) :: Γ.lv, ctr := Γ.ctr + 1 } : St).put o.dst (.data len ti.size cs (some Γ.ctr)))
          | none => none) else none
      | none => none)
    | _ => none)
  | .makeSlice t l c => (match T t, ev l, ev c with
    | some ⟨.slice e, _, _, _⟩, .sc (.int _ lk), .sc (.int _ ck) => (match T e with
      | some ti => if 0 < ti.size ∧ ti.zero.length = ti.size ∧ ti.zero.all (·.oneCell') then
          some (0 ≤ lk ∧ lk ≤ ck ∧ ti.bytes * ck ≤ 281474976710656 ∧ ck ≤ 9223372036854775807, ({ Γ with lv := (Γ.ctr, e) :: Γ.lv, ctr := Γ.ctr + 1 } : St).put o.dst (.data lk.toNat ti.size (vzeros ti.zero (lk.toNat * ti.size)) (some Γ.ctr))) else none
      | none => none)
    | _, _, _ => none)
  | .call c => (match c.callee, c.args.toList, c.argTypes.toList with
    | .builtin .append, [s, x], [t, u] => (match vappend T Γ.lv t u (ev s) (ev x) with
      | some (C, n, sz, cs, τ0, e) => some (C, ({ Γ with lv := (Γ.ctr, e) :: lvDrop τ0 Γ.lv, ctr := Γ.ctr + 1 } : St).put o.dst (.data n sz cs (some Γ.ctr)))
      | none => none)
    | _, _, _ => none)
  | _ => none

def vstep (T : Tab) (Q : EqTab) (G : Nat → Option (List V)) (o : Oper) (Γ : St) : Option (Prop × St) :=
  match vval T Q Γ.hp (opv G Γ.tm) o.op with
  | some (C, y) => some (C, Γ.put o.dst y)
  | none => vmake T (opv G Γ.tm) o Γ

/-- The state holds in a world, for these global variables. -/
def HoldsG (G : Nat → Option (List V)) (E0 : Env) (N : Nat) (Γ : St) (a : Act) (w : World) : Prop := ∃ E, E.w = w ∧ HoldsE E0 E N Γ a ∧ GlobOk G E

/-- What is known of the program. -/
structure ProgOk (P : Program) (T : Tab) (Q : EqTab) : Prop where
  tab : TabOk P T
  eqt : EqOk P Q

theorem GlobOk.le {G : Nat → Option (List V)} {E E' : Env} (h : GlobOk G E) (k : Le E E') : GlobOk G E' := fun g cs hg => (h g cs hg).le k

def RanTo (P : Program) (G : Nat → Option (List V)) (E0 : Env) (N : Nat) (o : Oper) (a : Act) (w : World) (Γ' : St) : Prop :=
  (∃ v w', (execOp a.eval o).run P w = .ok (.value v) w' ∧ HoldsG G E0 N Γ' (a.put o.dst v) w') ∨
  (∃ w', (execOp a.eval o).run P w = .ok .skip w' ∧ HoldsG G E0 N Γ' (a.put o.dst undef) w')

theorem toList_madeCells (z : Array Value) (n : Nat) : (madeCells z n).toList = (List.range n).map fun i => z.toList[i % z.toList.length]! := by
  simp [madeCells]
  intro i _
  rw [getElem!_def]
  cases z[i % z.size]? <;> rfl

theorem rel_vzeros (E : Env) (z : List Value) (n : Nat) : RelL E (vzeros z n) ((List.range n).map fun i => z[i % z.length]!) := by
  have := RelL.consts E ((List.range n).map fun i => z[i % z.length]!)
  unfold vzeros
  rw [List.map_map] at this
  exact this

theorem one_vzeros (z : List Value) (n : Nat) (h : ∀ u ∈ z, u.oneCell' = true) (hz : n = 0 ∨ z ≠ []) : ∀ u ∈ (List.range n).map (fun i => z[i % z.length]!), u.oneCell' = true := by
  intro u hu
  simp only [List.mem_map, List.mem_range] at hu
  obtain ⟨i, hi, rfl⟩ := hu
  have hne : z ≠ [] := hz.resolve_left (by omega)
  have hl : i % z.length < z.length := Nat.mod_lt _ (List.length_pos_iff.2 hne)
  rw [getElem!_pos z _ hl]
  exact h _ (List.getElem_mem hl)

section
variable {P : Program} {T : Tab} {Q : EqTab} {G : Nat → Option (List V)} (hP : ProgOk P T Q) {E0 E : Env} {N : Nat} {Γ Γ' : St} {a : Act} {o : Oper} {C : Prop}

theorem toArray_toList {α : Type} {xs : Array α} {l : List α} (h : xs.toList = l) : xs = l.toArray := by cases xs; simp at h; simp [h]

include hP in
theorem make_sound (hsz : E0.sz = P.cellsOf) (h : HoldsE E0 E N Γ a) (hG : GlobOk G E) (hd : ∀ k, o.dst = some k → k < N) (hs : vmake T (opv G Γ.tm) o Γ = some (C, Γ')) (hC : C) : RanTo P G E0 N o a E.w Γ' := by
  have hT := hP.tab
  have hev : ∀ x, Rel E (opv G Γ.tm x) (a.eval x) := rel_opv hG h.tm
  have hszE : E.sz = P.cellsOf := h.ext.sz.trans hsz
  have hbase : E.base ≤ E.w.heap.size := by rw [h.ext.base]; exact h.ext.size
  obtain ⟨dst, op, ty, pos, after, guard⟩ := o
  unfold vmake at hs
  dsimp only at hs hd
  split at hs
  · rename_i t x
    split at hs <;> cases hs
    rename_i cs hcs
    obtain ⟨hr, h1⟩ := rel_vcells (hev x) hcs
    obtain ⟨E', hw, hle, hh, href⟩ := h.obj t hr h1
    refine .inl ⟨.pointer (some ⟨E.w.heap.size, 0, none⟩), E'.w, ?_, E', rfl, hh.put hd href, hG.le hle⟩
    rw [hw]
    simp [execOp, Instr.box, newVar, newRow]
  · rename_i t
    split at hs <;> try cases hs
    rename_i ti ht
    split at hs <;> cases hs
    rename_i hz1
    obtain ⟨z, hz, hzc, _⟩ := hT.zero E.w ht
    obtain ⟨E', hw, hle, hh, href⟩ := h.obj (cs := ti.zero.map .sc) t (RelL.consts E ti.zero) (fun u hu => List.all_eq_true.1 hz1 u hu)
    refine .inl ⟨.pointer (some ⟨E.w.heap.size, 0, none⟩), E'.w, ?_, E', rfl, hh.put hd href, hG.le hle⟩
    rw [hw]
    have hzc' : z.cells = ti.zero.toArray := toArray_toList hzc
    simp [execOp, Instr.alloc, hz, newVar, newRow, hzc']
  · rename_i t ad x
    split at hs <;> try cases hs
    rename_i k off cs ti e1 e2 e3
    split at hs <;> cases hs
    rename_i old hk
    have ha := hev ad
    rw [e1] at ha
    obtain ⟨hav, _⟩ := ha.ref_inv
    obtain ⟨hr, h1⟩ := rel_vcells (hev x) e2
    have hol : old.length ≤ E.cp k := by
      obtain ⟨us0, ex0, e0, _, hr0, _, hl0⟩ := h.objs.obj k old hk
      have := hr0.1
      simp only [List.length_append] at hl0
      omega
    obtain ⟨E', hst, hle, hh⟩ := h.stored (off := off) hk hr h1 (by omega) (by omega) P
    refine .inr ⟨E'.w, ?_, E', rfl, hh.put hd (.sc _), hG.le hle⟩
    have hcl : (a.eval x).cells.size = ti.size := by have := hr.1; simp at this; omega
    simp [execOp, hav, Instr.storeAt, Instr.sureAddr, storeVar, hT.size E.w e3, hcl, hst]
  · rename_i t len parts
    split at hs <;> try cases hs
    rename_i e n0 b0 z0 ht
    split at hs <;> try cases hs
    rename_i ti hte
    split at hs <;> try cases hs
    rename_i hcond
    split at hs <;> cases hs
    rename_i cs hf
    obtain ⟨hsm, hpos, hzl, hz1⟩ := hcond
    obtain ⟨hdt, _⟩ := hT.ok t _ ht
    simp only [TyOk] at hdt
    obtain ⟨z, hz, hzc, _⟩ := hT.zero E.w hte
    have hzc' : z.cells = ti.zero.toArray := toArray_toList hzc
    have hsze : E.sz e = ti.size := by rw [hszE, hT.cellsOf hte]
    have hmc : (madeCells ti.zero.toArray (len * ti.size)).toList = (List.range (len * ti.size)).map fun i => ti.zero[i % ti.zero.length]! := by rw [toList_madeCells]
    obtain ⟨us', hu, hr, h1⟩ := fill_sound (E := E) (place := fun i => some (i * ti.size, ti.size)) (parts.toList.map fun p => (p.1, opv G Γ.tm p.2)) (parts.toList.map fun p => (p.1, a.eval p.2)) _ cs (madeCells ti.zero.toArray (len * ti.size))
      (by rw [hmc]; exact rel_vzeros E _ _)
      (by
        rw [hmc]
        refine one_vzeros _ _ (fun u hu => List.all_eq_true.1 hz1 u hu) ?_
        by_cases h0 : len * ti.size = 0
        · exact .inl h0
        · refine .inr (fun hz => h0 ?_)
          rw [hz] at hzl
          simp at hzl
          rw [← hzl]; simp)
      (by simp) (fun j p q hp hq => by
        rw [List.getElem?_map] at hp hq
        cases hj : parts.toList[j]? with
        | none => rw [hj] at hp; simp at hp
        | some r => rw [hj] at hp hq; simp only [Option.map_some, Option.some.injEq] at hp hq; subst hp; subst hq; exact ⟨rfl, hev _⟩) hf
    have hsz' : us'.size = len * ti.size := by
      have hl := hr.1
      have hfl : ∀ (ps : List (Nat × V)) (cells cells' : List V), vfill (fun i => some (i * ti.size, ti.size)) cells ps = some cells' → cells'.length = cells.length := by
        intro ps
        induction ps with
        | nil => intro cells cells' h; simp [vfill] at h; rw [h]
        | cons p ps ih =>
          intro cells cells' h
          obtain ⟨i, x⟩ := p
          simp only [vfill] at h
          split at h <;> try cases h
          split at h <;> try cases h
          rename_i hc
          rw [ih _ _ h]
          simp [vsplice]
          omega
      have := hfl _ _ _ hf
      simp at hl
      rw [hl, this]
      simp [vzeros]
    have hown : (E.w.alloc (.cells us' e)).ownsRow E.base e (E.sz e) (.slice (some ⟨E.w.heap.size, 0, none⟩) len len) len us'.toList := by
      rw [hsze]
      have : len ≤ len * ti.size := Nat.le_mul_of_pos_right _ hpos
      have : len ≤ 16777216 := Nat.le_trans this hsm
      exact World.ownsRow_lit E.w us' len hbase (Nat.le_trans this (by simp [maxLen])) hsz'
    obtain ⟨E', hw, hle, hh, hx⟩ := h.owned (τ0 := none) (World.grownBy_alloc E.w _ none) hown (.inr rfl) (fun g hg => by cases hg) (fun g off hg => by cases hg) hr h1 (by
      have : len ≤ len * ti.size := Nat.le_mul_of_pos_right _ hpos
      have : len ≤ 16777216 := Nat.le_trans this hsm
      exact Nat.le_trans this (by simp [maxLen]))
    rw [hsze] at hx
    refine .inl ⟨.slice (some ⟨E.w.heap.size, 0, none⟩) len len, E'.w, ?_, E', rfl, hh.put hd hx, hG.le hle⟩
    rw [hw]
    have hqs : (parts.map fun x => (x.1, a.eval x.2)).toList = parts.toList.map fun p => (p.1, a.eval p.2) := by simp
    have hmz : (if len * ti.size = 0 then #[] else z.cells) = if len * ti.size = 0 then #[] else ti.zero.toArray := by rw [hzc']
    by_cases h0 : len * ti.size = 0
    · have hu' := hu
      rw [h0] at hu'
      have e0 : madeCells ti.zero.toArray 0 = #[] := by simp [madeCells]
      rw [e0] at hu'
      simp [execOp, Instr.buildSlice, run_underlying hdt, hT.size E.w hte, h0, newRow, hqs]
      have e00 : ∀ f : Nat → Value, Array.map f (Array.range 0) = #[] := fun f => by simp
      simp [e00, hu']
    · simp only [execOp, Instr.buildSlice, Sem.run_bind, run_underlying hdt, Result.andThen_ok, hT.size E.w hte]
      rw [if_neg (by omega)]
      simp only [h0, if_false, Sem.run_bind, hz, Result.andThen_ok, Sem.run_pure, hzc', hqs]
      have : Array.map (fun x => ti.zero.toArray[x % ti.zero.toArray.size]!) (Array.range (len * ti.size)) = madeCells ti.zero.toArray (len * ti.size) := rfl
      simp only [this, hu, newRow, Sem.run_bind, run_newObj_alloc, Result.andThen_ok, Sem.run_pure]
  · rename_i t l c
    split at hs <;> try cases hs
    rename_i e n0 b0 z0 kl lk kc ck ht hl hc
    split at hs <;> try cases hs
    rename_i ti hte
    split at hs <;> cases hs
    rename_i hcond
    obtain ⟨hpos, hzl, hz1⟩ := hcond
    obtain ⟨hdt, _⟩ := hT.ok t _ ht
    simp only [TyOk] at hdt
    have hlv := hev l
    rw [hl] at hlv
    have hlv' := hlv.sc_inv
    have hcv := hev c
    rw [hc] at hcv
    have hcv' := hcv.sc_inv
    obtain ⟨_, i, zz, hi, hs1, hb1, hz1', hzc, _⟩ := hT.ok e _ hte
    have hzc' : zz.cells = ti.zero.toArray := toArray_toList hzc
    have hsze : E.sz e = ti.size := by rw [hszE, hT.cellsOf hte]
    obtain ⟨c0, c1, c2, c3⟩ := hC
    have hrun := run_make (P := P) E.w t e i zz hdt hi hz1' kl kc lk ck c0 c1 (by rw [hb1]; exact c2) c3
    rw [hzc', hs1] at hrun
    have hckm : ck.toNat ≤ maxLen := by simp only [maxLen]; omega
    have htake : (madeCells ti.zero.toArray (ck.toNat * ti.size)).toList.take (lk.toNat * ti.size) = (List.range (lk.toNat * ti.size)).map fun i => ti.zero[i % ti.zero.length]! := by
      rw [toList_madeCells, ← List.map_take, List.take_range, Nat.min_eq_left (Nat.mul_le_mul_right _ (by omega))]
    have hown : (E.w.alloc (.cells (madeCells ti.zero.toArray (ck.toNat * ti.size)) e)).ownsRow E.base e (E.sz e) (.slice (some ⟨E.w.heap.size, 0, none⟩) lk.toNat ck.toNat) lk.toNat ((List.range (lk.toNat * ti.size)).map fun i => ti.zero[i % ti.zero.length]!) := by
      rw [hsze]
      exact ⟨by simp, .inr ⟨E.w.heap.size, ck.toNat, _, rfl, hbase, heap_alloc_new _ _, by omega, hckm, size_madeCells _ _, htake⟩⟩
    obtain ⟨E', hw, hle, hh, hx⟩ := h.owned (τ0 := none) (World.grownBy_alloc E.w _ none) hown (.inr rfl) (fun g hg => by cases hg) (fun g off hg => by cases hg) (rel_vzeros E ti.zero (lk.toNat * ti.size))
      (one_vzeros _ _ (fun u hu => List.all_eq_true.1 hz1 u hu) (.inr (fun hz => by rw [hz] at hzl; simp at hzl; omega))) (by omega)
    rw [hsze] at hx
    refine .inl ⟨.slice (some ⟨E.w.heap.size, 0, none⟩) lk.toNat ck.toNat, E'.w, ?_, E', rfl, hh.put hd hx, hG.le hle⟩
    rw [hw]
    simp [execOp, hlv', hcv', hrun]
  · rename_i c
    obtain ⟨callee, ⟨args⟩, ⟨argTypes⟩⟩ := c
    dsimp only at hs
    split at hs <;> try cases hs
    rename_i s x t u
    split at hs <;> cases hs
    rename_i n sz cs τ0 e hva
    unfold vappend at hva
    split at hva <;> try cases hva
    rename_i e' n0 b0 z0 ht
    split at hva <;> try cases hva
    rename_i ti hte
    split at hva <;> try cases hva
    rename_i n1 cs1 hrow
    split at hva <;> try cases hva
    rename_i τ1 hτ
    obtain ⟨hdt, _⟩ := hT.ok t _ ht
    simp only [TyOk] at hdt
    obtain ⟨hde, i, zz, hi, hs1, hb1, hz1', hzc, _, hzo⟩ := hT.ok e' _ hte
    have hsze : E.sz e' = ti.size := by rw [hszE, hT.cellsOf hte]
    -- what is owned
    have howned : ∃ xs, E.w.ownsRow E.base e' ti.size (a.eval s) n1 xs ∧ RelL E cs1 xs ∧ (∀ u ∈ xs, u.oneCell' = true) ∧
        (∀ g, (a.eval s).ownBlock = some g → ∃ τ e u, τ1 = some τ ∧ (τ, e) ∈ Γ.lv ∧ E.θ τ = some u ∧ u.1.ownBlock = some g) ∧ ∀ g, (a.eval s).ownBlock = some g → ∀ off, E.I g off → off < n1 * ti.size := by
      have hxs := hev s
      split at hτ
      · rename_i n' sz' cs' τ e1
        split at hτ <;> cases hτ
        rename_i hmem
        rw [e1] at hrow hxs
        simp only [V.rowOf] at hrow
        by_cases hsz' : sz' = ti.size
        case neg => rw [if_neg hsz'] at hrow; cases hrow
        rw [if_pos hsz'] at hrow
        cases hrow
        rw [hsz', ← hsze] at hxs
        obtain ⟨xs, h1, h2, h3, h4, h5⟩ := h.owns hmem hxs
        rw [hsze] at h1 h5
        exact ⟨xs, h1, h2, h3, fun g hg => ⟨τ, _, _, rfl, hmem, h4, hg⟩, h5⟩
      · rename_i v0 e1
        cases hτ
        rw [e1] at hrow hxs
        have h3 : v0 = .slice none 0 0 ∧ n1 = 0 ∧ cs1 = [] := by
          unfold V.rowOf at hrow
          split at hrow
          · rename_i h; cases h
          · rename_i h; injection h with h; cases hrow; exact ⟨h, rfl, rfl⟩
          · cases hrow
        obtain ⟨rfl, rfl, rfl⟩ := h3
        have := hxs.sc_inv
        rw [this]
        exact ⟨[], World.ownsRow_nil _ _ _ _, RelL.nil, by simp, fun g hg => by simp [Value.ownBlock] at hg, fun g hg => by simp [Value.ownBlock] at hg⟩
      · cases hτ
    obtain ⟨xs, hown, hrx, h1x, htok, hlim⟩ := howned
    have hfin : ∀ {w' : World} {v' : Value} {m : Nat} {ys : List Value} {ds : List V}, (Builtin.append_ #[t, u] ty #[a.eval s, a.eval x]).run P E.w = .ok v' w' → E.w.grownBy w' (a.eval s).ownBlock → w'.ownsRow E.base e' ti.size v' (n1 + m) (xs ++ ys) →
        (v'.ownBlock = (a.eval s).ownBlock ∨ (v'.ownBlock = some E.w.heap.size ∧ E.w.grownBy w' none)) →
        RelL E ds ys → (∀ u ∈ ys, u.oneCell' = true) → n1 + m ≤ maxLen →
        RanTo P G E0 N { dst := dst, op := .call { callee := .builtin .append, args := ⟨[s, x]⟩, argTypes := ⟨[t, u]⟩ }, type := ty, pos := pos, after := after, guard := guard } a E.w
          (({ Γ with lv := (Γ.ctr, e') :: lvDrop τ1 Γ.lv, ctr := Γ.ctr + 1 } : St).put dst (.data (n1 + m) ti.size (cs1 ++ ds) (some Γ.ctr))) := by
      intro w' v' m ys ds hrun hgr hown' hat hry h1y hmax
      have hpre : ∀ g off, (a.eval s).ownBlock = some g → E.I g off → off < (n1 + m) * E.sz e' ∧ w'.cell? ⟨g, off, none⟩ = E.w.cell? ⟨g, off, none⟩ := by
        intro g off hgo hI
        have hlt := hlim g hgo off hI
        rw [hsze]
        refine ⟨Nat.lt_of_lt_of_le hlt (Nat.mul_le_mul_right _ (Nat.le_add_right _ _)), ?_⟩
        by_cases hsame : v'.ownBlock = some g
        · have h1' := hown.cells (g := g) hgo off (xs[off]'(by rw [hown.1]; exact hlt)) (List.getElem?_eq_getElem _)
          have h2' := hown'.cells (g := g) hsame off (xs[off]'(by rw [hown.1]; exact hlt)) (by rw [List.getElem?_append_left (by rw [hown.1]; exact hlt)]; exact List.getElem?_eq_getElem _)
          rw [addr_add _ _ rfl] at h1' h2'
          simp only [Nat.zero_add] at h1' h2'
          rw [h1', h2']
        · rcases hat with h3 | ⟨_, h3⟩
          · exact absurd (h3.trans hgo) hsame
          · exact World.cell?_of_block (h3.block g (h.objs.inb _ _ hI) (by simp))
      obtain ⟨E', hw, hle, hh, hx⟩ := h.owned (τ0 := τ1) (e := e') hgr (by rw [hsze]; exact hown') (hat.imp id (·.1)) htok hpre (hrx.append hry)
        (fun u hu => by
          rcases List.mem_append.1 hu with hu | hu
          · exact h1x u hu
          · exact h1y u hu) hmax
      rw [hsze] at hx
      refine .inl ⟨v', E'.w, ?_, E', rfl, hh.put hd hx, hG.le hle⟩
      rw [hw]
      simp [execOp, resolve, invoke, builtin, hrun]
    have hxv := hev x
    split at hva
    · rename_i htu
      subst htu
      split at hva <;> try cases hva
      rename_i m ds hrowx
      split at hva <;> cases hva
      have hcond : 0 < ti.size ∧ ti.zero.length = ti.size := by assumption
      obtain ⟨hpos, hzl⟩ := hcond
      obtain ⟨hzx, A, c, us, hxe, hcm, hmm, h0x, hcell, hrus⟩ := rowOf_inv hrowx hxv
      have hzs : zz.cells.size = ti.size := by have := congrArg List.length hzc; simpa [hzl] using this
      have h1us : ∀ u ∈ us, u.oneCell' = true := fun u hu => by obtain ⟨j, hj⟩ := List.getElem?_of_mem hu; obtain ⟨_, _, _, _, _, h1⟩ := hcell j u hj; exact h1
      have hmax : n1 + m ≤ maxLen := by simp only [maxLen]; exact hC.1
      by_cases hA : ∃ ad, A = some ad ∧ ad.spot = none
      · obtain ⟨ad, rfl, hsp⟩ := hA
        obtain ⟨v', w', hrun, hown', hgr, hat⟩ := append_slice_at (P := P) E.w E.base u ty e i zz ti.size ti.bytes hdt hi hz1' hs1 hb1 hzs hpos _ n1 xs hown ad m c us (by rw [hrus.1, hzx]) (fun j w0 hj => by
          obtain ⟨a', ea, _, _, hca, _⟩ := hcell j w0 hj
          injection ea with ea
          subst ea
          rw [addr_add _ _ hsp]; exact hca) h1us hmax hC.2 hbase
        rw [← hxe] at hrun
        exact hfin hrun hgr hown' hat hrus h1us hmax
      · have hm0 : m = 0 := by
          rcases Nat.eq_zero_or_pos m with h0 | h0
          · exact h0
          · exact absurd (h0x h0) hA
        subst hm0
        have hus : us = [] := List.eq_nil_of_length_eq_zero (by rw [hrus.1, hzx]; simp)
        subst hus
        have hds : ds = [] := List.eq_nil_of_length_eq_zero (by rw [hzx]; simp)
        subst hds
        cases A with
        | none =>
          have hrun := append_nothing (P := P) E.w E.base u ty e i ti.size hdt hi _ n1 xs hown c
          rw [← hxe] at hrun
          exact hfin (m := 0) (ys := []) hrun (World.grownBy.refl _ _) (by simpa using hown) (.inl rfl) RelL.nil (by simp) hmax
        | some ad =>
          obtain ⟨v', w', hrun, hown', hgr, hat⟩ := append_slice_at (P := P) E.w E.base u ty e i zz ti.size ti.bytes hdt hi hz1' hs1 hb1 hzs hpos _ n1 xs hown ad 0 c [] (by simp) (fun j w0 hj => by simp at hj) (by simp) hmax hC.2 hbase
          rw [← hxe] at hrun
          exact hfin hrun hgr hown' hat RelL.nil (by simp) hmax
    · split at hva <;> try cases hva
      rename_i n2 b2 z2 b htu hxb
      split at hva <;> cases hva
      have hcond : ti.size = 1 ∧ ti.bytes = 1 ∧ ti.d = .int .u8 ∧ zeroByte ti.zero = true := by assumption
      obtain ⟨hsz1, hby1, hd1, hz0⟩ := hcond
      obtain ⟨hdu, _⟩ := hT.ok u _ htu
      simp only [TyOk] at hdu
      rw [hxb] at hxv
      have hxe := hxv.sc_inv
      have hmax : n1 + b.size ≤ maxLen := by simp only [maxLen]; omega
      have hzz : zz = .int .u8 0 := by
        have h2 := hzo (by rw [hd1]; rfl)
        rw [h2] at hz0
        unfold zeroByte at hz0
        split at hz0
        · rename_i h3; injection h3
        · cases hz0
      subst hzz
      rw [hsz1] at hown
      obtain ⟨v', w', hrun, hown', hgr, hat⟩ := append_string_at (P := P) E.w E.base t u ty e i hdt hdu hi hz1' (by rw [hs1, hsz1]) (by rw [hb1, hby1]) _ n1 xs hown b hmax hC hbase
      rw [← hxe] at hrun
      exact hfin hrun hgr (by rw [hsz1]; exact hown') hat (rel_strCells E b) (one_strCells b) hmax
  · cases hs
end
end Go.VS
