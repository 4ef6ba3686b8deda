/- A step hangs on what it names alone; steps that do not meet may change places. -/
import Derived.Test.YtgjnkppjfbcicaaGvL
namespace Go.VS
open Go.RowKit Go.Lib

theorem St.ext' {A B : St} (h1 : ∀ t, A.tm t = B.tm t) (h2 : A.hp = B.hp) (h3 : A.lv = B.lv) (h4 : A.ctr = B.ctr) : A = B := by
  obtain ⟨a, b, c, d⟩ := A
  obtain ⟨a', b', c', d'⟩ := B
  have : a = a' := funext h1
  simp_all

theorem hpDep_of_mod {mt : TypeId → Bool} {op : Op} (h : hpMod mt op = true) : hpDep mt op = true := by cases op <;> simp_all [hpMod, hpDep]

theorem mix_put {mt : TypeId → Bool} {o : Oper} {Γ Γ2 : St} {x : V} (hh : hpMod mt o.op = true → Γ2.hp = Γ.hp) (ht : tokDep o.op = true → Γ2.lv = Γ.lv ∧ Γ2.ctr = Γ.ctr) : mix mt o Γ2 (Γ.put o.dst x) = Γ2.put o.dst x := by
  refine St.ext' (fun t => ?_) ?_ ?_ ?_
  · simp only [mix, put_tm]
    split <;> rfl
  · simp only [mix, put_hp]
    split
    · rename_i h; exact (hh h).symm
    · rfl
  · simp only [mix, put_lv]
    split
    · rename_i h; exact (ht h).1.symm
    · rfl
  · simp only [mix, put_ctr]
    split
    · rename_i h; exact (ht h).2.symm
    · rfl

section
variable {mt : TypeId → Bool} {T : Tab} {Q : EqTab} {G : Nat → Option (List V)} {o : Oper} {Γ Γ1 Γ2 : St} {C : Prop}

theorem vmake_local (hmt : mutOp mt o.op = false) (hs : vmake T (opv G Γ.tm) o Γ = some (C, Γ1)) (he : ∀ x ∈ o.op.operands, opv G Γ2.tm x = opv G Γ.tm x) (hh : hpMod mt o.op = true → Γ2.hp = Γ.hp) (ht : tokDep o.op = true → Γ2.lv = Γ.lv ∧ Γ2.ctr = Γ.ctr) :
    vmake T (opv G Γ2.tm) o Γ2 = some (C, mix mt o Γ2 Γ1) ∧ (∀ t, o.dst ≠ some t → Γ1.tm t = Γ.tm t) ∧ (hpMod mt o.op = false → Γ1.hp = Γ.hp) ∧ (tokDep o.op = false → Γ1.lv = Γ.lv ∧ Γ1.ctr = Γ.ctr) := by
  obtain ⟨dst, op, ty, pos, after, guard⟩ := o
  dsimp only at hmt
  have fin : ∀ {d : Option Nat} {x : V} {A : St} (t : Nat), d ≠ some t → (A.put d x).tm t = A.tm t := fun t h => by rw [put_tm, if_neg h]
  cases op <;> simp only [vmake] at hs ⊢ <;> try cases hs
  case box t x =>
    simp only [Op.operands, List.mem_toArray, List.mem_singleton, forall_eq] at he
    split at hs <;> cases hs
    rename_i cs hcs
    have hhp := hh rfl
    rw [he, hcs]
    refine ⟨?_, fun t h => fin t h, fun h => by simp [hpMod] at h, fun _ => by simp⟩
    simp only [Option.some.injEq, Prod.mk.injEq, true_and]
    exact St.ext' (fun t => by simp only [mix, put_tm, hhp]; split <;> rfl) (by simp [mix, hpMod, hhp]) (by simp [mix, tokDep]) (by simp [mix, tokDep])
  case alloc t =>
    split at hs <;> try cases hs
    rename_i ti hti
    split at hs <;> cases hs
    rename_i hz
    have hhp := hh rfl
    simp only [hti, hz, if_true]
    refine ⟨?_, fun t h => fin t h, fun h => by simp [hpMod] at h, fun _ => by simp⟩
    simp only [Option.some.injEq, Prod.mk.injEq, true_and]
    exact St.ext' (fun t => by simp only [mix, put_tm, hhp]; split <;> rfl) (by simp [mix, hpMod, hhp]) (by simp [mix, tokDep]) (by simp [mix, tokDep])
  case store t a x =>
    simp only [Op.operands, List.mem_toArray, List.mem_cons, List.not_mem_nil, or_false, forall_eq_or_imp, forall_eq] at he
    split at hs <;> try cases hs
    rename_i k off cs ti e1 e2 e3
    split at hs <;> cases hs
    rename_i old hk
    have hhp := hh rfl
    simp only [he.1, he.2, e1, e2, e3, hhp, hk]
    refine ⟨?_, fun t h => fin t h, fun h => by simp [hpMod] at h, fun _ => by simp⟩
    simp only [Option.some.injEq, Prod.mk.injEq, true_and]
    exact St.ext' (fun t => by simp only [mix, put_tm]; split <;> rfl) (by simp [mix, hpMod, hmt, heapCall]) (by simp [mix, tokDep]) (by simp [mix, tokDep])
  case buildSlice t len parts =>
    have hps : (parts.toList.map fun p => (p.1, opv G Γ2.tm p.2)) = parts.toList.map fun p => (p.1, opv G Γ.tm p.2) := List.map_congr_left fun p hp => by
      rw [he p.2 (by simp only [Op.operands, List.mem_toArray, List.mem_map]; exact ⟨p, hp, rfl⟩)]
    obtain ⟨h1, h2⟩ := ht rfl
    split at hs <;> try cases hs
    rename_i e n0 b0 z0 e1
    split at hs <;> try cases hs
    rename_i ti e2
    split at hs <;> try cases hs
    rename_i hc
    split at hs <;> cases hs
    rename_i cs hcs
    simp only [e1, e2, hps, hcs, h1, h2]
    rw [if_pos hc]
    refine ⟨?_, fun t h => fin t h, fun _ => by simp, fun h => by simp [tokDep] at h⟩
    simp only [Option.some.injEq, Prod.mk.injEq, true_and]
    exact St.ext' (fun t => by simp only [mix, put_tm]; split <;> rfl) (by simp [mix, hpMod, hmt, heapCall]) (by simp [mix, tokDep]) (by simp [mix, tokDep])
  case makeSlice t l c =>
    simp only [Op.operands, List.mem_toArray, List.mem_cons, List.not_mem_nil, or_false, forall_eq_or_imp, forall_eq] at he
    obtain ⟨h1, h2⟩ := ht rfl
    split at hs <;> try cases hs
    rename_i e n0 b0 z0 kl lk kc ck e1 e2 e3
    split at hs <;> try cases hs
    rename_i ti e4
    split at hs <;> cases hs
    rename_i hc
    simp only [he.1, he.2, e1, e2, e3, e4, h1, h2]
    rw [if_pos hc]
    refine ⟨?_, fun t h => fin t h, fun _ => by simp, fun h => by simp [tokDep] at h⟩
    simp only [Option.some.injEq, Prod.mk.injEq, true_and]
    exact St.ext' (fun t => by simp only [mix, put_tm]; split <;> rfl) (by simp [mix, hpMod, hmt, heapCall]) (by simp [mix, tokDep]) (by simp [mix, tokDep])
  case call c =>
    obtain ⟨callee, ⟨args⟩, ⟨argTypes⟩⟩ := c
    have hargs : ∀ x ∈ args, opv G Γ2.tm x = opv G Γ.tm x := fun x hx => he x (by simp only [Op.operands, Call.operands, Array.mem_append]; exact .inr (by simpa using hx))
    cases callee with
    | value f => simp at hs
    | invoke r m => simp at hs
    | builtin b =>
    cases b <;> try (simp at hs; done)
    dsimp only at hs ⊢
    split at hs <;> try cases hs
    rename_i s x t u heq
    split at hs <;> cases hs
    rename_i n sz cs τ0 e hva
    obtain ⟨h1, h2⟩ := ht rfl
    simp only [hargs s (by simp), hargs x (by simp), h1, h2, hva]
    refine ⟨?_, fun t h => fin t h, fun _ => by simp, fun h => by simp [tokDep] at h⟩
    simp only [Option.some.injEq, Prod.mk.injEq, true_and]
    exact St.ext' (fun t => by simp only [mix, put_tm]; split <;> rfl) (by simp [mix, hpMod, hmt, heapCall]) (by simp [mix, tokDep]) (by simp [mix, tokDep])

theorem vstep_local (hmt : mutOp mt o.op = false) (hs : vstep T Q G o Γ = some (C, Γ1)) (he : ∀ x ∈ o.op.operands, opv G Γ2.tm x = opv G Γ.tm x) (hh : hpMod mt o.op = true → Γ2.hp = Γ.hp) (ht : tokDep o.op = true → Γ2.lv = Γ.lv ∧ Γ2.ctr = Γ.ctr)
    (hl : ∀ t a y, o.op = .load t a → vload T Γ.hp t (opv G Γ2.tm a) = some y → vload T Γ2.hp t (opv G Γ2.tm a) = some y) :
    vstep T Q G o Γ2 = some (C, mix mt o Γ2 Γ1) ∧ (∀ t, o.dst ≠ some t → Γ1.tm t = Γ.tm t) ∧ (hpMod mt o.op = false → Γ1.hp = Γ.hp) ∧ (tokDep o.op = false → Γ1.lv = Γ.lv ∧ Γ1.ctr = Γ.ctr) := by
  have hv1 := vval_congr T Q (hp := Γ.hp) (hp' := Γ.hp) (ev := opv G Γ.tm) (ev' := opv G Γ2.tm) he (fun _ => rfl)
  have hsome : ∀ r, vval T Q Γ.hp (opv G Γ.tm) o.op = some r → vval T Q Γ2.hp (opv G Γ2.tm) o.op = some r := by
    intro r hr
    rw [← hv1] at hr
    cases hop : o.op with
    | load t a =>
      rw [hop] at hr
      simp only [vval] at hr ⊢
      split at hr <;> try cases hr
      rename_i y hy
      rw [hl t a y hop hy]
    | _ =>
      rw [← hr, hop]
      exact vval_congr T Q (fun _ _ => rfl) (fun h => by simp [isLoad] at h)
  have hnone : vval T Q Γ.hp (opv G Γ.tm) o.op = none → isLoad o.op = false → vval T Q Γ2.hp (opv G Γ2.tm) o.op = none := by
    intro hr hnl
    rw [← hr]
    exact vval_congr T Q he (fun h => by rw [hnl] at h; cases h)
  unfold vstep at hs ⊢
  split at hs
  · rename_i C' y hy
    cases hs
    rw [hsome _ hy]
    refine ⟨by simp only [mix_put hh ht], fun t h => by rw [put_tm, if_neg h], fun _ => by simp, fun _ => by simp⟩
  · rename_i hy
    have hnl : isLoad o.op = false := by
      cases hop : o.op <;> simp [isLoad]
      unfold vmake at hs
      rw [hop] at hs
      simp at hs
    rw [hnone hy hnl]
    exact vmake_local hmt hs he hh ht
end

section
variable {X : Ctx} {ops : Array Oper} {o : Oper} {Γ Γ1 Γ2 : St}

theorem StepD.local (h : StepD X ops.toList o Γ Γ1) (he : ∀ t ∈ o.looksAt ops, Γ2.tm t = Γ.tm t) (hh : hpMod X.mt o.op = true → Γ2.hp = Γ.hp) (ht : tokDep o.op = true → Γ2.lv = Γ.lv ∧ Γ2.ctr = Γ.ctr)
    (hl : ∀ t a y, o.op = .load t a → vload X.T Γ.hp t (opv X.G Γ2.tm a) = some y → vload X.T Γ2.hp t (opv X.G Γ2.tm a) = some y) :
    StepD X ops.toList o Γ2 (mix X.mt o Γ2 Γ1) ∧ (∀ t, o.dst ≠ some t → Γ1.tm t = Γ.tm t) ∧ (hpMod X.mt o.op = false → Γ1.hp = Γ.hp) ∧ (tokDep o.op = false → Γ1.lv = Γ.lv ∧ Γ1.ctr = Γ.ctr) := by
  have heo : ∀ x ∈ o.op.operands, opv X.G Γ2.tm x = opv X.G Γ.tm x := fun x hx => opv_congr fun t ht' => he t (by
    subst ht'
    unfold Oper.looksAt
    exact List.mem_append_left _ (List.mem_filterMap.2 ⟨.tmp t, by simpa using hx, rfl⟩))
  have hbind : mutOp X.mt o.op = false → bindS (vstep X.T X.Q X.G o Γ) (fun Γ'' => Γ'' = Γ1) → bindS (vstep X.T X.Q X.G o Γ2) (fun Γ'' => Γ'' = mix X.mt o Γ2 Γ1) ∧ (∀ t, o.dst ≠ some t → Γ1.tm t = Γ.tm t) ∧ (hpMod X.mt o.op = false → Γ1.hp = Γ.hp) ∧ (tokDep o.op = false → Γ1.lv = Γ.lv ∧ Γ1.ctr = Γ.ctr) := by
    intro hmt h
    unfold bindS at h
    split at h
    · rename_i C Γ' hv
      obtain ⟨hC, rfl⟩ := h
      obtain ⟨h1, h2⟩ := vstep_local hmt hv heo hh ht hl
      refine ⟨?_, h2⟩
      rw [h1]
      exact ⟨hC, rfl⟩
    · exact h.elim
  have hop : awpOpD X o Γ (fun Γ'' => Γ'' = Γ1) → awpOpD X o Γ2 (fun Γ'' => Γ'' = mix X.mt o Γ2 Γ1) ∧ (∀ t, o.dst ≠ some t → Γ1.tm t = Γ.tm t) ∧ (hpMod X.mt o.op = false → Γ1.hp = Γ.hp) ∧ (tokDep o.op = false → Γ1.lv = Γ.lv ∧ Γ1.ctr = Γ.ctr) := by
    intro h
    unfold awpOpD at h ⊢
    cases hmt : mutOp X.mt o.op with
    | true =>
      rw [hmt] at h
      obtain ⟨Γ', h1, hgr, rfl⟩ := h
      have hmod : hpMod X.mt o.op = true := by
        revert hmt
        cases o.op <;> simp [hpMod, mutOp]
        · intro h; exact .inl h
        · intro h; exact .inl h
        · intro h; exact .inl h
      have htok : tokDep o.op = true := by
        revert hmt
        cases o.op <;> simp [tokDep, mutOp]
        rename_i c
        obtain ⟨callee, args, tys⟩ := c
        cases callee <;> simp
        rename_i b
        cases b <;> simp
      have hhp := hh hmod
      obtain ⟨hl, hcn⟩ := ht htok
      obtain ⟨H, v, he1⟩ := mutG_out h1
      refine ⟨⟨_, mutG_local h1 heo hhp fun H' v' hk => ?_, fun ha => by
        obtain ⟨M, hM⟩ := hgr ha
        exact ⟨M, by simp only [mix, hmod, if_true]; rw [hhp]; exact hM⟩, rfl⟩, fun t ht => ?_, fun hm => (by rw [hmod] at hm; cases hm), fun hm => (by rw [htok] at hm; cases hm)⟩
      · rw [← hk]
        exact St.ext' (fun t => by simp only [mix, put_tm]; split <;> rfl) (by simp [mix, hmod]) (by simp [mix, htok, hl]) (by simp [mix, htok, hcn])
      · rw [← he1, put_tm, if_neg ht]
    | false =>
    rw [hmt] at h
    simp only [cond_false] at h ⊢
    split at h
    · rename_i c hc
      split at h
      · rename_i fo hfo
        have htok : tokDep o.op = true := by rw [hc]; simp [tokDep, hfo]
        obtain ⟨hlv, hcn⟩ := ht htok
        have hfo' : opv X.G Γ2.tm fo = opv X.G Γ.tm fo := heo fo (by rw [hc]; simp [Op.operands, Call.operands, hfo])
        have hargs : c.args.toList.map (opv X.G Γ2.tm) = c.args.toList.map (opv X.G Γ.tm) := List.map_congr_left fun x hx => heo x (by rw [hc]; simp only [Op.operands, Call.operands, Array.mem_append]; exact .inr (by simpa using hx))
        rw [hfo', hargs]
        cases hf : heapFn X.mt fo with
        | true =>
          have hmod : hpMod X.mt o.op = true := by rw [hc]; simp [hpMod, heapCall, hfo, hf]
          have hhp := hh hmod
          rw [hf] at h
          simp only [cond_true] at h ⊢
          unfold calleeH at h ⊢
          split at h
          · obtain ⟨r, M, own, h1, rfl⟩ := h
            refine ⟨⟨r, M, own, by rw [hhp, hcn]; exact h1, ?_⟩, fun t h => (by rw [put_tm, if_neg h]), fun h => (by rw [hmod] at h; cases h), fun h => (by rw [htok] at h; cases h)⟩
            rw [hlv, hcn, hhp]
            refine St.ext' (fun t => by simp only [mix, put_tm]; split <;> rfl) (by simp [mix, hmod]) (by simp [mix, htok]) (by simp [mix, htok])
          · exact h.elim
        | false =>
        have hmod : hpMod X.mt o.op = false := by rw [hc]; simp [hpMod, mutOp, heapCall, hfo, hf]
        rw [hf] at h
        simp only [cond_false] at h ⊢
        unfold calleeD at h ⊢
        split at h
        · obtain ⟨R, own, h1, rfl⟩ := h
          refine ⟨⟨R, own, h1, ?_⟩, fun t h => by rw [put_tm, if_neg h], fun _ => by simp, fun h => by rw [htok] at h; cases h⟩
          rw [hlv, hcn]
          refine St.ext' (fun t => by simp only [mix, put_tm]; split <;> rfl) (by simp [mix, hmod]) (by simp [mix, htok]) (by simp [mix, htok])
        · exact h.elim
      · exact hbind hmt h
      · exact h.elim
    · exact hbind hmt h
  unfold StepD stepG at h ⊢
  cases hg : o.guard with
  | none => simp only [hg] at h ⊢; exact hop h
  | some p =>
    obtain ⟨j, b⟩ := p
    simp only [hg] at h ⊢
    cases hs : gslot ops.toList j with
    | none => simp only [hs] at h
    | some d =>
      simp only [hs] at h ⊢
      have hd : Γ2.tm d = Γ.tm d := he d (by
        unfold Oper.looksAt
        refine List.mem_append_right _ ?_
        have hs' : (ops[j]?).bind (·.dst) = some d := by unfold gslot at hs; simpa using hs
        simp [hg, hs'])
      rw [hd]
      have hskip : Γ.put o.dst (.sc undef) = Γ1 → Γ2.put o.dst (.sc undef) = mix X.mt o Γ2 Γ1 ∧ (∀ t, o.dst ≠ some t → Γ1.tm t = Γ.tm t) ∧ (hpMod X.mt o.op = false → Γ1.hp = Γ.hp) ∧ (tokDep o.op = false → Γ1.lv = Γ.lv ∧ Γ1.ctr = Γ.ctr) := by
        rintro rfl
        exact ⟨(mix_put hh ht).symm, fun t h => by rw [put_tm, if_neg h], fun _ => by simp, fun _ => by simp⟩
      generalize Γ.tm d = v at h ⊢
      unfold guardG at h ⊢
      split at h
      · rcases ifG_iff h with ⟨hx, h1⟩ | ⟨hx, h1⟩
        · obtain ⟨h2, h3⟩ := hop h1; exact ⟨⟨fun _ => h2, fun h' => (by rw [hx] at h'; cases h')⟩, h3⟩
        · obtain ⟨h2, h3⟩ := hskip h1; exact ⟨⟨fun h' => (by rw [hx] at h'; cases h'), fun _ => h2⟩, h3⟩
      · rcases ifG_iff h with ⟨hx, h1⟩ | ⟨hx, h1⟩
        · obtain ⟨h2, h3⟩ := hskip h1; exact ⟨⟨fun _ => h2, fun h' => (by rw [hx] at h'; cases h')⟩, h3⟩
        · obtain ⟨h2, h3⟩ := hop h1; exact ⟨⟨fun h' => (by rw [hx] at h'; cases h'), fun _ => h2⟩, h3⟩
      · exact hskip h
      · exact h.elim

/-- A call that hangs on the objects only adds to them. -/
theorem StepD.grow (h : StepD X ops.toList o Γ Γ1) (hc : grows X.mt o.op = true) : ∃ M, Γ1.hp = Γ.hp ++ M := by
  have hop : awpOpD X o Γ (fun Γ'' => Γ'' = Γ1) → ∃ M, Γ1.hp = Γ.hp ++ M := by
    intro h
    unfold awpOpD at h
    cases hop : o.op with
    | box t x =>
      rw [hop] at h
      simp only [mutOp, cond_false] at h
      unfold vstep vmake at h
      simp only [hop, vval] at h
      unfold bindS at h
      split at h
      · rename_i C Γ' hv
        obtain ⟨_, rfl⟩ := h
        split at hv <;> cases hv
        exact ⟨_, by simp; rfl⟩
      · exact h.elim
    | alloc t =>
      rw [hop] at h
      simp only [mutOp, cond_false] at h
      unfold vstep vmake at h
      simp only [hop, vval] at h
      unfold bindS at h
      split at h
      · rename_i C Γ' hv
        obtain ⟨_, rfl⟩ := h
        split at hv <;> try cases hv
        split at hv <;> cases hv
        exact ⟨_, by simp; rfl⟩
      · exact h.elim
    | call c =>
      rw [hop] at h hc
      unfold grows heapCall addApp at hc
      simp only at hc h
      cases hcal : c.callee with
      | value fo =>
        rw [hcal] at hc
        simp only [Bool.or_false] at hc
        have : mutOp X.mt (.call c) = false := by
          obtain ⟨callee, args, tys⟩ := c
          simp only at hcal
          subst hcal
          simp [mutOp]
        rw [this] at h
        simp only [cond_false, hcal, hc, cond_true] at h
        unfold calleeH at h
        split at h
        · obtain ⟨r, M, own, _, rfl⟩ := h
          exact ⟨M, by simp⟩
        · exact h.elim
      | builtin b =>
        rw [hcal] at hc
        cases b <;> simp only [Bool.or_false, Bool.false_or, Bool.false_eq_true] at hc
        have hmt : mutOp X.mt (.call c) = true := by
          simp only [mutOp, hcal]
          simp only [Bool.and_eq_true] at hc
          exact hc.1
        rw [hmt] at h
        obtain ⟨Γ', _, hg, rfl⟩ := h
        exact hg (by rw [hop]; simp only [addApp, hcal]; exact hc)
      | invoke r m => rw [hcal] at hc; simp at hc
    | _ => rw [hop] at hc; cases hc
  have hskip : Γ.put o.dst (.sc undef) = Γ1 → ∃ M, Γ1.hp = Γ.hp ++ M := by
    rintro rfl
    exact ⟨[], by simp⟩
  unfold StepD stepG at h
  cases hg : o.guard with
  | none => simp only [hg] at h; exact hop h
  | some p =>
    obtain ⟨j, b⟩ := p
    simp only [hg] at h
    cases hs : gslot ops.toList j with
    | none => simp only [hs] at h
    | some d =>
      simp only [hs] at h
      generalize Γ.tm d = v at h
      unfold guardG at h
      split at h
      · rcases ifG_iff h with ⟨_, h1⟩ | ⟨_, h1⟩
        · exact hop h1
        · exact hskip h1
      · rcases ifG_iff h with ⟨_, h1⟩ | ⟨_, h1⟩
        · exact hskip h1
        · exact hop h1
      · exact hskip h
      · exact h.elim

theorem vload_more {T : Tab} {H M : List (List V)} {t : TypeId} {x y : V} (h : vload T H t x = some y) : vload T (H ++ M) t x = some y := by
  unfold vload at h ⊢
  split at h
  · rename_i o off
    split at h
    · rename_i cs hcs
      rw [List.getElem?_append_left (List.getElem?_eq_some_iff.1 hcs).1, hcs]
      exact h
    · cases h
  · exact h
  · cases h
theorem vload_less {T : Tab} {H M : List (List V)} {t : TypeId} {x y : V} (h : vload T (H ++ M) t x = some y) (hr : ∀ o off, x = .ref o off → o < H.length) : vload T H t x = some y := by
  unfold vload at h ⊢
  split at h
  · rename_i o off
    rw [List.getElem?_append_left (hr o off rfl)] at h
    exact h
  · exact h
  · cases h
end
end Go.VS
