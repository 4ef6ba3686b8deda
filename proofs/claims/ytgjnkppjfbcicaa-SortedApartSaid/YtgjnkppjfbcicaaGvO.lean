/- Every order of a region comes to what the text's order comes to. -/
import Derived.Test.YtgjnkppjfbcicaaGvN
namespace Go.VS
open Go.RowKit Go.Lib

theorem HoldsG.drew {G : Nat → Option (List V)} {E0 : Env} {N : Nat} {Γ : St} {a : Act} {w : World} (h : HoldsG G E0 N Γ a w) : HoldsG G E0 N Γ a w.drew := by
  obtain ⟨E, rfl, hh, hG⟩ := h
  exact ⟨_, rfl, hh.drew.2, hG.le hh.drew.1⟩

theorem count_set {f g : Nat → Bool} {i : Nat} (hf : f i = true) (hg : g i = false) (h : ∀ k, k ≠ i → g k = f k) : ∀ n, (List.range n).countP g + (if i < n then 1 else 0) = (List.range n).countP f
  | 0 => by simp
  | n + 1 => by
    have ih := count_set hf hg h n
    rw [List.range_succ, List.countP_append, List.countP_append]
    by_cases he : n = i
    · subst he
      simp [hf, hg] at ih ⊢
      exact ih
    · have e1 : (List.countP g [n]) = List.countP f [n] := by simp [List.countP_cons, h n he]
      rw [e1]
      by_cases hlt : i < n
      · rw [if_pos hlt] at ih; rw [if_pos (by omega)]; omega
      · rw [if_neg hlt] at ih; rw [if_neg (by omega)]; omega

section
variable {X : Ctx} (hP : ProgOk X.P X.T X.Q) {E0 : Env} {N : Nat} (hsz : E0.sz = X.P.cellsOf)
include hP hsz

theorem opD_sound {Γ Γ' : St} {a : Act} {w : World} {o : Oper} {next : Act → World → Prop} {Q' : Exit → Act → World → Prop} (h : HoldsG X.G E0 N Γ a w) (hd : ∀ k, o.dst = some k → k < N)
    (hs : awpOpD X o Γ fun Γ'' => Γ'' = Γ') (hk : ∀ a' w', HoldsG X.G E0 N Γ' a' w' → next a' w') : o.wp X.P a w next Q' := by
  have hop : awpOp X o Γ fun Γ'' => Γ'' = Γ' := by
    unfold awpOpD at hs
    unfold awpOp
    cases hmt : mutOp X.mt o.op with
    | true =>
      rw [hmt] at hs
      obtain ⟨Γ1, h1, _, rfl⟩ := hs
      exact h1
    | false =>
    rw [hmt] at hs
    simp only [cond_false] at hs ⊢
    clear hmt
    cases hop : o.op with
    | call c =>
      simp only [hop] at hs ⊢
      cases hcal : c.callee with
      | value fo =>
        simp only [hcal] at hs ⊢
        generalize opv X.G Γ.tm fo = v at hs ⊢
        cases hf : heapFn X.mt fo with
        | true =>
          rw [hf] at hs
          simp only [cond_true] at hs
          unfold calleeH at hs
          unfold calleeG
          split at hs
          · obtain ⟨r, M, own, h1, rfl⟩ := hs
            refine h1.mono ?_
            rintro r H' lv' c' ⟨rfl, rfl, rfl, rfl⟩
            rfl
          · exact hs.elim
        | false =>
        rw [hf] at hs
        simp only [cond_false] at hs
        unfold calleeD at hs
        unfold calleeG
        split at hs
        · obtain ⟨R, own, h1, rfl⟩ := hs
          refine (h1 Γ.hp Γ.ctr).mono ?_
          rintro r H' lv' c' ⟨rfl, rfl, rfl, rfl⟩
          rfl
        · exact hs.elim
      | builtin b => simp only [hcal] at hs ⊢; exact hs
      | invoke r m => simp only [hcal] at hs
    | _ => simp only [hop] at hs ⊢; exact hs
  exact op_sound hP hsz h hd hop fun Γ'' a' w' e hh => hk a' w' (e ▸ hh)

theorem stepD_sound {ops : Array Oper} {Γ Γ' : St} {a : Act} {w : World} {o : Oper} {next : Act → World → Prop} {Q' : Exit → Act → World → Prop} (h : HoldsG X.G E0 N Γ a w) (hd : ∀ k, o.dst = some k → k < N)
    (hops : ∀ o ∈ ops.toList, ∀ k, o.dst = some k → k < N) (hs : StepD X ops.toList o Γ Γ') (hk : ∀ a' w', HoldsG X.G E0 N Γ' a' w' → next a' w') :
    if Region.wanted o (yielded ops a.tmps) = true then o.wp X.P a w next Q' ∨ (o.asks X.P a w ∧ LetsOut Q') else next (a.put o.dst undef) w := by
  have hyes : awpOpD X o Γ (fun Γ'' => Γ'' = Γ') → Region.wanted o (yielded ops a.tmps) = true → if Region.wanted o (yielded ops a.tmps) = true then o.wp X.P a w next Q' ∨ (o.asks X.P a w ∧ LetsOut Q') else next (a.put o.dst undef) w := fun h1 hw => by
    rw [if_pos hw]; exact .inl (opD_sound hP hsz h hd h1 hk)
  have hno : Γ.put o.dst (.sc undef) = Γ' → Region.wanted o (yielded ops a.tmps) = false → if Region.wanted o (yielded ops a.tmps) = true then o.wp X.P a w next Q' ∨ (o.asks X.P a w ∧ LetsOut Q') else next (a.put o.dst undef) w := fun h1 hw => by
    rw [if_neg (by simp [hw])]
    obtain ⟨E, rfl, hh, hG⟩ := h
    exact hk _ _ ⟨E, rfl, h1 ▸ hh.put hd (.sc undef), hG⟩
  unfold StepD stepG at hs
  cases hg : o.guard with
  | none =>
    simp only [hg] at hs
    exact hyes hs (by simp [Region.wanted, hg])
  | some p =>
    obtain ⟨j, b⟩ := p
    simp only [hg] at hs
    cases hsl : gslot ops.toList j with
    | none => simp only [hsl] at hs
    | some d =>
      simp only [hsl] at hs
      have hdN : d < N := by
        unfold gslot at hsl
        cases ho : ops.toList[j]? with
        | none => rw [ho] at hsl; simp at hsl
        | some o' => rw [ho] at hsl; exact hops o' (List.mem_of_getElem? ho) d (by simpa using hsl)
      obtain ⟨hw1, hw2⟩ := wanted_of hP hsz h hg hsl hdN
      unfold guardG at hs
      split at hs
      · rename_i x hx
        have := hw1 x hx
        rcases ifG_iff hs with ⟨hxx, h1⟩ | ⟨hxx, h1⟩
        · exact hyes h1 (by rw [this, hxx]; rfl)
        · exact hno h1 (by rw [this, hxx]; rfl)
      · rename_i x hx
        have := hw1 x hx
        rcases ifG_iff hs with ⟨hxx, h1⟩ | ⟨hxx, h1⟩
        · exact hno h1 (by rw [this, hxx]; rfl)
        · exact hyes h1 (by rw [this, hxx]; rfl)
      · rename_i vs hx
        exact hno hs (hw2 vs hx)
      · exact hs.elim

omit hP hsz in
theorem okCut_spec {p : Nat} {ops : Array Oper} (h : okCut X.mt p ops = true) : p ≤ ops.size ∧ (∀ j o, ops[j]? = some o → ∀ e ∈ o.after, Region.binds .any e = true → e.on < j) ∧
    ∀ i j x y, i < j → ops[i]? = some x → ops[j]? = some y → (p ≤ j ∨ clash X.mt ops x y = true) → ((Region.before ops).getD j 0).testBit i = true := by
  unfold okCut at h
  simp only [List.all_eq_true, List.mem_range, Bool.and_eq_true, Array.all_eq_true_iff_forall_mem, Bool.or_eq_true, Bool.not_eq_true', decide_eq_true_eq] at h
  obtain ⟨hp, h⟩ := h
  refine ⟨hp, fun j o ho e he hb => ?_, fun i j x y hij hx hy hc => ?_⟩
  · have hj : j < ops.size := (Array.getElem?_eq_some_iff.1 ho).1
    have := (h j hj).1
    rw [getD_some ho] at this
    exact (this e he).resolve_left (by simp [hb])
  · have hj : j < ops.size := (Array.getElem?_eq_some_iff.1 hy).1
    have := (h j hj).2 i hij
    rw [getD_some hx, getD_some hy] at this
    refine this.resolve_left fun ⟨h1, h2⟩ => ?_
    rcases hc with hc | hc
    · omega
    · rw [hc] at h2; cases h2

omit hP hsz in
theorem count_from {f : Nat → Bool} {p : Nat} (h : ∀ i, f i = decide (p ≤ i)) : ∀ n, n - p ≤ (List.range n).countP f
  | 0 => by simp
  | n + 1 => by
    have ih := count_from h n
    rw [List.range_succ, List.countP_append]
    simp only [List.countP_cons, List.countP_nil, h n]
    by_cases hp : p ≤ n <;> simp [hp] <;> omega

/-- One operation of a region in the text's order. -/
theorem opsStep_sound {ops : Array Oper} {o : Oper} {rest : List Oper} {K : St → Prop} {Γ : St} {a : Act} {w : World} {next : Act → World → Prop} {Q' : Exit → Act → World → Prop} (hd : ∀ k, o.dst = some k → k < N) (hops : ∀ o ∈ ops.toList, ∀ k, o.dst = some k → k < N) (h : HoldsG X.G E0 N Γ a w)
    (hs : awpOps X ops.toList (o :: rest) Γ K) (hk : ∀ Γ' a' w', awpOps X ops.toList rest Γ' K → HoldsG X.G E0 N Γ' a' w' → next a' w') :
    if Region.wanted o (yielded ops a.tmps) = true then o.wp X.P a w next Q' ∨ (o.asks X.P a w ∧ LetsOut Q') else next (a.put o.dst undef) w := by
  have hyes : (awpOp X o Γ fun Γ' => awpOps X ops.toList rest Γ' K) → Region.wanted o (yielded ops a.tmps) = true → if Region.wanted o (yielded ops a.tmps) = true then o.wp X.P a w next Q' ∨ (o.asks X.P a w ∧ LetsOut Q') else next (a.put o.dst undef) w := by
    intro h1 hw
    rw [if_pos hw]
    exact .inl (op_sound hP hsz h hd h1 hk)
  have hno : awpOps X ops.toList rest (Γ.put o.dst (.sc undef)) K → Region.wanted o (yielded ops a.tmps) = false → if Region.wanted o (yielded ops a.tmps) = true then o.wp X.P a w next Q' ∨ (o.asks X.P a w ∧ LetsOut Q') else next (a.put o.dst undef) w := by
    intro h1 hw
    rw [if_neg (by simp [hw])]
    obtain ⟨E, rfl, hh, hG⟩ := h
    exact hk _ _ _ h1 ⟨E, rfl, hh.put hd (.sc undef), hG⟩
  unfold awpOps at hs
  split at hs
  · rename_i hg
    exact hyes hs (by simp [Region.wanted, hg])
  · rename_i j b hg
    split at hs
    · rename_i d hsl
      have hdN : d < N := by
        unfold gslot at hsl
        cases ho : ops.toList[j]? with
        | none => rw [ho] at hsl; simp at hsl
        | some o' => rw [ho] at hsl; exact hops o' (List.mem_of_getElem? ho) d (by simpa using hsl)
      obtain ⟨hw1, hw2⟩ := wanted_of hP hsz h hg hsl hdN
      unfold guardG at hs
      split at hs
      · rename_i x hx
        have := hw1 x hx
        rcases ifG_iff hs with ⟨hxx, h1⟩ | ⟨hxx, h1⟩
        · exact hyes h1 (by rw [this, hxx]; rfl)
        · exact hno h1 (by rw [this, hxx]; rfl)
      · rename_i x hx
        have := hw1 x hx
        rcases ifG_iff hs with ⟨hxx, h1⟩ | ⟨hxx, h1⟩
        · exact hno h1 (by rw [this, hxx]; rfl)
        · exact hyes h1 (by rw [this, hxx]; rfl)
      · rename_i vs hx
        exact hno hs (hw2 vs hx)
      · exact hs.elim
    · exact hs.elim

/-- What comes behind the cut. -/
theorem tail_sound {ops : Array Oper} {p : Nat} {K : St → Prop} {Q' : Exit → Act → World → Prop} (hok : okCut X.mt p ops = true) (hops : ∀ o ∈ ops.toList, ∀ k, o.dst = some k → k < N) (hk : ∀ Γ' a' w', K Γ' → HoldsG X.G E0 N Γ' a' w' → Q' .normal a' w') :
    ∀ (fuel m : Nat) (listed : Array Bool) (Γ : St) (a : Act) (w : World), listed.size = ops.size → p ≤ m → m ≤ ops.size → ops.size - m ≤ fuel → (∀ i, i < ops.size → listed.getD i false = decide (i < m)) → awpOps X ops.toList (ops.toList.drop m) Γ K →
      HoldsG X.G E0 N Γ a w → wpAny X.P .any ops Q' fuel listed a w := by
  obtain ⟨hple, hback, hcl0⟩ := okCut_spec hok
  have hfin : ∀ (m : Nat) (listed : Array Bool) (Γ : St) (a : Act) (w : World), listed.size = ops.size → m ≤ ops.size → (∀ i, i < ops.size → listed.getD i false = decide (i < m)) → awpOps X ops.toList (ops.toList.drop m) Γ K → HoldsG X.G E0 N Γ a w → Region.ready .any ops listed = [] → Q' .normal a w := by
    intro m listed Γ a w hls hm hL hs hh hr
    have hms : m = ops.size := by
      rcases Nat.lt_or_eq_of_le hm with hlt | h
      · exfalso
        have hmem : m ∈ Region.ready .any ops listed := mem_ready.2 ⟨by
          have := hL m hlt
          have hl2 : m < listed.size := by omega
          simpa [Array.getD, hl2] using this, ops[m], Array.getElem?_eq_getElem hlt, fun e he hb => by
            have hlt2 := hback m _ (Array.getElem?_eq_getElem hlt) e he hb
            rw [hL e.on (by omega)]
            simp [hlt2]⟩
        rw [hr] at hmem
        cases hmem
      · exact h
    subst hms
    rw [List.drop_eq_nil_of_le (by simp)] at hs
    exact hk _ _ _ hs hh
  intro fuel
  induction fuel with
  | zero =>
    intro m listed Γ a w hls hp hm hf hL hs hh
    have hms : m = ops.size := by omega
    have hr : Region.ready .any ops listed = [] := by
      rw [List.eq_nil_iff_forall_not_mem]
      intro i hi
      obtain ⟨h1, o, ho, _⟩ := mem_ready.1 hi
      have hlt : i < ops.size := (Array.getElem?_eq_some_iff.1 ho).1
      have h2 := hL i hlt
      have hl2 : i < listed.size := by omega
      have h3 : listed.getD i false = false := by simpa [Array.getD, hl2] using h1
      rw [h3] at h2
      have h4 := of_decide_eq_false h2.symm
      omega
    exact ⟨hr, hfin m listed Γ a w hls hm hL hs hh hr⟩
  | succ fuel ih =>
    intro m listed Γ a w hls hp hm hf hL hs hh
    refine ⟨fun hr => hfin m listed Γ a w hls hm hL hs hh hr, fun j hj => ?_⟩
    obtain ⟨h1, o, ho, hedge⟩ := mem_ready.1 hj
    have hjlt : j < ops.size := (Array.getElem?_eq_some_iff.1 ho).1
    have hLj : listed.getD j false = false := by
      have hl2 : j < listed.size := by omega
      simpa [Array.getD, hl2] using h1
    have hjm : m ≤ j := by
      have h2 := hL j hjlt
      rw [hLj] at h2
      have := of_decide_eq_false h2.symm
      omega
    have hcl : Closed ops (fun i => listed.getD i false) := ⟨fun i x hx hLx e he hb => by
      have hi : i < ops.size := (Array.getElem?_eq_some_iff.1 hx).1
      have h2 := hback i x hx e he hb
      simp only [hL i hi, decide_eq_true_eq] at hLx
      simp only [hL e.on (by omega), decide_eq_true_eq]
      omega⟩
    have hje : j = m := by
      rcases Nat.lt_or_eq_of_le hjm with hlt | h
      · exfalso
        have h2 := hcl.before j o ho hedge m (hcl0 m j _ o hlt (Array.getElem?_eq_getElem (by omega)) ho (.inl (by omega)))
        simp only [hL m (by omega), Nat.lt_irrefl, decide_false] at h2
        cases h2
      · exact h.symm
    subst hje
    have hdrop : ops.toList.drop j = o :: ops.toList.drop (j + 1) := by
      have hj2 : j < ops.toList.length := by simpa using hjlt
      rw [List.drop_eq_getElem_cons hj2]
      congr 1
      rw [Array.getElem?_eq_getElem hjlt] at ho
      injection ho with ho
    rw [hdrop] at hs
    unfold wpOp
    rw [ho]
    have hset : ∀ k, (listed.setIfInBounds j true).getD k false = if k = j then true else listed.getD k false := fun k => by
      by_cases hkj : k = j
      · subst hkj
        have hl2 : k < listed.size := by omega
        simp [Array.getD, hl2]
      · rw [if_neg hkj]
        simp only [Array.getD_eq_getD_getElem?]
        rw [Array.getElem?_setIfInBounds_ne (fun e => hkj e.symm)]
    refine opsStep_sound hP hsz (hops o (by rw [← Array.getElem?_toList] at ho; exact List.mem_of_getElem? ho)) hops hh hs fun Γ' a' w' hs' hh' => ?_
    refine ih (j + 1) (listed.setIfInBounds j true) Γ' a' w' (by simpa using hls) (by omega) (by omega) (by omega) (fun i hi => ?_) hs' hh'
    rw [hset, hL i hi]
    by_cases hij : i = j
    · simp [hij]
    · rw [if_neg hij]
      have : (i < j) = (i < j + 1) := propext ⟨fun h => by omega, fun h => by omega⟩
      simp only [this]

theorem any_sound {ops : Array Oper} {p : Nat} {S : Nat → St} {K : St → Prop} (ht : Text X ops p S) (hok : okCut X.mt p ops = true) (hops : ∀ o ∈ ops.toList, ∀ k, o.dst = some k → k < N) {Q' : Exit → Act → World → Prop}
    (hk : ∀ Γ' a' w', K Γ' → HoldsG X.G E0 N Γ' a' w' → Q' .normal a' w') (hK : awpOps X ops.toList (ops.toList.drop p) (S p) K) :
    ∀ (fuel : Nat) (listed : Array Bool) (a : Act) (w : World), listed.size = ops.size → (List.range ops.size).countP (fun i => !listed.getD i false) ≤ fuel → Closed ops (fun i => listed.getD i false) →
      (∀ i, p ≤ i → listed.getD i false = false) → HoldsG X.G E0 N (replay X.mt ops S (fun i => listed.getD i false) p) a w → wpAny X.P .any ops Q' fuel listed a w := by
  obtain ⟨hple, hback, hcl0⟩ := okCut_spec hok
  have hclash : ∀ i j x y, i < j → ops[i]? = some x → ops[j]? = some y → clash X.mt ops x y = true → ((Region.before ops).getD j 0).testBit i = true := fun i j x y h1 h2 h3 h4 => hcl0 i j x y h1 h2 h3 (.inr h4)
  have hall : ∀ (listed : Array Bool), listed.size = ops.size → Region.ready .any ops listed = [] → ∀ i, i < ops.size → listed.getD i false = true := by
    intro listed hls hr i
    induction i using Nat.strongRecOn with
    | _ i ih =>
      intro hi
      cases hL : listed.getD i false with
      | true => rfl
      | false =>
        exfalso
        have hmem : i ∈ Region.ready .any ops listed := mem_ready.2 ⟨by
          have hlt : i < listed.size := by omega
          simpa [Array.getD, hlt] using hL, ops[i], Array.getElem?_eq_getElem hi, fun e he hb => by
            have hlt := hback i _ (Array.getElem?_eq_getElem hi) e he hb
            exact ih e.on hlt (by omega)⟩
        rw [hr] at hmem
        cases hmem
  have hfull : ∀ (fuel : Nat) (listed : Array Bool) (a : Act) (w : World), listed.size = ops.size → (List.range ops.size).countP (fun i => !listed.getD i false) ≤ fuel → (∀ i, p ≤ i → listed.getD i false = false) → HoldsG X.G E0 N (replay X.mt ops S (fun i => listed.getD i false) p) a w →
      (∀ i, i < p → listed.getD i false = true) → wpAny X.P .any ops Q' fuel listed a w := by
    intro fuel listed a w hls hc hnp hh hall'
    rw [replay_all ht p (Nat.le_refl _) hall'] at hh
    have hval : ∀ i, listed.getD i false = decide (i < p) := fun i => by
      by_cases hip : i < p
      · rw [hall' i hip]; simp [hip]
      · rw [hnp i (by omega)]; simp [hip]
    refine tail_sound hP hsz hok hops hk fuel p listed (S p) a w hls (Nat.le_refl _) hple ?_ (fun i _ => hval i) hK hh
    have := count_from (f := fun i => !listed.getD i false) (p := p) (fun i => by rw [hval]; by_cases h : i < p <;> simp [h] <;> omega) ops.size
    omega
  intro fuel
  induction fuel with
  | zero =>
    intro listed a w hls hc hcl hnp hh
    refine hfull 0 listed a w hls hc hnp hh fun i hi => ?_
    have := List.countP_eq_zero.1 (Nat.le_zero.1 hc) i (List.mem_range.2 (by omega))
    simpa using this
  | succ fuel ih =>
    intro listed a w hls hc hcl hnp hh
    by_cases hfl : ∀ i, i < p → listed.getD i false = true
    · exact hfull (fuel + 1) listed a w hls hc hnp hh hfl
    refine ⟨fun hr => (hfl fun i hi => hall listed hls hr i (by omega)).elim, fun j hj => ?_⟩
    obtain ⟨h1, o, ho, hedge⟩ := mem_ready.1 hj
    have hjlt : j < ops.size := (Array.getElem?_eq_some_iff.1 ho).1
    have hjp : j < p := by
      rcases Nat.lt_or_ge j p with h | h
      · exact h
      · exact (hfl fun i hi => hcl.before j o ho hedge i (hcl0 i j _ o (by omega) (Array.getElem?_eq_getElem (by omega)) ho (.inl h))).elim
    have hL : listed.getD j false = false := by
      have hl2 : j < listed.size := by omega
      simpa [Array.getD, hl2] using h1
    -- what is ahead of j has come up; what hangs on j has not
    have hpre : ∀ k x, k < j → ops[k]? = some x → clash X.mt ops x o = true → listed.getD k false = true := fun k x hkj hx hcx =>
      hcl.before j o ho hedge k (hclash k j x o hkj hx ho hcx)
    have hpost : ∀ k y, j < k → ops[k]? = some y → listed.getD k false = true → clash X.mt ops o y = true → False := fun k y hjk hy hLk hcx => by
      have := hcl.before k y hy (fun e he hb => hcl.edge k y hy hLk e he hb) j (hclash j k o y hjk ho hy hcx)
      rw [hL] at this
      cases this
    have hmodT : ∀ k y, ops[k]? = some y → hpMod X.mt y.op = true → ∀ i x, i < k → ops[i]? = some x → hpMod X.mt x.op = true → listed.getD k false = true → listed.getD i false = true := fun k y hy hm i x hik hx hmx hLk => by
      have hnl : isLoad y.op = false := by
        revert hm
        cases y.op <;> simp [isLoad, hpMod, mutOp, heapCall]
      exact hcl.before k y hy (fun e he hb => hcl.edge k y hy hLk e he hb) i (hclash i k x y hik hx hy (by unfold clash; simp [hmx, hpDep_of_mod hm, hnl]))
    have hlate : ∀ k y, j ≤ k → ops[k]? = some y → listed.getD k false = true → j < k := fun k y hjk hy hLk => by
      rcases Nat.lt_or_eq_of_le hjk with h | h
      · exact h
      · subst h; rw [hL] at hLk; cases hLk
    have hloc := (ht.step j o hjp ho).local (Γ2 := replay X.mt ops S (fun i => listed.getD i false) p)
      (fun t htl => by
        rw [replay_tm_late (X := X) (S := S) t j p (by omega) hple (fun k y h1 h2 hy hLk hdy => hpost k y (hlate k y h1 hy hLk) hy hLk (by
          unfold clash; simp [hdy, htl]))]
        exact replay_tm ht t j (by omega) (fun k x hkj hx hdx => hpre k x hkj hx (by unfold clash; simp [hdx, htl])))
      (fun hhp => by
        have hnl : isLoad o.op = false := by
          revert hhp
          cases o.op <;> simp [isLoad, hpMod, mutOp, heapCall]
        rw [replay_hp_late (X := X) (S := S) j p (by omega) hple (fun k y h1 h2 hy hLk => by
          cases hm : hpMod X.mt y.op with
          | false => rfl
          | true => exact (hpost k y (hlate k y h1 hy hLk) hy hLk (by unfold clash; simp [hm, hpDep_of_mod hhp, hnl])).elim)]
        exact replay_hp ht j (by omega) (fun k x hkj hx hm => hpre k x hkj hx (by unfold clash; simp [hm, hpDep_of_mod hhp, hnl])))
      (fun htk => by
        have h2 := replay_tok_late (X := X) (S := S) (L := fun i => listed.getD i false) j p (by omega) hple (fun k y h1 h2 hy hLk => by
          cases hm : tokDep y.op with
          | false => rfl
          | true => exact (hpost k y (hlate k y h1 hy hLk) hy hLk (by unfold clash; simp [hm, htk])).elim)
        have h3 := replay_tok ht (L := fun i => listed.getD i false) j (by omega) (fun k x hkj hx hm => hpre k x hkj hx (by unfold clash; simp [hm, htk]))
        exact ⟨h2.1.trans h3.1, h2.2.trans h3.2⟩)
      (fun t ad y hop hy => by
        -- the first of what turns the heap that has not come up
        obtain ⟨k, hks, hk1, hk2⟩ := first_not (fun i => match ops[i]? with | some x => !hpMod X.mt x.op || listed.getD i false | none => true) p
        have hk1' : ∀ i x, i < k → ops[i]? = some x → hpMod X.mt x.op = true → listed.getD i false = true := fun i x hi hx hm => by
          have := hk1 i hi
          rw [hx] at this
          simpa [hm] using this
        have hk2' : ∀ i x, k ≤ i → ops[i]? = some x → hpMod X.mt x.op = true → listed.getD i false = false := fun i x hi hx hm => by
          rcases Nat.lt_or_ge i p with hip | hip
          case inr => exact hnp i hip
          have hil : i < ops.size := (Array.getElem?_eq_some_iff.1 hx).1
          have hkl : k < ops.size := by omega
          have hk3 := hk2 (by omega)
          rw [Array.getElem?_eq_getElem hkl] at hk3
          simp only [Bool.or_eq_false_iff, Bool.not_eq_false'] at hk3
          by_cases he : i = k
          · rw [he]; exact hk3.2
          · cases hLi : listed.getD i false with
            | false => rfl
            | true =>
              have := hmodT i x hx hm k _ (by omega) (Array.getElem?_eq_getElem hkl) hk3.1 hLi
              rw [hk3.2] at this
              cases this
        have hhpk : (replay X.mt ops S (fun i => listed.getD i false) p).hp = (S k).hp := by
          rw [replay_hp_late (X := X) (S := S) k p hks hple (fun i x h1 h2 hx hLi => by
            cases hm : hpMod X.mt x.op with
            | false => rfl
            | true => have := hk2' i x h1 hx hm; rw [this] at hLi; cases hLi)]
          exact replay_hp ht k hks hk1'
        have hld : isLoad o.op = true := by rw [hop]; rfl
        have hdep : hpDep X.mt o.op = true := by rw [hop]; rfl
        rw [hhpk]
        rcases Nat.lt_or_ge k j with hkj | hkj
        · obtain ⟨M, hM⟩ := ht.grows (a := k) j (by omega) (by omega) (fun i x h1 h2 hx hm => by
            cases hcc : grows X.mt x.op with
            | true => rfl
            | false =>
              have h3 := hpre i x h2 hx (by unfold clash; simp [hm, hdep, hcc])
              rw [hk2' i x h1 hx hm] at h3
              cases h3)
          rw [hM] at hy
          refine vload_less hy fun ob off hr => ?_
          obtain ⟨E, _, hh, _⟩ := hh
          cases ad with
          | tmp t =>
            have h := hh.tm t
            rw [show (replay X.mt ops S (fun i => listed.getD i false) p).tm t = .ref ob off from hr] at h
            have h2 := h.ref_inv.2
            rw [hh.objs.nob, hhpk] at h2
            exact h2
          | const v =>
            simp only [opv] at hr
            unfold constV at hr
            split at hr
            · split at hr <;> cases hr
            · cases hr
          | global g =>
            simp only [opv] at hr
            split at hr <;> cases hr
          | func g => simp only [opv] at hr; cases hr
        · obtain ⟨M, hM⟩ := ht.grows (a := j) k hkj hks (fun i x h1 h2 hx hm => by
            cases hcc : grows X.mt x.op with
            | true => rfl
            | false =>
              have h3 := hk1' i x h2 hx hm
              have h4 := hlate i x h1 hx h3
              exact (hpost i x h4 hx h3 (by unfold clash; simp [hm, hdep, hcc])).elim)
          rw [hM]
          exact vload_more hy)
    have hset : ∀ k, (listed.setIfInBounds j true).getD k false = if k = j then true else listed.getD k false := fun k => by
      by_cases hkj : k = j
      · subst hkj
        have hl2 : k < listed.size := by omega
        simp [Array.getD, hl2]
      · rw [if_neg hkj]
        simp only [Array.getD_eq_getD_getElem?]
        rw [Array.getElem?_setIfInBounds_ne (fun e => hkj e.symm)]
    have hnext := replay_more (X := X) (S := S) (L := fun i => listed.getD i false) (L' := fun i => (listed.setIfInBounds j true).getD i false) hL (by simp only [hset, if_true]) (fun i hi => by simp only [hset]; rw [if_neg hi]) ho
      (fun k y hjk hy hLk => by
        refine ⟨fun t ⟨h1, h2⟩ => ?_, fun ⟨h1, h2⟩ => ?_, fun ⟨h1, h2⟩ => ?_⟩
        · exact hpost k y hjk hy hLk (by unfold clash; simp [h1, h2])
        · have hnl : ∀ z : Op, hpMod X.mt z = true → isLoad z = false := fun z => by cases z <;> simp [isLoad, hpMod, mutOp, heapCall]
          exact hpost k y hjk hy hLk (by unfold clash; simp [h2, hpDep_of_mod h1, hnl _ h1])
        · exact hpost k y hjk hy hLk (by unfold clash; simp [h1, h2])) p hjp hple
    unfold wpOp
    rw [ho]
    refine stepD_sound hP hsz hh (hops o (by rw [← Array.getElem?_toList] at ho; exact List.mem_of_getElem? ho)) hops hloc.1 fun a' w' hh' => ?_
    refine ih (listed.setIfInBounds j true) a' w' (by simpa using hls) ?_ ⟨fun i x hx hLx e he hb => ?_⟩ (fun i hi => by rw [hset, if_neg (by omega)]; exact hnp i hi) (by rw [hnext]; exact hh')
    · have := count_set (f := fun i => !listed.getD i false) (g := fun i => !(listed.setIfInBounds j true).getD i false) (i := j) (by simp [hL]) (by simp [hset]) (fun k hk => by simp [hset, hk]) ops.size
      rw [if_pos hjlt] at this
      omega
    · simp only [hset] at hLx ⊢
      by_cases he' : e.on = j
      · rw [if_pos he']
      · rw [if_neg he']
        by_cases hij : i = j
        · subst hij
          rw [ho] at hx; injection hx with hx; subst hx
          exact hedge e he hb
        · rw [if_neg hij] at hLx
          exact hcl.edge i x hx hLx e he hb

/-- A region whose order is drawn. -/
theorem drawAny_sound {ops : Array Oper} {K : St → Prop} {Q' : Exit → Act → World → Prop} {Γ : St} {a : Act} {w : World} (h : HoldsG X.G E0 N Γ a w) {p : Nat} (hok : okCut X.mt p ops = true)
    (hops : ∀ o ∈ ops.toList, ∀ k, o.dst = some k → k < N) (hs : awpOpsD X ops.toList (ops.toList.take p) Γ fun Γ' => awpOps X ops.toList (ops.toList.drop p) Γ' K) (hk : ∀ Γ' a' w', K Γ' → HoldsG X.G E0 N Γ' a' w' → Q' .normal a' w') : wpAny X.P .any ops Q' ops.size (Array.replicate ops.size false) a w.drew := by
  obtain ⟨hple, _, _⟩ := okCut_spec hok
  obtain ⟨Ss, hc, hK⟩ := chain_of (ops.toList.take p) Γ _ hs
  obtain ⟨hlen, hstep⟩ := hc.step
  let S : Nat → St := fun i => (Γ :: Ss).getD i Γ
  have hSl : (Γ :: Ss).length = p + 1 := by simp [hlen]; omega
  have hSi : ∀ i, i ≤ p → (Γ :: Ss)[i]? = some (S i) := fun i hi => by
    have hlt : i < (Γ :: Ss).length := by omega
    simp only [S, List.getD_eq_getElem?_getD, List.getElem?_eq_getElem hlt, Option.getD_some]
  have ht : Text X ops p S := ⟨hple, fun i o hi ho => by
    exact hstep i o (S i) (S (i + 1)) (by rw [List.getElem?_take, if_pos hi]; simpa using ho) (hSi i (by omega)) (hSi (i + 1) (by omega))⟩
  have hlast : S p = (Γ :: Ss).getLast (by simp) := by
    have h1 := hSi p (Nat.le_refl _)
    have h2 : (Γ :: Ss).length - 1 = p := by omega
    have h3 : (Γ :: Ss)[(Γ :: Ss).length - 1]? = some ((Γ :: Ss).getLast (by simp)) := by rw [← List.getLast?_eq_getElem?, List.getLast?_eq_some_getLast]
    rw [h2, h1] at h3
    injection h3
  have hz : ∀ k, (Array.replicate ops.size false).getD k false = false := fun k => by
    simp only [Array.getD_eq_getD_getElem?, Array.getElem?_replicate]
    split <;> rfl
  refine any_sound hP hsz ht hok hops hk (by rw [hlast]; exact hK) ops.size _ a _ (by simp) ?_ ⟨fun i o ho hL => ?_⟩ (fun i _ => hz i) ?_
  · have := List.countP_le_length (p := fun i => !(Array.replicate ops.size false).getD i false) (l := List.range ops.size)
    simpa using this
  · exfalso
    rw [hz] at hL
    cases hL
  · have hr : ∀ k, k ≤ p → replay X.mt ops S (fun i => (Array.replicate ops.size false).getD i false) k = S 0 := by
      intro k
      induction k with
      | zero => intro _; rfl
      | succ k ih =>
        intro hk'
        rw [replay, if_neg (by rw [hz]; simp)]
        exact ih (by omega)
    rw [hr p (Nat.le_refl _)]
    exact h.drew
theorem draw_sound (hm : X.P.follows .mixedOrders = true) {id : Nat} {ops : Array Oper} {K : St → Prop} {Q' : Exit → Act → World → Prop} {Γ : St} {a : Act} {w : World} (h : HoldsG X.G E0 N Γ a w) {p : Nat} (hok : okCut X.mt p ops = true)
    (hops : ∀ o ∈ ops.toList, ∀ k, o.dst = some k → k < N) (hs : awpOpsD X ops.toList (ops.toList.take p) Γ fun Γ' => awpOps X ops.toList (ops.toList.drop p) Γ' K) (hk : ∀ Γ' a' w', K Γ' → HoldsG X.G E0 N Γ' a' w' → Q' .normal a' w') : (Code.region id ops true).wp X.P Q' a w :=
  wp_region_any hm (drawAny_sound hP hsz h hok hops hs hk)
end
end Go.VS
