/- A region whose order is drawn, walked in the text's order. -/
import Derived.Test.YtgjnkppjfbcicaaGvM
namespace Go.VS
open Go.RowKit Go.Lib

/-! ### What must come ahead -/

theorem testBit_fold (m : Region.Mode) (acc : Array Nat) (k : Nat) : ∀ (es : List Edge) (s : Nat), (es.foldl (fun s e => if Region.binds m e then s ||| 2 ^ e.on ||| acc.getD e.on 0 else s) s).testBit k = true →
    s.testBit k = true ∨ ∃ e ∈ es, Region.binds m e = true ∧ (e.on = k ∨ (acc.getD e.on 0).testBit k = true)
  | [], s, h => .inl h
  | e :: es, s, h => by
    simp only [List.foldl_cons] at h
    rcases testBit_fold m acc k es _ h with h | ⟨e', he, h1, h2⟩
    · split at h
      · rename_i hb
        simp only [Nat.testBit_or, Bool.or_eq_true] at h
        rcases h with (h | h) | h
        · exact .inl h
        · refine .inr ⟨e, by simp, hb, .inl ?_⟩
          rw [Nat.testBit_two_pow] at h
          simpa using h
        · exact .inr ⟨e, by simp, hb, .inr h⟩
      · exact .inl h
    · exact .inr ⟨e', by simp [he], h1, h2⟩

def beforeF (acc : Array Nat) (o : Oper) : Nat := o.after.foldl (fun s e => if Region.binds .any e then s ||| 2 ^ e.on ||| acc.getD e.on 0 else s) 0

theorem before_spec (ops : Array Oper) : (Region.before ops).size = ops.size ∧ ∀ i (h : i < ops.size), ∃ acc : Array Nat, acc.size = i ∧ (∀ k, k < i → acc.getD k 0 = (Region.before ops).getD k 0) ∧ (Region.before ops).getD i 0 = beforeF acc ops[i] := by
  have key : ∀ (l : List Oper) (acc : Array Nat), let B := l.foldl (fun acc o => acc.push (beforeF acc o)) acc
      B.size = acc.size + l.length ∧ (∀ k, k < acc.size → B.getD k 0 = acc.getD k 0) ∧
      ∀ i (h : i < l.length), ∃ acc' : Array Nat, acc'.size = acc.size + i ∧ (∀ k, k < acc.size + i → acc'.getD k 0 = B.getD k 0) ∧ B.getD (acc.size + i) 0 = beforeF acc' l[i] := by
    intro l
    induction l with
    | nil => intro acc; exact ⟨by simp, fun _ _ => rfl, fun i h => by simp at h⟩
    | cons o l ih =>
      intro acc
      obtain ⟨h1, h2, h3⟩ := ih (acc.push (beforeF acc o))
      simp only [List.foldl_cons]
      have hp : ∀ k, k < acc.size → (acc.push (beforeF acc o)).getD k 0 = acc.getD k 0 := fun k hk => by
        simp [Array.getD, hk, Nat.lt_succ_of_lt hk, Array.getElem_push_lt]
      refine ⟨by rw [h1]; simp; omega, fun k hk => ?_, fun i hi => ?_⟩
      · rw [h2 k (by simp; omega), hp k hk]
      · cases i with
        | zero =>
          refine ⟨acc, by simp, fun k hk => ?_, ?_⟩
          · rw [h2 k (by simp at hk ⊢; omega), hp k (by simpa using hk)]
          · rw [Nat.add_zero, h2 acc.size (by simp)]
            simp [Array.getD]
        | succ i =>
          obtain ⟨acc', e1, e2, e3⟩ := h3 i (by simpa using hi)
          have hsz : (acc.push (beforeF acc o)).size + i = acc.size + (i + 1) := by simp; omega
          rw [hsz] at e1 e2 e3
          exact ⟨acc', e1, e2, by simpa using e3⟩
  have h := key ops.toList #[]
  have hB : Region.before ops = ops.toList.foldl (fun acc o => acc.push (beforeF acc o)) #[] := by
    unfold Region.before
    rw [← Array.foldl_toList]
    rfl
  rw [hB]
  refine ⟨by simpa using h.1, fun i hi => ?_⟩
  obtain ⟨acc, e1, e2, e3⟩ := h.2.2 i (by simpa using hi)
  refine ⟨acc, by simpa using e1, fun k hk => e2 k (by simpa using hk), ?_⟩
  have : (#[] : Array Nat).size + i = i := by simp
  rw [this] at e3
  rw [e3]
  simp

/-- What has come up: with each its edges. -/
structure Closed (ops : Array Oper) (L : Nat → Bool) : Prop where
  edge : ∀ i o, ops[i]? = some o → L i = true → ∀ e ∈ o.after, Region.binds .any e = true → L e.on = true

theorem Closed.before {ops : Array Oper} {L : Nat → Bool} (h : Closed ops L) : ∀ i o, ops[i]? = some o → (∀ e ∈ o.after, Region.binds .any e = true → L e.on = true) → ∀ k, ((Region.before ops).getD i 0).testBit k = true → L k = true := by
  intro i
  induction i using Nat.strongRecOn with
  | _ i ih =>
    intro o ho hL k hk
    have hi : i < ops.size := (Array.getElem?_eq_some_iff.1 ho).1
    obtain ⟨acc, e1, e2, e3⟩ := (before_spec ops).2 i hi
    have hoi : ops[i] = o := (Array.getElem?_eq_some_iff.1 ho).2
    rw [e3, hoi] at hk
    unfold beforeF at hk
    rw [← Array.foldl_toList] at hk
    rcases testBit_fold .any acc k o.after.toList 0 hk with h1 | ⟨e, he, hb, h1⟩
    · simp at h1
    · have heL := hL e (by simpa using he) hb
      rcases h1 with rfl | h1
      · exact heL
      · by_cases hlt : e.on < i
        · rw [e2 e.on hlt] at h1
          have hs : e.on < ops.size := by omega
          exact ih e.on hlt ops[e.on] (Array.getElem?_eq_getElem hs) (h.edge e.on ops[e.on] (Array.getElem?_eq_getElem hs) heL) k h1
        · have : acc.getD e.on 0 = 0 := by simp [Array.getD, e1, hlt]
          rw [this] at h1
          simp at h1

/-! ### The operations that came up, in the text's order -/

def replay (mt : TypeId → Bool) (ops : Array Oper) (S : Nat → St) (L : Nat → Bool) : Nat → St
  | 0 => S 0
  | k + 1 => if L k then mix mt (ops.getD k default) (replay mt ops S L k) (S (k + 1)) else replay mt ops S L k

/-- Do two operations write nothing in common? -/
def apartW (mt : TypeId → Bool) (x y : Oper) : Prop := (∀ t, ¬ (x.dst = some t ∧ y.dst = some t)) ∧ ¬ (hpMod mt x.op = true ∧ hpMod mt y.op = true) ∧ ¬ (tokDep x.op = true ∧ tokDep y.op = true)

theorem mix_comm {X : Ctx} {x y : Oper} (h : apartW X.mt x y) (A B C : St) : mix X.mt x (mix X.mt y A B) C = mix X.mt y (mix X.mt x A C) B := by
  obtain ⟨h1, h2, h3⟩ := h
  refine St.ext' (fun t => ?_) ?_ ?_ ?_
  · simp only [mix]
    by_cases hx : x.dst = some t <;> by_cases hy : y.dst = some t <;> simp_all
  all_goals
    simp only [mix]
    by_cases hx : hpMod X.mt x.op = true <;> by_cases hy : hpMod X.mt y.op = true <;> by_cases hx' : tokDep x.op = true <;> by_cases hy' : tokDep y.op = true <;> simp_all

structure Text (X : Ctx) (ops : Array Oper) (p : Nat) (S : Nat → St) : Prop where
  le : p ≤ ops.size
  step : ∀ i o, i < p → ops[i]? = some o → StepD X ops.toList o (S i) (S (i + 1))

theorem Text.frame {X : Ctx} {ops : Array Oper} {p : Nat} {S : Nat → St} (h : Text X ops p S) {i : Nat} {o : Oper} (hi : i < p) (ho : ops[i]? = some o) :
    (∀ t, o.dst ≠ some t → (S (i + 1)).tm t = (S i).tm t) ∧ (hpMod X.mt o.op = false → (S (i + 1)).hp = (S i).hp) ∧ (tokDep o.op = false → (S (i + 1)).lv = (S i).lv ∧ (S (i + 1)).ctr = (S i).ctr) :=
  ((h.step i o hi ho).local (Γ2 := S i) (fun _ _ => rfl) (fun _ => rfl) (fun _ => ⟨rfl, rfl⟩) (fun _ _ _ _ h => h)).2

theorem getD_some {ops : Array Oper} {i : Nat} {o : Oper} (h : ops[i]? = some o) : ops.getD i default = o := by
  rw [Array.getD_eq_getD_getElem?, h]; rfl

/-- All of them: the text's own state. -/
theorem replay_all {X : Ctx} {ops : Array Oper} {p : Nat} {S : Nat → St} (h : Text X ops p S) {L : Nat → Bool} : ∀ k, k ≤ p → (∀ i, i < k → L i = true) → replay X.mt ops S L k = S k
  | 0, _, _ => rfl
  | k + 1, hk, hL => by
    have hle := h.le
    have ho : ops[k]? = some ops[k] := Array.getElem?_eq_getElem (by omega)
    obtain ⟨h1, h2, h3⟩ := h.frame (by omega) ho
    simp only [replay]
    rw [if_pos (hL k (by omega)), replay_all h k (by omega) (fun i hi => hL i (by omega)), getD_some ho]
    refine St.ext' (fun t => ?_) ?_ ?_ ?_
    · simp only [mix]; split
      · rfl
      · rename_i hne; exact (h1 t hne).symm
    · simp only [mix]; split
      · rfl
      · rename_i hne; exact (h2 (by simpa using hne)).symm
    · simp only [mix]; split
      · rfl
      · rename_i hne; exact (h3 (by simpa using hne)).1.symm
    · simp only [mix]; split
      · rfl
      · rename_i hne; exact (h3 (by simpa using hne)).2.symm

/-- A temporary whose writers up to k have come up is as in the text. -/
theorem replay_tm {X : Ctx} {ops : Array Oper} {p : Nat} {S : Nat → St} (h : Text X ops p S) {L : Nat → Bool} (t : Nat) : ∀ k, k ≤ p → (∀ i o, i < k → ops[i]? = some o → o.dst = some t → L i = true) → (replay X.mt ops S L k).tm t = (S k).tm t
  | 0, _, _ => rfl
  | k + 1, hk, hL => by
    have hle := h.le
    have ho : ops[k]? = some ops[k] := Array.getElem?_eq_getElem (by omega)
    obtain ⟨h1, _⟩ := h.frame (by omega) ho
    have ih := replay_tm h t k (by omega) (fun i o hi => hL i o (by omega))
    simp only [replay]
    by_cases hLk : L k = true
    · rw [if_pos hLk, getD_some ho]
      simp only [mix]
      split
      · rfl
      · rename_i hne; rw [ih, h1 t hne]
    · rw [if_neg hLk, ih]
      by_cases hd : ops[k].dst = some t
      · exact absurd (hL k _ (by omega) ho hd) hLk
      · exact (h1 t hd).symm
theorem replay_hp {X : Ctx} {ops : Array Oper} {p : Nat} {S : Nat → St} (h : Text X ops p S) {L : Nat → Bool} : ∀ k, k ≤ p → (∀ i o, i < k → ops[i]? = some o → hpMod X.mt o.op = true → L i = true) → (replay X.mt ops S L k).hp = (S k).hp
  | 0, _, _ => rfl
  | k + 1, hk, hL => by
    have hle := h.le
    have ho : ops[k]? = some ops[k] := Array.getElem?_eq_getElem (by omega)
    obtain ⟨_, h1, _⟩ := h.frame (by omega) ho
    have ih := replay_hp h k (by omega) (fun i o hi => hL i o (by omega))
    simp only [replay]
    by_cases hLk : L k = true
    · rw [if_pos hLk, getD_some ho]
      simp only [mix]
      split
      · rfl
      · rename_i hne; rw [ih, h1 (by simpa using hne)]
    · rw [if_neg hLk, ih]
      by_cases hd : hpMod X.mt ops[k].op = true
      · exact absurd (hL k _ (by omega) ho hd) hLk
      · exact (h1 (by simpa using hd)).symm
theorem replay_tok {X : Ctx} {ops : Array Oper} {p : Nat} {S : Nat → St} (h : Text X ops p S) {L : Nat → Bool} : ∀ k, k ≤ p → (∀ i o, i < k → ops[i]? = some o → tokDep o.op = true → L i = true) → (replay X.mt ops S L k).lv = (S k).lv ∧ (replay X.mt ops S L k).ctr = (S k).ctr
  | 0, _, _ => ⟨rfl, rfl⟩
  | k + 1, hk, hL => by
    have hle := h.le
    have ho : ops[k]? = some ops[k] := Array.getElem?_eq_getElem (by omega)
    obtain ⟨_, _, h1⟩ := h.frame (by omega) ho
    have ih := replay_tok h k (by omega) (fun i o hi => hL i o (by omega))
    simp only [replay]
    by_cases hLk : L k = true
    · rw [if_pos hLk, getD_some ho]
      simp only [mix]
      split
      · exact ⟨rfl, rfl⟩
      · rename_i hne; exact ⟨ih.1.trans (h1 (by simpa using hne)).1.symm, ih.2.trans (h1 (by simpa using hne)).2.symm⟩
    · rw [if_neg hLk]
      by_cases hd : tokDep ops[k].op = true
      · exact absurd (hL k _ (by omega) ho hd) hLk
      · exact ⟨ih.1.trans (h1 (by simpa using hd)).1.symm, ih.2.trans (h1 (by simpa using hd)).2.symm⟩

/-- From j on nothing that has come up touches this. -/
theorem replay_tm_late {X : Ctx} {ops : Array Oper} {S : Nat → St} {L : Nat → Bool} (t j : Nat) : ∀ k, j ≤ k → k ≤ ops.size → (∀ i o, j ≤ i → i < k → ops[i]? = some o → L i = true → o.dst ≠ some t) → (replay X.mt ops S L k).tm t = (replay X.mt ops S L j).tm t
  | 0, hj, _, _ => by rw [Nat.le_zero.1 hj]
  | k + 1, hj, hk, hL => by
    by_cases he : j = k + 1
    · rw [he]
    · have ho : ops[k]? = some ops[k] := Array.getElem?_eq_getElem (by omega)
      have ih := replay_tm_late (X := X) (S := S) t j k (by omega) (by omega) (fun i o h1 h2 => hL i o h1 (by omega))
      simp only [replay]
      by_cases hLk : L k = true
      · rw [if_pos hLk, getD_some ho]
        simp only [mix]
        rw [if_neg (hL k _ (by omega) (by omega) ho hLk)]
        exact ih
      · rw [if_neg hLk]; exact ih
theorem replay_hp_late {X : Ctx} {ops : Array Oper} {S : Nat → St} {L : Nat → Bool} (j : Nat) : ∀ k, j ≤ k → k ≤ ops.size → (∀ i o, j ≤ i → i < k → ops[i]? = some o → L i = true → hpMod X.mt o.op = false) → (replay X.mt ops S L k).hp = (replay X.mt ops S L j).hp
  | 0, hj, _, _ => by rw [Nat.le_zero.1 hj]
  | k + 1, hj, hk, hL => by
    by_cases he : j = k + 1
    · rw [he]
    · have ho : ops[k]? = some ops[k] := Array.getElem?_eq_getElem (by omega)
      have ih := replay_hp_late (X := X) (S := S) j k (by omega) (by omega) (fun i o h1 h2 => hL i o h1 (by omega))
      simp only [replay]
      by_cases hLk : L k = true
      · rw [if_pos hLk, getD_some ho]
        simp only [mix]
        rw [hL k _ (by omega) (by omega) ho hLk]
        exact ih
      · rw [if_neg hLk]; exact ih
theorem replay_tok_late {X : Ctx} {ops : Array Oper} {S : Nat → St} {L : Nat → Bool} (j : Nat) : ∀ k, j ≤ k → k ≤ ops.size → (∀ i o, j ≤ i → i < k → ops[i]? = some o → L i = true → tokDep o.op = false) → (replay X.mt ops S L k).lv = (replay X.mt ops S L j).lv ∧ (replay X.mt ops S L k).ctr = (replay X.mt ops S L j).ctr
  | 0, hj, _, _ => by rw [Nat.le_zero.1 hj]; exact ⟨rfl, rfl⟩
  | k + 1, hj, hk, hL => by
    by_cases he : j = k + 1
    · rw [he]; exact ⟨rfl, rfl⟩
    · have ho : ops[k]? = some ops[k] := Array.getElem?_eq_getElem (by omega)
      have ih := replay_tok_late (X := X) (S := S) j k (by omega) (by omega) (fun i o h1 h2 => hL i o h1 (by omega))
      simp only [replay]
      by_cases hLk : L k = true
      · rw [if_pos hLk, getD_some ho]
        simp only [mix]
        rw [hL k _ (by omega) (by omega) ho hLk]
        exact ih
      · rw [if_neg hLk]; exact ih

/-- One more, taken out of turn. -/
theorem replay_more {X : Ctx} {ops : Array Oper} {S : Nat → St} {L L' : Nat → Bool} {j : Nat} {o : Oper} (hj : L j = false) (hj' : L' j = true) (hL' : ∀ i, i ≠ j → L' i = L i) (ho : ops[j]? = some o) (hap : ∀ i o', j < i → ops[i]? = some o' → L i = true → apartW X.mt o' o) :
    ∀ k, j < k → k ≤ ops.size → replay X.mt ops S L' k = mix X.mt o (replay X.mt ops S L k) (S (j + 1)) := by
  have hsame : ∀ k, k ≤ j → replay X.mt ops S L' k = replay X.mt ops S L k := by
    intro k
    induction k with
    | zero => intro _; rfl
    | succ k ih =>
      intro hk
      simp only [replay, hL' k (by omega), ih (by omega)]
  intro k
  induction k with
  | zero => intro h; omega
  | succ k ih =>
    intro hk hks
    by_cases he : k = j
    · subst he
      simp only [replay, hj', hj, if_true, hsame k (Nat.le_refl _), getD_some ho, Bool.false_eq_true, if_false]
    · have ih' := ih (by omega) (by omega)
      have hok : ops[k]? = some ops[k] := Array.getElem?_eq_getElem (by omega)
      simp only [replay, hL' k he, ih']
      by_cases hLk : L k = true
      · rw [if_pos hLk, if_pos hLk, getD_some hok]
        exact mix_comm (hap k _ (by omega) hok hLk) _ _ _
      · rw [if_neg hLk, if_neg hLk]


/-- Where only calls that add lie between, the one heap begins the other. -/
theorem Text.grows {X : Ctx} {ops : Array Oper} {p : Nat} {S : Nat → St} (h : Text X ops p S) {a : Nat} : ∀ b, a ≤ b → b ≤ p → (∀ i o, a ≤ i → i < b → ops[i]? = some o → hpMod X.mt o.op = true → grows X.mt o.op = true) → ∃ M, (S b).hp = (S a).hp ++ M
  | 0, hab, _, _ => ⟨[], by rw [Nat.le_zero.1 hab]; simp⟩
  | b + 1, hab, hb, hi => by
    by_cases he : a = b + 1
    · exact ⟨[], by rw [he]; simp⟩
    · obtain ⟨M, hM⟩ := h.grows b (by omega) (by omega) (fun i o h1 h2 => hi i o h1 (by omega))
      have hle := h.le
      have ho : ops[b]? = some ops[b] := Array.getElem?_eq_getElem (by omega)
      cases hm : hpMod X.mt ops[b].op with
      | false => exact ⟨M, by rw [(h.frame (by omega) ho).2.1 hm, hM]⟩
      | true =>
        obtain ⟨M', hM'⟩ := (h.step b _ (by omega) ho).grow (hi b _ (by omega) (by omega) ho hm)
        exact ⟨M ++ M', by rw [hM', hM, List.append_assoc]⟩

/-- The first of those that has not come up. -/
theorem first_not (p : Nat → Bool) : ∀ n, ∃ k, k ≤ n ∧ (∀ i, i < k → p i = true) ∧ (k < n → p k = false)
  | 0 => ⟨0, Nat.le_refl _, fun i h => by omega, fun h => by omega⟩
  | n + 1 => by
    obtain ⟨k, h1, h2, h3⟩ := first_not p n
    by_cases hk : k < n
    · exact ⟨k, by omega, h2, fun _ => h3 hk⟩
    · have : k = n := by omega
      subst this
      cases hp : p k with
      | false => exact ⟨k, by omega, h2, fun _ => hp⟩
      | true => exact ⟨k + 1, by omega, fun i hi => (by
          by_cases he : i = k
          · rw [he]; exact hp
          · exact h2 i (by omega)), fun h => by omega⟩
end Go.VS
