/- A region whose order is drawn, where two operations may change places: two orders tell the outcome of every order. -/
import Derived.Test.YtgjnkppjfbcicaaGvO
namespace Go.VS
open Go.RowKit Go.Lib

/-- The orders in which a region may be gone through. -/
inductive Lists (md : Region.Mode) (ops : Array Oper) : Array Bool → List Nat → Prop
  | nil {listed : Array Bool} (h : Region.ready md ops listed = []) : Lists md ops listed []
  | cons {listed : Array Bool} {i : Nat} {π : List Nat} (h : i ∈ Region.ready md ops listed) (k : Lists md ops (listed.setIfInBounds i true) π) : Lists md ops listed (i :: π)

theorem getD_setT {listed : Array Bool} {j k : Nat} (hj : j < listed.size) : (listed.setIfInBounds j true).getD k false = if k = j then true else listed.getD k false := by
  by_cases hkj : k = j
  · subst hkj
    simp [Array.getD, hj]
  · rw [if_neg hkj]
    simp only [Array.getD_eq_getD_getElem?]
    rw [Array.getElem?_setIfInBounds_ne (fun e => hkj e.symm)]
theorem ready_lt {md : Region.Mode} {ops : Array Oper} {listed : Array Bool} {i : Nat} (h : i ∈ Region.ready md ops listed) : i < ops.size := by
  obtain ⟨_, o, ho, _⟩ := mem_ready.1 h
  exact (Array.getElem?_eq_some_iff.1 ho).1
theorem getD_in {listed : Array Bool} {i : Nat} (h : i < listed.size) : listed.getD i true = listed.getD i false := by simp [Array.getD, h]

theorem lists_of (md : Region.Mode) (ops : Array Oper) : ∀ (fuel t : Nat) (listed : Array Bool), listed.size = ops.size → (List.range ops.size).countP (fun i => !listed.getD i false) ≤ fuel → Lists md ops listed (Region.linearise.go md ops fuel t listed []) := by
  intro fuel
  induction fuel with
  | zero =>
    intro t listed hls hc
    refine .nil (List.eq_nil_iff_forall_not_mem.2 fun i hi => ?_)
    have hlt := ready_lt hi
    have h1 := List.countP_eq_zero.1 (Nat.le_zero.1 hc) i (List.mem_range.2 hlt)
    have h2 := (mem_ready.1 hi).1
    rw [getD_in (by omega)] at h2
    rw [h2] at h1
    exact h1 rfl
  | succ fuel ih =>
    intro t listed hls hc
    simp only [Region.linearise.go]
    change Lists md ops listed (match (Region.ready md ops listed)[t % (Region.ready md ops listed).length]? with
      | some i => Region.linearise.go md ops fuel (t / (Region.ready md ops listed).length) (listed.setIfInBounds i true) [i]
      | none => [].reverse)
    cases hi : (Region.ready md ops listed)[t % (Region.ready md ops listed).length]? with
    | none =>
      refine .nil ?_
      cases hr : Region.ready md ops listed with
      | nil => rfl
      | cons x xs =>
        rw [hr] at hi
        have hlt : t % (x :: xs).length < (x :: xs).length := Nat.mod_lt _ (by simp)
        simp at hi
        simp at hlt
        omega
    | some i =>
      simp only []
      rw [linearise_go_acc, List.reverse_singleton, List.singleton_append]
      have hm := List.mem_of_getElem? hi
      have hlt := ready_lt hm
      refine .cons hm (ih _ _ (by simpa using hls) ?_)
      have hL : listed.getD i false = false := by
        have := (mem_ready.1 hm).1
        rwa [getD_in (by omega)] at this
      have := count_set (f := fun k => !listed.getD k false) (g := fun k => !(listed.setIfInBounds i true).getD k false) (i := i) (by simp [hL]) (by simp [getD_setT (show i < listed.size by omega)]) (fun k hk => by simp [getD_setT (show i < listed.size by omega), hk]) ops.size
      rw [if_pos hlt] at this
      omega

theorem any_lists {P : Program} {md : Region.Mode} {ops : Array Oper} {Q : Exit → Act → World → Prop} : ∀ (π : List Nat) (fuel : Nat) (listed : Array Bool) (a : Act) (w : World), wpAny P md ops Q fuel listed a w → Lists md ops listed π → wpOps P ops Q π a w
  | [], 0, _, _, _, h, _ => h.2
  | [], _ + 1, _, _, _, h, .nil hr => h.1 hr
  | i :: π, 0, _, _, _, h, .cons hm _ => by rw [h.1] at hm; cases hm
  | i :: π, fuel + 1, listed, a, w, h, .cons hm k => by
    rw [wpOps_cons]
    exact wpOp_mono (fun a' w' h' => any_lists π fuel _ a' w' h' k) (h.2 i hm)

/-- i comes ahead of j, or j does not come. -/
def Before (i j : Nat) : List Nat → Prop
  | [] => True
  | k :: π => k = i ∨ (k ≠ j ∧ Before i j π)
theorem before_or {i j : Nat} : ∀ π : List Nat, Before i j π ∨ Before j i π
  | [] => .inl trivial
  | k :: π => by
    by_cases h1 : k = i
    · exact .inl (.inl h1)
    · by_cases h2 : k = j
      · exact .inr (.inl h2)
      · exact (before_or π).imp (fun h => .inr ⟨h2, h⟩) (fun h => .inr ⟨h1, h⟩)

/-- j waits for i. -/
def addEdge (i j : Nat) (ops : Array Oper) : Array Oper := ops.mapIdx fun k o => if k = j then { o with after := o.after.push ⟨i, .data⟩ } else o
theorem addEdge_get {i j k : Nat} {ops : Array Oper} : (addEdge i j ops)[k]? = (ops[k]?).map fun o => if k = j then { o with after := o.after.push ⟨i, .data⟩ } else o := by
  simp [addEdge]
theorem addEdge_size {i j : Nat} {ops : Array Oper} : (addEdge i j ops).size = ops.size := by simp [addEdge]
theorem lists_edge {i j : Nat} {ops : Array Oper} (hij : i ≠ j) : ∀ {π : List Nat} {listed : Array Bool}, listed.size = ops.size → Lists .any ops listed π → (listed.getD i false = true ∨ Before i j π) → Lists .any (addEdge i j ops) listed π
  | [], listed, hls, .nil hr, _ => by
    refine .nil (List.eq_nil_iff_forall_not_mem.2 fun k hk => ?_)
    obtain ⟨h1, o, ho, h2⟩ := mem_ready.1 hk
    rw [addEdge_get] at ho
    obtain ⟨o0, ho0, rfl⟩ := Option.map_eq_some_iff.1 ho
    have : k ∈ Region.ready .any ops listed := mem_ready.2 ⟨h1, o0, ho0, fun e he hb => h2 e (by
      split
      · exact Array.mem_push.2 (.inl he)
      · exact he) hb⟩
    rw [hr] at this
    cases this
  | k :: π, listed, hls, .cons hm hk, hb => by
    have hlt := ready_lt hm
    refine .cons ?_ (lists_edge hij (by simpa using hls) hk ?_)
    · obtain ⟨h1, o, ho, h2⟩ := mem_ready.1 hm
      refine mem_ready.2 ⟨h1, _, by rw [addEdge_get, ho]; rfl, fun e he hbd => ?_⟩
      split at he
      · rename_i hkj
        rcases Array.mem_push.1 he with he | rfl
        · exact h2 e he hbd
        · rcases hb with hb | hb | hb
          · exact hb
          · exact absurd (hb.symm.trans hkj) hij
          · exact absurd hkj hb.1
      · exact h2 e he hbd
    · rw [getD_setT (by omega)]
      by_cases hki : i = k
      · exact .inl (by rw [if_pos hki])
      · rw [if_neg hki]
        rcases hb with hb | hb | hb
        · exact .inl hb
        · exact absurd hb.symm hki
        · exact .inr hb.2

/-- Where an operation stands once i has been put behind j; and back. -/
def posOf (i j k : Nat) : Nat := if k < i then k else if k = i then j else if k ≤ j then k - 1 else k
def posInv (i j m : Nat) : Nat := if m < i then m else if m < j then m + 1 else if m = j then i else m
theorem posInv_posOf {i j k : Nat} (h : i < j) : posInv i j (posOf i j k) = k := by
  unfold posOf posInv
  (repeat' split) <;> omega
theorem posOf_posInv {i j m : Nat} (h : i < j) : posOf i j (posInv i j m) = m := by
  unfold posOf posInv
  (repeat' split) <;> omega
theorem posOf_lt {i j k n : Nat} (h : i < j) (hj : j < n) (hk : k < n) : posOf i j k < n := by
  unfold posOf
  (repeat' split) <;> omega
theorem posOf_lt_iff {i j k n : Nat} (h : i < j) (hj : j < n) : posOf i j k < n ↔ k < n := by
  unfold posOf
  (repeat' split) <;> omega
theorem posOf_inj {i j k k' : Nat} (h : i < j) (e : posOf i j k = posOf i j k') : k = k' := by rw [← posInv_posOf h (k := k), e, posInv_posOf h]

def moved (i j k : Nat) (o : Oper) : Oper := { o with after := o.after.map (fun e => { e with on := posOf i j e.on }) ++ if k = i then #[⟨posOf i j j, .data⟩] else #[] }
/-- i put behind j, for which it waits. -/
def swapA (i j : Nat) (ops : Array Oper) : Array Oper := ((List.range ops.size).map fun m => moved i j (posInv i j m) (ops.getD (posInv i j m) default)).toArray
theorem swapA_size {i j : Nat} {ops : Array Oper} : (swapA i j ops).size = ops.size := by simp [swapA]
theorem swapA_get {i j k : Nat} {ops : Array Oper} {o : Oper} (h : i < j) (hj : j < ops.size) (ho : ops[k]? = some o) : (swapA i j ops)[posOf i j k]? = some (moved i j k o) := by
  have hk : k < ops.size := (Array.getElem?_eq_some_iff.1 ho).1
  have h1 := posOf_lt h hj hk
  simp only [swapA, List.getElem?_toArray, List.getElem?_map, List.getElem?_range h1, Option.map_some, posInv_posOf h]
  rw [getD_some ho]
theorem swapA_out {i j m : Nat} {ops : Array Oper} {o' : Oper} (h : i < j) (hj : j < ops.size) (ho : (swapA i j ops)[m]? = some o') : ∃ o, ops[posInv i j m]? = some o ∧ o' = moved i j (posInv i j m) o := by
  have hm : m < ops.size := by rw [← swapA_size (i := i) (j := j)]; exact (Array.getElem?_eq_some_iff.1 ho).1
  have hk : posInv i j m < ops.size := by rw [← posOf_lt_iff h hj, posOf_posInv h]; exact hm
  have h1 := swapA_get h hj (Array.getElem?_eq_getElem hk)
  rw [posOf_posInv h, ho] at h1
  injection h1 with h1
  exact ⟨_, Array.getElem?_eq_getElem hk, h1⟩
theorem binds_on {m : Region.Mode} {e : Edge} {n : Nat} : Region.binds m { e with on := n } = Region.binds m e := rfl
theorem mem_moved {i j k : Nat} {o : Oper} {e : Edge} : e ∈ (moved i j k o).after ↔ (∃ e0 ∈ o.after, e = { e0 with on := posOf i j e0.on }) ∨ (k = i ∧ e = ⟨posOf i j j, .data⟩) := by
  unfold moved
  simp only [Array.mem_append, Array.mem_map]
  constructor
  · rintro (⟨e0, h1, rfl⟩ | h)
    · exact .inl ⟨e0, h1, rfl⟩
    · split at h
      · rename_i hk; exact .inr ⟨hk, by simpa using h⟩
      · simp at h
  · rintro (⟨e0, h1, rfl⟩ | ⟨hk, rfl⟩)
    · exact .inl ⟨e0, h1, rfl⟩
    · exact .inr (by rw [if_pos hk]; simp)

theorem lists_swap {i j : Nat} {ops : Array Oper} (h : i < j) (hj : j < ops.size) : ∀ {π : List Nat} {listed listed2 : Array Bool}, listed.size = ops.size → listed2.size = ops.size → (∀ k, k < ops.size → listed2.getD (posOf i j k) false = listed.getD k false) →
    Lists .any ops listed π → (listed.getD j false = true ∨ Before j i π) → Lists .any (swapA i j ops) listed2 (π.map (posOf i j))
  | [], listed, listed2, hls, hl2, hre, .nil hr, _ => by
    refine .nil (List.eq_nil_iff_forall_not_mem.2 fun m hm => ?_)
    obtain ⟨h1, o', ho', h2⟩ := mem_ready.1 hm
    have hmlt : m < ops.size := by rw [← swapA_size (i := i) (j := j)]; exact (Array.getElem?_eq_some_iff.1 ho').1
    obtain ⟨o, ho, rfl⟩ := swapA_out h hj ho'
    have hk := (Array.getElem?_eq_some_iff.1 ho).1
    have : posInv i j m ∈ Region.ready .any ops listed := mem_ready.2 ⟨by
      rw [getD_in (by omega), ← hre _ hk, posOf_posInv h]
      rwa [getD_in (by omega)] at h1, o, ho, fun e he hb => by
      have h3 := h2 { e with on := posOf i j e.on } (mem_moved.2 (.inl ⟨e, he, rfl⟩)) hb
      by_cases hlt : e.on < ops.size
      · rwa [hre _ hlt] at h3
      · have : ¬ posOf i j e.on < listed2.size := by rw [hl2, posOf_lt_iff h hj]; exact hlt
        simp [Array.getD, this] at h3⟩
    rw [hr] at this
    cases this
  | k :: π, listed, listed2, hls, hl2, hre, .cons hm hk, hb => by
    have hlt := ready_lt hm
    have hlt2 := posOf_lt h hj hlt
    rw [List.map_cons]
    refine .cons ?_ (lists_swap h hj (by simpa using hls) (by simpa using hl2) (fun k' hk' => ?_) hk ?_)
    · obtain ⟨h1, o, ho, h2⟩ := mem_ready.1 hm
      refine mem_ready.2 ⟨by rw [getD_in (by omega), hre _ hlt, ← getD_in (by omega)]; exact h1, _, swapA_get h hj ho, fun e he hbd => ?_⟩
      rcases mem_moved.1 he with ⟨e0, he0, rfl⟩ | ⟨hki, rfl⟩
      · have h3 := h2 e0 he0 hbd
        have h4 : e0.on < listed.size := by
          rcases Nat.lt_or_ge e0.on listed.size with h5 | h5
          · exact h5
          · simp [Array.getD, Nat.not_lt.2 h5] at h3
        show listed2.getD (posOf i j e0.on) false = true
        rw [hre _ (by omega)]; exact h3
      · show listed2.getD (posOf i j j) false = true
        rw [hre _ hj]
        rcases hb with hb | hb | hb
        · exact hb
        · omega
        · exact absurd hki hb.1
    · rw [getD_setT (by omega), getD_setT (by omega), hre _ hk']
      by_cases hkk : k' = k
      · rw [if_pos hkk, if_pos (by rw [hkk])]
      · rw [if_neg hkk, if_neg (fun e => hkk (posOf_inj h e))]
    · rw [getD_setT (by omega)]
      by_cases hkj : j = k
      · exact .inl (by rw [if_pos hkj])
      · rw [if_neg hkj]
        rcases hb with hb | hb | hb
        · exact .inl hb
        · exact absurd hb.symm hkj
        · exact .inr hb.2

/-- The same operation, but for what it waits for. -/
def SameOp (o o' : Oper) : Prop := o.guard = none ∧ ∃ x, o' = { o with after := x }
theorem wpOp_same {P : Program} {ops ops2 : Array Oper} {Q : Exit → Act → World → Prop} {i m : Nat} {o o' : Oper} (ho : ops[i]? = some o) (ho' : ops2[m]? = some o') (h : SameOp o o') {K : Act → World → Prop} {a : Act} {w : World} (hw : wpOp P ops2 Q m K a w) : wpOp P ops Q i K a w := by
  obtain ⟨hg, x, rfl⟩ := h
  unfold wpOp at hw ⊢
  rw [ho'] at hw
  rw [ho]
  simp only at hw ⊢
  have h1 : Region.wanted o (yielded ops a.tmps) = true := by simp [Region.wanted, hg]
  have h2 : Region.wanted { o with after := x } (yielded ops2 a.tmps) = true := by simp [Region.wanted, hg]
  rw [if_pos h2] at hw
  rw [if_pos h1]
  exact hw
theorem wpOps_same {P : Program} {ops ops2 : Array Oper} {Q : Exit → Act → World → Prop} {σ : Nat → Nat} (h : ∀ k o, ops[k]? = some o → ∃ o', ops2[σ k]? = some o' ∧ SameOp o o') : ∀ {π : List Nat} {a : Act} {w : World}, (∀ k ∈ π, k < ops.size) → wpOps P ops2 Q (π.map σ) a w → wpOps P ops Q π a w
  | [], _, _, _, hw => hw
  | k :: π, a, w, hπ, hw => by
    rw [List.map_cons, wpOps_cons] at hw
    rw [wpOps_cons]
    have hk := hπ k (by simp)
    obtain ⟨o', ho', hs⟩ := h k _ (Array.getElem?_eq_getElem hk)
    exact wpOp_same (Array.getElem?_eq_getElem hk) ho' hs (wpOp_mono (fun a' w' h' => wpOps_same h (fun k' hk' => hπ k' (by simp [hk'])) h') hw)
theorem Lists.lt {md : Region.Mode} {ops : Array Oper} : ∀ {π : List Nat} {listed : Array Bool}, Lists md ops listed π → ∀ k ∈ π, k < ops.size
  | [], _, _, k, hk => by cases hk
  | i :: π, _, .cons hm h, k, hk => by
    rcases List.mem_cons.1 hk with rfl | hk
    · exact ready_lt hm
    · exact h.lt k hk

theorem awpOpD_mono {X : Ctx} {o : Oper} {Γ : St} {K K' : St → Prop} (h : awpOpD X o Γ K) (hk : ∀ Γ', K Γ' → K' Γ') : awpOpD X o Γ K' := by
  have hb : ∀ {r : Option (Prop × St)}, bindS r K → bindS r K' := fun {r} h => by
    unfold bindS at *
    split at h
    · exact ⟨h.1, hk _ h.2⟩
    · exact h.elim
  unfold awpOpD at *
  cases hmt : mutOp X.mt o.op with
  | true =>
    rw [hmt] at h
    obtain ⟨Γ', h1, hg, h2⟩ := h
    exact ⟨Γ', h1, hg, hk _ h2⟩
  | false =>
  rw [hmt] at h
  simp only [cond_false] at h ⊢
  split at h
  · split at h
    · rename_i fo _
      cases hf : heapFn X.mt fo with
      | true =>
        rw [hf] at h
        simp only [cond_true] at h ⊢
        unfold calleeH at *
        split at h
        · obtain ⟨r, M, own, h1, h2⟩ := h
          exact ⟨r, M, own, h1, hk _ h2⟩
        · exact h.elim
      | false =>
      rw [hf] at h
      simp only [cond_false] at h ⊢
      unfold calleeD at *
      split at h
      · obtain ⟨R, own, h1, h2⟩ := h
        exact ⟨R, own, h1, hk _ h2⟩
      · exact h.elim
    · exact hb h
    · exact h.elim
  · exact hb h
theorem awpOpD_after {X : Ctx} {d : Option Nat} {op : Op} {ty : TypeId} {pos : String} {af x : Array Edge} {Γ : St} {K : St → Prop} (h : awpOpD X ⟨d, op, ty, pos, af, none⟩ Γ K) : awpOpD X ⟨d, op, ty, pos, x, none⟩ Γ K := h
theorem awpOpsD_same {X : Ctx} {g g' : List Oper} {K : St → Prop} : ∀ {l l' : List Oper} {Γ : St}, l.length = l'.length → (∀ (n : Nat) (o o' : Oper), l[n]? = some o → l'[n]? = some o' → SameOp o o') → awpOpsD X g l Γ K → awpOpsD X g' l' Γ K
  | [], [], _, _, _, h => h
  | [], _ :: _, _, hl, _, _ => by cases hl
  | _ :: _, [], _, hl, _, _ => by cases hl
  | o :: l, o' :: l', Γ, hl, hs, h => by
    obtain ⟨hg, x, rfl⟩ := hs 0 o o' rfl rfl
    obtain ⟨Γ', h1, h2⟩ := stepG_of h
    have h3 := awpOpsD_same (g' := g') (l' := l') (by simpa using hl) (fun n a b ha hb => hs (n + 1) a b (by simpa using ha) (by simpa using hb)) h2
    obtain ⟨d, op, ty, pos, af, gd⟩ := o
    simp only at hg
    subst hg
    exact awpOpD_mono (awpOpD_after h1) fun Γ'' e => e ▸ h3

/-- The list with i put behind j. -/
def swapL (i j : Nat) (l : List Oper) : List Oper := l.take i ++ ((l.drop (i + 1)).take (j - i) ++ ((l.drop i).take 1 ++ l.drop (j + 1)))
theorem swapL_len {i j : Nat} {l : List Oper} (h : i < j) (hj : j < l.length) : (swapL i j l).length = l.length := by
  simp only [swapL, List.length_append, List.length_take, List.length_drop]
  omega
theorem swapL_get {i j m : Nat} {l : List Oper} (h : i < j) (hj : j < l.length) (hm : m < l.length) : (swapL i j l)[m]? = l[posInv i j m]? := by
  unfold swapL posInv
  have e1 : (l.take i).length = i := by simp; omega
  have e2 : ((l.drop (i + 1)).take (j - i)).length = j - i := by simp; omega
  have e3 : ((l.drop i).take 1).length = 1 := by simp; omega
  by_cases h1 : m < i
  · rw [if_pos h1, List.getElem?_append_left (by omega), List.getElem?_take, if_pos h1]
  · rw [if_neg h1, List.getElem?_append_right (by omega), e1]
    by_cases h2 : m < j
    · rw [if_pos h2, List.getElem?_append_left (by omega), List.getElem?_take, if_pos (by omega), List.getElem?_drop, show i + 1 + (m - i) = m + 1 by omega]
    · rw [if_neg h2, List.getElem?_append_right (by omega), e2]
      by_cases h3 : m = j
      · rw [if_pos h3, List.getElem?_append_left (by omega), List.getElem?_take, if_pos (by omega), List.getElem?_drop, show i + (m - i - (j - i)) = i by omega]
      · rw [if_neg h3, List.getElem?_append_right (by omega), e3, List.getElem?_drop, show j + 1 + (m - i - (j - i) - 1) = m by omega]

/-- i and j alone may change places. -/
def okTwo (mt : TypeId → Bool) (i j : Nat) (ops : Array Oper) : Bool :=
  decide (i < j) && decide (j < ops.size) && ops.toList.all (fun o => o.guard.isNone) && okCut mt ops.size (addEdge i j ops) && okCut mt ops.size (swapA i j ops)

section
variable {X : Ctx} (hP : ProgOk X.P X.T X.Q) {E0 : Env} {N : Nat} (hsz : E0.sz = X.P.cellsOf)
include hP hsz
theorem two_sound (hm : X.P.follows .mixedOrders = true) {id i j : Nat} {ops : Array Oper} {K : St → Prop} {Q' : Exit → Act → World → Prop} {Γ : St} {a : Act} {w : World} (h : HoldsG X.G E0 N Γ a w) (hok : okTwo X.mt i j ops = true)
    (hops : ∀ o ∈ ops.toList, ∀ k, o.dst = some k → k < N) (h1 : awpOpsD X ops.toList ops.toList Γ K) (h2 : awpOpsD X ops.toList (swapL i j ops.toList) Γ K) (hk : ∀ Γ' a' w', K Γ' → HoldsG X.G E0 N Γ' a' w' → Q' .normal a' w') : (Code.region id ops true).wp X.P Q' a w := by
  unfold okTwo at hok
  simp only [Bool.and_eq_true, decide_eq_true_eq, List.all_eq_true] at hok
  obtain ⟨⟨⟨⟨hij, hj⟩, hg⟩, hc1⟩, hc2⟩ := hok
  have hgd : ∀ (k : Nat) o, ops[k]? = some o → o.guard = none := fun k o ho => by
    have := hg o (by rw [← Array.getElem?_toList] at ho; exact List.mem_of_getElem? ho)
    simpa using this
  have hsame1 : ∀ (k : Nat) o, ops[k]? = some o → ∃ o', (addEdge i j ops)[k]? = some o' ∧ SameOp o o' := fun k o ho => by
    refine ⟨_, by rw [addEdge_get, ho]; rfl, hgd k o ho, ?_⟩
    split
    · exact ⟨_, rfl⟩
    · exact ⟨o.after, rfl⟩
  have hsame2 : ∀ (k : Nat) o, ops[k]? = some o → ∃ o', (swapA i j ops)[posOf i j k]? = some o' ∧ SameOp o o' := fun k o ho => ⟨_, swapA_get hij hj ho, hgd k o ho, _, rfl⟩
  have hz : ∀ k, (Array.replicate ops.size false).getD k false = false := fun k => by
    simp only [Array.getD_eq_getD_getElem?, Array.getElem?_replicate]
    split <;> rfl
  refine wp_region_draw fun t => ?_
  simp only [Region.schedule, hm, Bool.true_or, if_true]
  have hl : Lists .any ops (Array.replicate ops.size false) (Region.linearise .any ops t) := lists_of .any ops ops.size t _ (by simp) (by
    have := List.countP_le_length (p := fun i => !(Array.replicate ops.size false).getD i false) (l := List.range ops.size)
    simpa using this)
  generalize Region.linearise .any ops t = π at hl
  have hend : ∀ (ops' : Array Oper), ops'.size = ops.size → okCut X.mt ops.size ops' = true → (∀ o ∈ ops'.toList, ∀ k, o.dst = some k → k < N) → awpOpsD X ops'.toList ops'.toList Γ K → wpAny X.P .any ops' Q' ops.size (Array.replicate ops.size false) a w.drew := fun ops' hs hc ho hw => by
    rw [← hs] at hc ⊢
    refine drawAny_sound hP hsz h hc ho ?_ hk
    rw [List.take_of_length_le (by simp), List.drop_eq_nil_of_le (by simp)]
    exact hw
  have hdst : ∀ (ops' : Array Oper) (τ : Nat → Nat), (∀ m o', ops'[m]? = some o' → ∃ o, ops[τ m]? = some o ∧ SameOp o o') → ∀ o ∈ ops'.toList, ∀ k, o.dst = some k → k < N := fun ops' τ hf o' ho' k hk' => by
    obtain ⟨m, hm'⟩ := List.getElem?_of_mem ho'
    rw [Array.getElem?_toList] at hm'
    obtain ⟨o, ho, _, x, rfl⟩ := hf m o' hm'
    exact hops o (by rw [← Array.getElem?_toList] at ho; exact List.mem_of_getElem? ho) k hk'
  have hout1 : ∀ m o', (addEdge i j ops)[m]? = some o' → ∃ o, ops[m]? = some o ∧ SameOp o o' := fun m o' ho' => by
    rw [addEdge_get] at ho'
    obtain ⟨o, ho, he⟩ := Option.map_eq_some_iff.1 ho'
    obtain ⟨o2, h3, h4⟩ := hsame1 m o ho
    rw [addEdge_get, ho] at h3
    simp only [Option.map_some, Option.some.injEq] at h3
    exact ⟨o, ho, by rw [← he, h3]; exact h4⟩
  have hout2 : ∀ m o', (swapA i j ops)[m]? = some o' → ∃ o, ops[posInv i j m]? = some o ∧ SameOp o o' := fun m o' ho' => by
    obtain ⟨o, ho, rfl⟩ := swapA_out hij hj ho'
    exact ⟨o, ho, hgd _ o ho, _, rfl⟩
  rcases before_or (i := i) (j := j) π with hb | hb
  · refine wpOps_same (σ := fun k => k) hsame1 hl.lt ?_
    rw [List.map_id' π]
    refine any_lists π _ _ a _ (hend _ addEdge_size hc1 (hdst _ (fun m => m) hout1) ?_) (lists_edge (by omega) (by simp) hl (.inr hb))
    refine awpOpsD_same (by simp [addEdge_size]) (fun n o o' ho ho' => ?_) h1
    rw [Array.getElem?_toList] at ho ho'
    obtain ⟨o2, h3, h4⟩ := hsame1 n o ho
    rw [ho'] at h3
    injection h3 with h3
    exact h3 ▸ h4
  · refine wpOps_same (σ := posOf i j) hsame2 hl.lt ?_
    refine any_lists (π.map (posOf i j)) _ _ a _ (hend _ swapA_size hc2 (hdst _ (posInv i j) hout2) ?_) (lists_swap hij hj (by simp) (by simp) (fun k _ => by rw [hz, hz]) hl (.inr hb))
    have hjl : j < ops.toList.length := by simpa using hj
    refine awpOpsD_same (by rw [swapL_len hij hjl]; simp [swapA_size]) (fun n o o' ho ho' => ?_) h2
    have hn : n < ops.toList.length := by rw [← swapL_len hij hjl]; exact (List.getElem?_eq_some_iff.1 ho).1
    rw [swapL_get hij hjl hn, Array.getElem?_toList] at ho
    rw [Array.getElem?_toList] at ho'
    obtain ⟨o2, h3, h4⟩ := hout2 n o' ho'
    rw [ho] at h3
    injection h3 with h3
    exact h3 ▸ h4
end
end Go.VS
