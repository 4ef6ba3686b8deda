/- What is read as data is known: from the reading of an argument to what is known of it. -/
import Derived.Test.YtgjnkppjfbcicaaGvS
import Derived.ChangeArms
import Derived.OpenShut
import Derived.DataReads
namespace Go.VS

/-- The shape of data that is read. -/
inductive Sh
  | int (k : IntKind)
  | bool
  | str
  | slice (s : Sh)
  | nil
  | cons (a r : Sh)

def Sh.size : Sh → Nat
  | .int _ | .bool | .str | .slice _ => 1
  | .nil => 0
  | .cons a r => a.size + r.size

def Typed : Sh → List V → Prop
  | .int k, vs => ∃ n, vs = [.sc (.int k n)] ∧ (Lit.int k n).wf = true
  | .bool, vs => ∃ b, vs = [.sc (.bool b)]
  | .str, vs => ∃ b : ByteArray, vs = [.sc (.string b)] ∧ b.size ≤ maxLen
  | .slice s, vs => ∃ bs : List (List V), vs = [.data bs.length s.size bs.flatten none] ∧ (∀ b ∈ bs, Typed s b) ∧ bs.length ≤ maxLen
  | .nil, vs => vs = []
  | .cons a r, vs => ∃ x y, vs = x ++ y ∧ Typed a x ∧ Typed r y

def Sh.rep : Nat → Sh → Sh
  | 0, _ => .nil
  | n + 1, s => .cons s (Sh.rep n s)

mutual
inductive ShOk (P : Program) : TypeId → Sh → Prop
  | int {t : TypeId} {k : IntKind} (h : P.underlying t = some (.int k)) : ShOk P t (.int k)
  | bool {t : TypeId} (h : P.underlying t = some .bool) : ShOk P t .bool
  | str {t : TypeId} (h : P.underlying t = some .string) : ShOk P t .str
  | slice {t e : TypeId} {s : Sh} (h : P.underlying t = some (.slice e)) (hs : ShOk P e s) (hc : P.cellsOf e = s.size) (h0 : 0 < s.size) : ShOk P t (.slice s)
  | struct {t : TypeId} {F : Array Field} {s : Sh} (h : P.underlying t = some (.struct F)) (hf : FsOk P F.toList 0 s) (hc : P.cellsOf t = s.size) : ShOk P t s
  | array {t e : TypeId} {n : Nat} {s : Sh} (h : P.underlying t = some (.array n e)) (hs : ShOk P e s) (hc : P.cellsOf e = s.size) (hn : P.cellsOf t = n * s.size) : ShOk P t (Sh.rep n s)
inductive FsOk (P : Program) : List Field → Nat → Sh → Prop
  | nil {off : Nat} : FsOk P [] off .nil
  | cons {f : Field} {fs : List Field} {a r : Sh} {off : Nat} (ho : f.offset = off) (ha : ShOk P f.type a) (hc : P.cellsOf f.type = a.size) (hr : FsOk P fs (off + a.size) r) : FsOk P (f :: fs) off (.cons a r)
end

theorem exists_list {α : Type} {p : Nat → α → Prop} : ∀ n, (∀ i, i < n → ∃ y, p i y) → ∃ l : List α, l.length = n ∧ ∀ i y, l[i]? = some y → p i y
  | 0, _ => ⟨[], rfl, fun i y h => by simp at h⟩
  | n + 1, h => by
    obtain ⟨l, hl, hp⟩ := exists_list n fun i hi => h i (by omega)
    obtain ⟨y, hy⟩ := h n (by omega)
    refine ⟨l ++ [y], by simp [hl], fun i z hz => ?_⟩
    by_cases hi : i < l.length
    · rw [List.getElem?_append_left hi] at hz
      exact hp i z hz
    · rw [List.getElem?_append_right (by omega)] at hz
      have h0 : i - l.length = 0 := by
        have := (List.getElem?_eq_some_iff.1 hz).1
        simp at this
        omega
      rw [h0] at hz
      simp at hz
      subst hz
      rw [show i = n by omega]
      exact hy

theorem flatten_get {α : Type} {sz : Nat} : ∀ {L : List (List α)} (_ : ∀ x ∈ L, x.length = sz) {j : Nat} {u : α}, L.flatten[j]? = some u → ∃ i k x, L[i]? = some x ∧ x[k]? = some u ∧ j = i * sz + k ∧ k < sz
  | [], _, j, u, h => by simp at h
  | x :: L, hl, j, u, h => by
    rw [List.flatten_cons] at h
    have hx := hl x (by simp)
    by_cases hj : j < sz
    · rw [List.getElem?_append_left (by omega)] at h
      exact ⟨0, j, x, rfl, h, by omega, hj⟩
    · rw [List.getElem?_append_right (by omega), hx] at h
      obtain ⟨i, k, y, h1, h2, h3, h4⟩ := flatten_get (fun z hz => hl z (by simp [hz])) h
      exact ⟨i + 1, k, y, h1, h2, by rw [Nat.succ_mul]; omega, h4⟩

theorem RelL.flatten {E : Env} : ∀ {A : List (List V)} {B : List (List Value)}, A.length = B.length → (∀ (i : Nat) (x : List V) (y : List Value), A[i]? = some x → B[i]? = some y → RelL E x y) → RelL E A.flatten B.flatten
  | [], [], _, _ => RelL.nil
  | x :: A, y :: B, hl, h => by
    rw [List.flatten_cons, List.flatten_cons]
    exact (h 0 x y rfl rfl).append (RelL.flatten (by simpa using hl) fun i a b ha hb => h (i + 1) a b ha hb)

section
variable {H : Type} {enc : TypeId × Value → H} {P : Program} {base : Nat} {spare : Nat → Bool} {held : Bool} {E : Env}

theorem one_take {us : List Value} {a b : Nat} (h1 : ∀ u ∈ us.take a, u.oneCell' = true) (h2 : ∀ u ∈ (us.drop a).take b, u.oneCell' = true) : ∀ u ∈ us.take (a + b), u.oneCell' = true := by
  intro u hu
  rw [List.take_add] at hu
  rcases List.mem_append.1 hu with hu | hu
  · exact h1 u hu
  · exact h2 u hu

theorem trod_typed (hI : ∀ b o u, E.w.cell? ⟨b, o, none⟩ = some u → E.I b o) : ∀ (fuel : Nat) (t : TypeId) (s : Sh) (cs : List Value) (x : DataW H × List MemPlace), ShOk P t s → DataW.trod enc P E.w base spare held fuel t cs = some x →
    ∃ vs, Typed s vs ∧ RelL E vs cs ∧ cs.length = s.size ∧ ∀ u ∈ cs, u.oneCell' = true := by
  intro fuel
  induction fuel with
  | zero => intro t s cs x _ h; simp [DataW.trod] at h
  | succ n ih =>
    intro t s cs x hs h
    cases hs with
    | int ht =>
      obtain ⟨m, rfl, _, hw⟩ := DataW.trod_int ht h
      exact ⟨_, ⟨m, rfl, hw⟩, .cons (.sc _) .nil, rfl, by simp [Value.oneCell']⟩
    | bool ht =>
      obtain ⟨b, rfl, _⟩ := DataW.trod_bool ht h
      exact ⟨_, ⟨b, rfl⟩, .cons (.sc _) .nil, rfl, by simp [Value.oneCell']⟩
    | str ht =>
      obtain ⟨b, rfl, _, hb⟩ := DataW.trod_string ht h
      exact ⟨_, ⟨b, rfl, hb⟩, .cons (.sc _) .nil, rfl, by simp [Value.oneCell']⟩
    | @slice _ e s ht hse hc h0 =>
      rcases DataW.trod_slice ht h with ⟨rfl, _⟩ | ⟨a, len, cap, elems, rest, m, hm, rfl, _, _, hlc, hcm, hel, hget, _, _⟩
      · refine ⟨_, ⟨[], rfl, fun b hb => by simp at hb, by simp⟩, .cons (.data [] rfl (by simp) (Nat.le_refl _) (by simp) (fun h => absurd h (by simp)) (fun j u hu => by simp at hu) (fun j x u hx => by simp at hx) (fun τ e => by cases e)) .nil, rfl, by simp [Value.oneCell']⟩
      · cases hm
        obtain ⟨L, hL, hLp⟩ := exists_list (p := fun i (y : List V × List Value) => Typed s y.1 ∧ RelL E y.1 y.2 ∧ y.2.length = s.size ∧ (∀ u ∈ y.2, u.oneCell' = true) ∧ E.w.cells? base (a.add (i * s.size)) s.size = some y.2) len (fun i hi => by
          have h1 := hget i hi
          rw [List.getElem?_eq_getElem (by omega)] at h1
          obtain ⟨cs', h2, h3⟩ := Option.bind_eq_some_iff.1 h1
          obtain ⟨vs, k1, k2, k3, k4⟩ := ih e s cs' _ hse h3
          rw [hc] at h2
          exact ⟨(vs, cs'), k1, k2, k3, k4, h2⟩)
        have hlen2 : ∀ y ∈ L.map (·.2), y.length = s.size := fun y hy => by
          simp only [List.mem_map] at hy
          obtain ⟨z, hz, rfl⟩ := hy
          obtain ⟨i, hi⟩ := List.getElem?_of_mem hz
          exact (hLp i z hi).2.2.1
        have hcell : ∀ (j : Nat) (u : Value), (L.map (·.2)).flatten[j]? = some u → E.w.cell? (a.add j) = some u ∧ u.oneCell' = true := fun j u hu => by
          obtain ⟨i, k, y, h1, h2, rfl, hk⟩ := flatten_get hlen2 hu
          rw [List.getElem?_map] at h1
          cases hz : L[i]? with
          | none => rw [hz] at h1; simp at h1
          | some z =>
            rw [hz] at h1
            simp only [Option.map_some, Option.some.injEq] at h1
            subst h1
            obtain ⟨_, _, _, k4, k5⟩ := hLp i z hz
            obtain ⟨_, _, k6⟩ := World.cells?_some k5
            have k7 := k6 k hk
            rw [h2] at k7
            refine ⟨?_, k4 u (List.mem_of_getElem? h2)⟩
            rw [← k7]
            congr 1
            unfold Addr.add
            by_cases e1 : i * s.size = 0 <;> by_cases e2 : k = 0 <;> simp [e1, e2, Nat.add_assoc]
        have hspot : 0 < len → a.spot = none := fun hl => by
          obtain ⟨y, hy⟩ : ∃ y, L[0]? = some y := ⟨_, List.getElem?_eq_getElem (by omega)⟩
          obtain ⟨_, _, k3, _, k5⟩ := hLp 0 y hy
          obtain ⟨_, _, k6⟩ := World.cells?_some k5
          have k7 := k6 0 h0
          rw [List.getElem?_eq_getElem (by omega)] at k7
          have : E.w.cell? a = some y.2[0] := by simpa [Addr.add] using k7
          unfold World.cell? at this
          cases hsp : a.spot with
          | none => rfl
          | some q =>
            split at this
            · simp [hsp] at this
            · cases this
        have hfl : (L.map (·.1)).flatten.length = len * s.size := by
          have h1 : ((L.map (·.1)).flatten).length = ((L.map (·.2)).flatten).length := (RelL.flatten (E := E) (by simp) (fun i x y hx hy => by
            rw [List.getElem?_map] at hx hy
            cases hz : L[i]? with
            | none => rw [hz] at hx; simp at hx
            | some z => rw [hz] at hx hy; simp only [Option.map_some, Option.some.injEq] at hx hy; subst hx; subst hy; exact (hLp i z hz).2.1)).1.symm
          rw [h1]
          clear h1 hcell hLp
          have : ∀ (M : List (List Value)), (∀ y ∈ M, y.length = s.size) → M.flatten.length = M.length * s.size := fun M => by
            induction M with
            | nil => intro _; simp
            | cons y M ih2 =>
              intro hM
              rw [List.flatten_cons, List.length_append, hM y (by simp), ih2 (fun z hz => hM z (by simp [hz])), List.length_cons, Nat.succ_mul]
              omega
          rw [this _ hlen2]
          simp [hL]
        have hrel := RelL.flatten (E := E) (A := L.map (·.1)) (B := L.map (·.2)) (by simp) (fun i x y hx hy => by
            rw [List.getElem?_map] at hx hy
            cases hz : L[i]? with
            | none => rw [hz] at hx; simp at hx
            | some z => rw [hz] at hx hy; simp only [Option.map_some, Option.some.injEq] at hx hy; subst hx; subst hy; exact (hLp i z hz).2.1)
        have hll : (L.map (·.1)).length = len := by simp [hL]
        have hcells : CellsAt E (some a) (L.map (·.2)).flatten := fun j u hu => by
          obtain ⟨h1, h2⟩ := hcell j u hu
          have hpos : 0 < len := by
            obtain ⟨i, k, y, h3, _⟩ := flatten_get hlen2 hu
            have := (List.getElem?_eq_some_iff.1 h3).1
            simp at this
            omega
          rw [addr_add a j (hspot hpos)] at h1
          exact ⟨a, rfl, hspot hpos, hI _ _ _ h1, h1, h2⟩
        refine ⟨_, ⟨L.map (·.1), rfl, fun b hb => ?_, by rw [hll]; exact Nat.le_trans hlc hcm⟩, .cons (by rw [hll]; exact .data (n := len) (L.map (·.2)).flatten hrel.1 hfl hlc hcm (fun h => ⟨a, rfl, hspot h⟩) hcells hrel.2 (fun τ e => by cases e)) .nil, rfl, by simp [Value.oneCell']⟩
        simp only [List.mem_map] at hb
        obtain ⟨z, hz, rfl⟩ := hb
        obtain ⟨i, hi⟩ := List.getElem?_of_mem hz
        exact (hLp i z hi).1
    | struct ht hf hc =>
      obtain ⟨xs, m, hm, _, hcl, hxl, hget⟩ := DataW.trod_struct ht h
      cases hm
      have key : ∀ (s : Sh) (fs : List Field) (off : Nat), FsOk P fs off s → (∀ f ∈ fs, ∃ y, DataW.trod enc P E.w base spare held n f.type ((cs.drop f.offset).take (P.cellsOf f.type)) = some y) →
          ∃ vs, Typed s vs ∧ RelL E vs ((cs.drop off).take s.size) ∧ ∀ u ∈ (cs.drop off).take s.size, u.oneCell' = true := by
        intro s
        induction s with
        | nil => intro fs off _ _; exact ⟨[], rfl, by simpa [Sh.size] using RelL.nil, by simp [Sh.size]⟩
        | cons a r _ ihr =>
          intro fs off hfs hall
          cases hfs with
          | @cons f fs _ _ _ ho ha hca hr =>
            obtain ⟨y, hy⟩ := hall f (by simp)
            rw [ho, hca] at hy
            obtain ⟨v1, t1, r1, _, o1⟩ := ih f.type a _ _ ha hy
            obtain ⟨v2, t2, r2, o2⟩ := ihr fs (off + a.size) hr (fun g hg => hall g (by simp [hg]))
            have hd : (cs.drop (off + a.size)).take r.size = ((cs.drop off).drop a.size).take r.size := by rw [List.drop_drop]
            rw [hd] at r2 o2
            refine ⟨v1 ++ v2, ⟨v1, v2, rfl, t1, t2⟩, ?_, one_take o1 o2⟩
            simp only [Sh.size]
            rw [List.take_add]
            exact r1.append r2
        | int k => intro fs off hfs _; cases hfs
        | bool => intro fs off hfs _; cases hfs
        | str => intro fs off hfs _; cases hfs
        | slice s _ => intro fs off hfs _; cases hfs
      obtain ⟨vs, h1, h2, h3⟩ := key s _ 0 hf (fun f hf => by
        obtain ⟨i, hi⟩ := List.getElem?_of_mem hf
        have h4 := hget i f (by simpa using hi)
        have hil : i < xs.length := by
          have := (List.getElem?_eq_some_iff.1 hi).1
          simp at this
          omega
        rw [List.getElem?_eq_getElem hil] at h4
        exact ⟨_, h4⟩)
      rw [hc] at hcl
      rw [List.drop_zero, List.take_of_length_le (by omega)] at h2 h3
      exact ⟨vs, h1, h2, hcl, h3⟩
    | @array _ e m s ht hse hc hn =>
      obtain ⟨xs, m', hm, _, hcl, hxl, hget⟩ := DataW.trod_array ht h
      cases hm
      have key : ∀ (k : Nat) (i : Nat), i + k ≤ m → ∃ vs, Typed (Sh.rep k s) vs ∧ RelL E vs ((cs.drop (i * s.size)).take (k * s.size)) ∧ ∀ u ∈ (cs.drop (i * s.size)).take (k * s.size), u.oneCell' = true := by
        intro k
        induction k with
        | zero => intro i _; exact ⟨[], rfl, by simpa using RelL.nil, by simp⟩
        | succ k ihk =>
          intro i hik
          have h4 := hget i (by omega)
          rw [List.getElem?_eq_getElem (by omega), hc] at h4
          obtain ⟨v1, t1, r1, _, o1⟩ := ih e s _ _ hse h4
          obtain ⟨v2, t2, r2, o2⟩ := ihk (i + 1) (by omega)
          have hd : (cs.drop ((i + 1) * s.size)).take (k * s.size) = ((cs.drop (i * s.size)).drop s.size).take (k * s.size) := by rw [List.drop_drop, Nat.succ_mul]
          rw [hd] at r2 o2
          rw [show (k + 1) * s.size = s.size + k * s.size by rw [Nat.succ_mul]; omega]
          refine ⟨v1 ++ v2, ⟨v1, v2, rfl, t1, t2⟩, ?_, one_take o1 o2⟩
          rw [List.take_add]
          exact r1.append r2
      have hsz : ∀ k, (Sh.rep k s).size = k * s.size := fun k => by
        induction k with
        | zero => simp [Sh.rep, Sh.size]
        | succ k ihk => rw [Sh.rep, Sh.size, ihk, Nat.succ_mul]; omega
      obtain ⟨vs, h1, h2, h3⟩ := key m 0 (by omega)
      rw [hn] at hcl
      rw [Nat.zero_mul, List.drop_zero, List.take_of_length_le (by omega)] at h2 h3
      exact ⟨vs, h1, h2, by rw [hsz]; exact hcl, h3⟩
end
end Go.VS
