/- More operations that only read: elements, lengths, cuts, conversions; and all of them under one name. -/
import Derived.Test.YtgjnkppjfbcicaaGvD
namespace Go.VS

def vunary (op : UnOp) : V → Option V
  | .sc (.bool b) => match op with | .not => some (.sc (.bool (!b))) | _ => none
  | .sc (.int k n) => match op with
    | .neg => some (.sc (.int k (k.wrap (0 - n))))
    | .xor => some (.sc (.int k (ibits .xor k (if k.signed then -1 else k.max) n)))
    | _ => none
  | _ => none

theorem unary_sound {P : Program} {E : Env} {op : UnOp} {x y : V} {v : Value} (hx : Rel E x v) (h : vunary op x = some y) : ∃ u, (Op.unary op v).run P E.w = .ok u E.w ∧ Rel E y u := by
  unfold vunary at h
  split at h <;> try cases h
  · have := hx.sc_inv; subst this
    split at h <;> cases h
    exact ⟨_, by simp [Op.unary], .sc _⟩
  · have := hx.sc_inv; subst this
    split at h <;> cases h
    · exact ⟨_, by simp [Op.unary, Op.intArith], .sc _⟩
    · exact ⟨_, by simp [Op.unary, Op.intBits, ibits], .sc _⟩

/-- The length. -/
def vlen (T : Tab) (t : TypeId) (x : V) : Option V :=
  match T t with
  | some ⟨.slice _, _, _, _⟩ => match x with | .osl _ _ n _ _ => some (.sc (.int .i64 n)) | x => match x.row with | some (n, _) => some (.sc (.int .i64 n)) | none => none
  | some ⟨.string, _, _, _⟩ => match x with | .sc (.string s) => some (.sc (.int .i64 s.size)) | _ => none
  | some ⟨.array n _, _, _, _⟩ => some (.sc (.int .i64 n))
  | _ => none

theorem len_sound {P : Program} {T : Tab} (hT : TabOk P T) {E : Env} {t ty : TypeId} {x y : V} {v : Value} (hx : Rel E x v) (h : vlen T t x = some y) :
    ∃ u, (Builtin.len_ #[t] ty #[v]).run P E.w = .ok u E.w ∧ Rel E y u := by
  unfold vlen at h
  split at h <;> try cases h
  · rename_i ht
    obtain ⟨hd, _⟩ := hT.ok t _ ht
    simp only [TyOk] at hd
    split at h
    · cases h
      obtain ⟨A, c, rfl, _⟩ := hx.osl_inv
      exact ⟨_, by simp [Builtin.len_, run_underlying hd]; rfl, .sc _⟩
    unfold V.row at h
    split at h <;> try cases h
    rename_i hrow
    split at hrow <;> cases hrow
    · obtain ⟨A, c, us, rfl, _⟩ := hx.data_inv
      exact ⟨_, by simp [Builtin.len_, run_underlying hd]; rfl, .sc _⟩
    · have := hx.sc_inv; subst this
      exact ⟨_, by simp [Builtin.len_, run_underlying hd]; rfl, .sc _⟩
  · rename_i ht
    obtain ⟨hd, _⟩ := hT.ok t _ ht
    simp only [TyOk] at hd
    split at h <;> cases h
    have := hx.sc_inv; subst this
    exact ⟨_, by simp [Builtin.len_, run_underlying hd]; rfl, .sc _⟩
  · rename_i ht
    obtain ⟨hd, _⟩ := hT.ok t _ ht
    simp only [TyOk] at hd
    cases v <;> exact ⟨_, by simp [Builtin.len_, run_underlying hd]; rfl, .sc _⟩

/-- An element of an array or a text by value. -/
def vindex (T : Tab) (t : TypeId) (x i : V) : Option (Prop × V) :=
  match T t, x, i with
  | some ⟨.array n e, _, _, _⟩, .agg cs, .sc (.int _ k) => match T e with
    | some ti => match vpart T e cs (k.toNat * ti.size) with
      | some y => some (0 ≤ k ∧ k < (n : Int), y)
      | none => none
    | none => none
  | some ⟨.string, _, _, _⟩, .sc (.string s), .sc (.int _ k) => some (0 ≤ k ∧ k < (s.size : Int), .sc (.int .u8 ((s.data.toList.getD k.toNat 0).toNat : Int)))
  | _, _, _ => none

theorem index_sound {P : Program} {T : Tab} (hT : TabOk P T) {E : Env} {t : TypeId} {x i y : V} {v iv : Value} {C : Prop} (hx : Rel E x v) (hi : Rel E i iv) (h : vindex T t x i = some (C, y)) (hC : C) :
    ∃ u, (Instr.index t v iv).run P E.w = .ok u E.w ∧ Rel E y u := by
  unfold vindex at h
  split at h
  · rename_i n e n0 b0 z0 cs kk k ht
    have := hi.sc_inv; subst this
    obtain ⟨us, rfl, hr, h1⟩ := hx.agg_inv
    split at h <;> try cases h
    rename_i ti hte
    split at h <;> cases h
    rename_i hp
    obtain ⟨u, hu, hy⟩ := part_sound hT hp hr h1
    obtain ⟨hd, _⟩ := hT.ok t _ ht
    simp only [TyOk] at hd
    exact ⟨u, by simp [Instr.index, asIntOf, run_underlying hd, hC, hT.size E.w hte, hu], hy⟩
  · rename_i n0 b0 z0 s kk k ht
    have := hi.sc_inv; subst this
    have := hx.sc_inv; subst this
    cases h
    obtain ⟨hd, _⟩ := hT.ok t _ ht
    simp only [TyOk] at hd
    refine ⟨_, ?_, .sc _⟩
    have hk : k.toNat < s.size := by omega
    have e : s.data.toList.getD k.toNat 0 = s[k.toNat] := by
      have h2 : k.toNat < s.data.toList.length := by simpa using hk
      rw [List.getD_eq_getElem?_getD, List.getElem?_eq_getElem h2]
      rfl
    rw [e]
    simp only [Instr.index, asIntOf, Sem.run_bind, Sem.run_pure, Result.andThen_ok, run_underlying hd]
    simp [hC.1, ByteArray.getElem?_lt' s k.toNat hk]
  · cases h

/-- A cut. -/
def vbound : V → Option Int
  | .sc (.int _ k) => some k
  | _ => none
def vobound (d : Int) : Option V → Option Int
  | none => some d
  | some x => vbound x

def vslice (T : Tab) (t : TypeId) (x : V) (lo hi : Option V) : Option (Prop × V) :=
  match T t with
  | some ⟨.string, _, _, _⟩ => match x with
    | .sc (.string s) => match vobound 0 lo, vobound s.size hi with
      | some l, some h => some (0 ≤ l ∧ l ≤ h ∧ h ≤ (s.size : Int), .sc (.string (s.extract l.toNat h.toNat)))
      | _, _ => none
    | _ => none
  | some ⟨.slice e, _, _, _⟩ => match T e with
    | some ti => match x.rowOf ti.size with
      | some (n, cs) => match vobound 0 lo, vobound n hi with
        | some l, some h => some (0 ≤ l ∧ l ≤ h ∧ h ≤ (n : Int), .data (h.toNat - l.toNat) ti.size ((cs.drop (l.toNat * ti.size)).take ((h.toNat - l.toNat) * ti.size)) none)
        | _, _ => none
      | none => none
    | none => none
  | _ => none

theorem bounds_run {P : Program} {E : Env} (w : World) (isSlice : Bool) (len cap : Nat) {lo hi : Option V} {lv hv : Option Value} {l h : Int}
    (hl : ∀ x, lo = some x → ∃ v, lv = some v ∧ Rel E x v) (hl0 : lo = none → lv = none) (hh : ∀ x, hi = some x → ∃ v, hv = some v ∧ Rel E x v) (hh0 : hi = none → hv = none)
    (h1 : vobound 0 lo = some l) (h2 : vobound len hi = some h) (b0 : 0 ≤ l) (b1 : l ≤ h) (b2 : h ≤ (len : Int)) (hc : len ≤ cap) :
    (Instr.sliceBounds isSlice len cap lv hv none).run P w = .ok (l.toNat, h.toNat, cap) w := by
  have e1 : (h.toNat : Int) = h := Int.toNat_of_nonneg (by omega)
  cases lo with
  | none =>
    rw [hl0 rfl]
    simp only [vobound, Option.some.injEq] at h1
    subst h1
    cases hi with
    | none =>
      rw [hh0 rfl]
      simp only [vobound, Option.some.injEq] at h2
      subst h2
      simp [Instr.sliceBounds]
    | some y =>
      obtain ⟨v, rfl, hv⟩ := hh y rfl
      simp only [vobound] at h2
      unfold vbound at h2
      split at h2 <;> cases h2
      have := hv.sc_inv; subst this
      simp [Instr.sliceBounds, run_sliceBound (P := P) w _ _ cap _ b1 (by omega : h ≤ (cap : Int))]
  | some x =>
    obtain ⟨v, rfl, hv⟩ := hl x rfl
    simp only [vobound] at h1
    unfold vbound at h1
    split at h1 <;> cases h1
    have := hv.sc_inv; subst this
    cases hi with
    | none =>
      rw [hh0 rfl]
      simp only [vobound, Option.some.injEq] at h2
      subst h2
      simp [Instr.sliceBounds, run_sliceBound (P := P) w _ _ len _ b0 b1]
    | some y =>
      obtain ⟨v, rfl, hv⟩ := hh y rfl
      simp only [vobound] at h2
      unfold vbound at h2
      split at h2 <;> cases h2
      have := hv.sc_inv; subst this
      simp [Instr.sliceBounds, run_sliceBound (P := P) w _ h cap _ (by omega) (by omega : h ≤ (cap : Int)), run_sliceBound (P := P) w _ l h.toNat _ b0 (by omega)]

theorem slice_sound {P : Program} {T : Tab} (hT : TabOk P T) {E : Env} {t : TypeId} {x y : V} {v : Value} {lo hi : Option V} {lv hv : Option Value} {C : Prop} (hx : Rel E x v)
    (hl : ∀ x, lo = some x → ∃ v, lv = some v ∧ Rel E x v) (hl0 : lo = none → lv = none) (hh : ∀ x, hi = some x → ∃ v, hv = some v ∧ Rel E x v) (hh0 : hi = none → hv = none)
    (h : vslice T t x lo hi = some (C, y)) (hC : C) : ∃ u, (Instr.sliceAt t v lv hv none).run P E.w = .ok u E.w ∧ Rel E y u := by
  unfold vslice at h
  split at h <;> try cases h
  · rename_i ht
    obtain ⟨hd, _⟩ := hT.ok t _ ht
    simp only [TyOk] at hd
    split at h <;> try cases h
    rename_i s
    have := hx.sc_inv; subst this
    split at h <;> cases h
    rename_i l h' e1 e2
    refine ⟨.string (s.extract l.toNat h'.toNat), ?_, .sc _⟩
    simp [Instr.sliceAt, Instr.slice, run_underlying hd, bounds_run E.w false s.size s.size hl hl0 hh hh0 e1 e2 hC.1 hC.2.1 hC.2.2 (Nat.le_refl _)]
  · rename_i e n0 b0 z0 ht
    obtain ⟨hd, _⟩ := hT.ok t _ ht
    simp only [TyOk] at hd
    split at h <;> try cases h
    rename_i ti hte
    split at h <;> try cases h
    rename_i n cs hrow
    split at h <;> cases h
    rename_i l h' e1 e2
    obtain ⟨c0, c1, c2⟩ := hC
    obtain ⟨hz, A, c, us, rfl, hc, hm, h0, hcell, hr⟩ := rowOf_inv hrow hx
    refine ⟨.slice (if c = l.toNat then A else A.map (·.add (l.toNat * ti.size))) (h'.toNat - l.toNat) (c - l.toNat), ?_, ?_⟩
    · simp [Instr.sliceAt, Instr.slice, run_underlying hd, bounds_run E.w true n c hl hl0 hh hh0 e1 e2 c0 c1 c2 hc, hT.size E.w hte]
    · have hr' := (hr.drop (l.toNat * ti.size)).take ((h'.toNat - l.toNat) * ti.size)
      have hlen : ((cs.drop (l.toNat * ti.size)).take ((h'.toNat - l.toNat) * ti.size)).length = (h'.toNat - l.toNat) * ti.size := by
        rw [List.length_take, List.length_drop, hz, ← Nat.sub_mul]
        exact Nat.min_eq_left (Nat.mul_le_mul_right _ (by omega))
      by_cases hlt : l.toNat < h'.toNat
      · obtain ⟨a, rfl, hsp⟩ := h0 (by omega)
        have hne : ¬ c = l.toNat := by omega
        refine .data _ hr'.1 hlen (by omega) (by omega) (fun _ => ⟨_, by rw [if_neg hne]; rfl, by show (a.add _).spot = none; rw [addr_add _ _ hsp]⟩) ?_ hr'.2 (fun τ e => by cases e)
        rw [if_neg hne]
        intro j u hu
        rw [List.getElem?_take] at hu
        split at hu
        · exact hcell.drop _ hsp j u hu
        · cases hu
      · have e0 : h'.toNat - l.toNat = 0 := by omega
        rw [e0]
        simp only [Nat.zero_mul, List.take_zero]
        exact .data [] rfl (by simp) (Nat.zero_le _) (by omega) (fun h => absurd h (by omega)) (fun j u hu => by simp at hu) (fun j x u hx => by simp at hx) (fun τ e => by cases e)

/-- A cut of an object's slice. -/
def vosl (T : Tab) (t : TypeId) (x : V) (lo hi mx : Option V) : Option (Prop × V) :=
  match T t, x with
  | some ⟨.slice e, _, _, _⟩, .osl o off n sz cap => match T e with
    | some ti => if ti.size = sz then (match vobound 0 lo, vobound n hi with
      | some l, some h => (match mx with
        | none => some (0 ≤ l ∧ l ≤ h ∧ h ≤ (n : Int), .osl o (off + l.toNat * sz) (h.toNat - l.toNat) sz (cap.map (· - l.toNat)))
        | some m => (match vbound m, hi with
          | some k, some _ => some (0 ≤ l ∧ l ≤ h ∧ h ≤ k ∧ k ≤ (n : Int), .osl o (off + l.toNat * sz) (h.toNat - l.toNat) sz (some (k.toNat - l.toNat)))
          | _, _ => none))
      | _, _ => none) else none
    | none => none
  | _, _ => none

theorem osl_sound {P : Program} {T : Tab} (hT : TabOk P T) {E : Env} {t : TypeId} {x y : V} {v : Value} {lo hi mx : Option V} {lv hv mv : Option Value} {C : Prop} (hx : Rel E x v)
    (hl : ∀ x, lo = some x → ∃ v, lv = some v ∧ Rel E x v) (hl0 : lo = none → lv = none) (hh : ∀ x, hi = some x → ∃ v, hv = some v ∧ Rel E x v) (hh0 : hi = none → hv = none)
    (hm : ∀ x, mx = some x → ∃ v, mv = some v ∧ Rel E x v) (hm0 : mx = none → mv = none)
    (h : vosl T t x lo hi mx = some (C, y)) (hC : C) : ∃ u, (Instr.sliceAt t v lv hv mv).run P E.w = .ok u E.w ∧ Rel E y u := by
  unfold vosl at h
  split at h <;> try cases h
  rename_i e n0 b0 z0 o off n sz cap ht
  split at h <;> try cases h
  rename_i ti hte
  split at h <;> try cases h
  rename_i hsz
  subst hsz
  obtain ⟨hd, _⟩ := hT.ok t _ ht
  simp only [TyOk] at hd
  split at h <;> try cases h
  rename_i l h' e1 e2
  obtain ⟨A, c, rfl, hlt, hA, hn, hmx, hcap, hroom⟩ := hx.osl_inv
  have fin : ∀ (k : Nat), 0 ≤ l → l ≤ h' → h' ≤ (k : Int) → k ≤ c → (Instr.sliceBounds true n c lv hv mv).run P E.w = .ok (l.toNat, h'.toNat, k) E.w → ∀ cap' : Option Nat, (∀ k', cap' = some k' → k - l.toNat = k') →
      ∃ u, (Instr.sliceAt t (.slice A n c) lv hv mv).run P E.w = .ok u E.w ∧ Rel E (.osl o (off + l.toNat * ti.size) (h'.toNat - l.toNat) ti.size cap') u := by
    intro k b0 b1 b2 b3 hb cap' hcap'
    refine ⟨.slice (if k = l.toNat then A else A.map (·.add (l.toNat * ti.size))) (h'.toNat - l.toNat) (k - l.toNat), by simp [Instr.sliceAt, Instr.slice, run_underlying hd, hb, hT.size E.w hte],
      .osl (k - l.toNat) hlt (fun h0 => ?_) (by omega) (by omega) hcap' ?_⟩
    · rw [if_neg (by omega), hA (by omega)]
      simp only [Option.map_some]
      rw [addr_add _ _ rfl]
    · have : l.toNat * ti.size + (k - l.toNat) * ti.size ≤ c * ti.size := by
        rw [← Nat.add_mul]
        exact Nat.mul_le_mul_right _ (by omega)
      omega
  cases mx with
  | none =>
    cases h
    rw [hm0 rfl] at fin ⊢
    exact fin c hC.1 hC.2.1 (by omega) (Nat.le_refl _) (bounds_run E.w true n c hl hl0 hh hh0 e1 e2 hC.1 hC.2.1 hC.2.2 hn) _ (fun k' e => by
      cases hcp : cap with
      | none => rw [hcp] at e; cases e
      | some k0 => rw [hcp] at e; simp only [Option.map_some, Option.some.injEq] at e; rw [← hcap k0 hcp] at e; exact e)
  | some m =>
    dsimp only at h
    split at h <;> cases h
    rename_i k y0 ek
    obtain ⟨mvv, rfl, hmv⟩ := hm m rfl
    obtain ⟨hvv, rfl, hhv⟩ := hh y0 rfl
    unfold vbound at ek
    split at ek <;> cases ek
    rename_i kk
    have := hmv.sc_inv; subst this
    simp only [vobound] at e2
    unfold vbound at e2
    split at e2 <;> cases e2
    rename_i kh
    have := hhv.sc_inv; subst this
    obtain ⟨b0, b1, b2, b3⟩ := hC
    have hkn : (k.toNat : Int) = k := Int.toNat_of_nonneg (by omega)
    have hhn : (h'.toNat : Int) = h' := Int.toNat_of_nonneg (by omega)
    refine fin k.toNat b0 b1 (by omega) (by omega) ?_ _ (fun k' e => by injection e)
    cases lo with
    | none =>
      rw [hl0 rfl]
      simp only [vobound, Option.some.injEq] at e1
      subst e1
      simp [Instr.sliceBounds, run_sliceBound (P := P) E.w _ k c _ (by omega) (by omega), run_sliceBound (P := P) E.w _ h' k.toNat _ (by omega) (by omega)]
    | some x0 =>
      obtain ⟨lvv, rfl, hlv⟩ := hl x0 rfl
      simp only [vobound] at e1
      unfold vbound at e1
      split at e1 <;> cases e1
      have := hlv.sc_inv; subst this
      simp [Instr.sliceBounds, run_sliceBound (P := P) E.w _ k c _ (by omega) (by omega), run_sliceBound (P := P) E.w _ h' k.toNat _ (by omega) (by omega), run_sliceBound (P := P) E.w _ l h'.toNat _ (by omega) (by omega)]

/-- The bytes that cells are. -/
def vbytes : List V → Option (List UInt8)
  | [] => some []
  | .sc (.int .u8 n) :: cs => (vbytes cs).map (UInt8.ofNat n.toNat :: ·)
  | _ => none

def vconv (T : Tab) (src dst : TypeId) (x : V) : Option V :=
  match T src, T dst, x with
  | some _, some ⟨.int k, _, _, _⟩, .sc (.int _ n) => some (.sc (.int k (k.wrap n)))
  | some ⟨.string, _, _, _⟩, some ⟨.string, _, _, _⟩, .sc (.string s) => some (.sc (.string s))
  | some ⟨.slice e, _, _, _⟩, some ⟨.string, _, _, _⟩, x => match T e, x.row with
    | some ⟨.int .u8, 1, _, _⟩, some (n, cs) => match vbytes cs with
      | some l => if cs.length = n then some (.sc (.string ⟨l.toArray⟩)) else none
      | none => none
    | _, _ => none
  | _, _, _ => none

end Go.VS
namespace Go.VS
theorem vbytes_inv {E : Env} : ∀ (cs : List V) (us : List Value) (l : List UInt8), RelL E cs us → vbytes cs = some l → ∃ ns : List Int, us = ns.map (Value.int .u8) ∧ l = ns.map fun n => UInt8.ofNat n.toNat
  | [], us, l, hr, h => by
    have := hr.1
    cases us with
    | nil => simp [vbytes] at h; subst h; exact ⟨[], rfl, rfl⟩
    | cons u us => simp at this
  | c :: cs, us, l, hr, h => by
    cases us with
    | nil => have := hr.1; simp at this
    | cons u us =>
    have h1 := hr.2 0 c u rfl rfl
    have hr' : RelL E cs us := ⟨by simpa using hr.1, fun j x u hx hu => hr.2 (j + 1) x u (by simpa using hx) (by simpa using hu)⟩
    unfold vbytes at h
    split at h <;> try cases h
    · simp at *
    · rename_i e
      injection e with e1 e2
      subst e1 e2
      have := h1.sc_inv; subst this
      simp only [Option.map_eq_some_iff] at h
      obtain ⟨l', hl, rfl⟩ := h
      obtain ⟨ns, rfl, rfl⟩ := vbytes_inv cs us l' hr' hl
      exact ⟨_ :: ns, rfl, rfl⟩

theorem foldl_push (ns : List Int) : ∀ s : ByteArray, ns.foldl (fun r n => r.push (UInt8.ofNat n.toNat)) s = ⟨s.data ++ (ns.map fun n => UInt8.ofNat n.toNat).toArray⟩ := by
  induction ns with
  | nil => intro s; simp
  | cons n ns ih =>
    intro s
    simp only [List.foldl_cons, ih, List.map_cons]
    congr 1
    cases s
    simp [ByteArray.push]

theorem conv_sound {P : Program} {T : Tab} (hT : TabOk P T) {E : Env} {src dst : TypeId} {x y : V} {v : Value} (hx : Rel E x v) (h : vconv T src dst x = some y) :
    ∃ u, (convert src dst v).run P E.w = .ok u E.w ∧ Rel E y u := by
  unfold vconv at h
  split at h
  · rename_i ti k n0 b0 z0 kk n h1 h2
    cases h
    have := hx.sc_inv; subst this
    obtain ⟨hd, _⟩ := hT.ok dst _ h2
    obtain ⟨_, i, z, hi, _⟩ := hT.ok src _ h1
    have hu : ∃ d, P.underlying src = some d := by
      obtain ⟨hs, _⟩ := hT.ok src _ h1
      revert hs
      cases ti.d <;> simp only [TyOk] <;> intro hs <;> first | exact ⟨_, hs⟩ | (obtain ⟨F, hF, _⟩ := hs; exact ⟨_, hF⟩)
    obtain ⟨d, hs⟩ := hu
    simp only [TyOk] at hd
    refine ⟨_, ?_, .sc _⟩
    cases d <;> simp [convert, run_underlying hs, run_underlying hd, Conv.intToInt]
  · rename_i n0 b0 z0 n1 b1 z1 s h1 h2
    cases h
    have := hx.sc_inv; subst this
    obtain ⟨hd, _⟩ := hT.ok dst _ h2
    obtain ⟨hs, _⟩ := hT.ok src _ h1
    simp only [TyOk] at hd hs
    exact ⟨_, by simp [convert, run_underlying hs, run_underlying hd], .sc _⟩
  · rename_i e n0 b0 z0 n1 b1 z1 h1 h2
    split at h <;> try cases h
    rename_i b2 z2 n cs hte hrow
    split at h <;> try cases h
    rename_i l hl
    split at h <;> cases h
    rename_i hlen
    obtain ⟨hd, _⟩ := hT.ok dst _ h2
    obtain ⟨hs, _⟩ := hT.ok src _ h1
    obtain ⟨he, _⟩ := hT.ok e _ hte
    simp only [TyOk] at hd hs he
    refine ⟨_, ?_, .sc _⟩
    unfold V.row at hrow
    split at hrow <;> cases hrow
    · obtain ⟨A, c, us, rfl, hz, hc, hm, h0, hcell, hr, _⟩ := hx.data_inv
      obtain ⟨ns, rfl, rfl⟩ := vbytes_inv cs us l hr hl
      rw [run_convert_bytes_string E.w src dst e A n c hs he hd]
      by_cases hn : 0 < n
      · obtain ⟨a, rfl, hsp⟩ := h0 hn
        have hlc := run_loadCells_list (P := P) E.w a (ns.map (Value.int .u8)) (fun j u hu => by
          obtain ⟨a', e', _, _, hc', _⟩ := hcell j u hu
          injection e' with e'; subst e'
          rw [addr_add a j hsp]; exact hc')
        rw [hr.1, hlen] at hlc
        rw [run_bytesToString E.w a n c ns hlc, foldl_push]
        simp [ByteArray.empty, ByteArray.emptyWithCapacity]
        rfl
      · have e0 : n = 0 := by omega
        have : ns = [] := by have := hr.1; rw [hlen, e0] at this; simpa using this
        subst this
        subst e0
        cases A with
        | none => simp [Conv.bytesToString]; rfl
        | some a =>
          rw [run_bytesToString E.w a 0 c [] (by simp [loadCells, loadCellsFrom]), foldl_push]
          simp [ByteArray.empty, ByteArray.emptyWithCapacity]
          rfl
    · have := hx.sc_inv; subst this
      have := hlen
      simp [vbytes] at hl
      subst hl
      rw [run_convert_bytes_string E.w src dst e none 0 0 hs he hd]
      simp [Conv.bytesToString]
      rfl
  · cases h
end Go.VS
