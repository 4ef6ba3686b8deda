/- Rows that the call owns: made, built, appended to. -/
import Derived.Test.YtgjnkppjfbcicaaGvG
import Derived.Lib.AppendStr
namespace Go.VS
open Go.RowKit Go.Lib

def byteV (b : UInt8) : V := .sc (.int .u8 (b.toNat : Int))

theorem rel_strCells (E : Env) (s : ByteArray) : RelL E (s.data.toList.map byteV) (strCells s) :=
  ⟨by simp [strCells], fun j x u hx hu => by
    unfold strCells at hu
    rw [List.getElem?_map] at hx hu
    cases hj : s.data.toList[j]? with
    | none => rw [hj] at hx; simp at hx
    | some b =>
      rw [hj] at hx hu
      simp only [Option.map_some, Option.some.injEq] at hx hu
      subst hx; subst hu
      exact .sc _⟩

theorem one_strCells (s : ByteArray) : ∀ u ∈ strCells s, u.oneCell' = true := by
  intro u hu
  simp only [strCells, List.mem_map] at hu
  obtain ⟨b, _, rfl⟩ := hu
  rfl

section
variable {E0 E : Env} {N : Nat} {Γ : St} {a : Act}

/-- The tokens without one. -/
def lvDrop (τ : Option Nat) (lv : List (Nat × TypeId)) : List (Nat × TypeId) :=
  match τ with
  | none => lv
  | some τ => lv.filter fun p => decide (p.1 ≠ τ)

/-- Behind an operation that leaves an owned row: what was owned as 'row' (the token τ0) is now this. -/
theorem HoldsE.owned (h : HoldsE E0 E N Γ a) {w' : World} {row : Option Nat} {τ0 : Option Nat} {v : Value} {e : TypeId} {n : Nat} {xs : List Value} {cs : List V}
    (hg : E.w.grownBy w' row) (hown : w'.ownsRow E.base e (E.sz e) v n xs) (hat : v.ownBlock = row ∨ v.ownBlock = some E.w.heap.size)
    (h0 : ∀ g, row = some g → ∃ τ e u, τ0 = some τ ∧ (τ, e) ∈ Γ.lv ∧ E.θ τ = some u ∧ u.1.ownBlock = some g)
    (hpre : ∀ g off, row = some g → E.I g off → off < n * E.sz e ∧ w'.cell? ⟨g, off, none⟩ = E.w.cell? ⟨g, off, none⟩)
    (hr : RelL E cs xs) (h1 : ∀ u ∈ xs, u.oneCell' = true) (hn : n ≤ maxLen) :
    ∃ E', E'.w = w' ∧ Le E E' ∧ HoldsE E0 E' N { Γ with lv := (Γ.ctr, e) :: lvDrop τ0 Γ.lv, ctr := Γ.ctr + 1 } a ∧ Rel E' (.data n (E.sz e) cs (some Γ.ctr)) v := by
  have hΓ : E.ctr = Γ.ctr := h.ctr
  let I' : Nat → Nat → Prop := fun b o => E.I b o ∨ (v.ownBlock = some b ∧ o < n * E.sz e)
  let θ' : Nat → Option (Value × TypeId) := fun τ => if τ = E.ctr then some (v, e) else E.θ τ
  have hrow : ∀ g, row = some g → E.base ≤ g ∧ (∀ o, o < Γ.hp.length → E.ρ o ≠ g) ∧ ∀ off, E.I g off → w'.cell? ⟨g, off, none⟩ = E.w.cell? ⟨g, off, none⟩ := by
    intro g hgr
    obtain ⟨τ, e1, u, _, hm, hu, hb⟩ := h0 g hgr
    obtain ⟨_, v', hv', n', xs', hown', hg'⟩ := h.toks.own τ _ hm
    rw [hu] at hv'
    injection hv' with hv'
    rw [← hv'] at hown' hg'
    exact ⟨(hown'.lt g hb).1, (hg' g hb).2, fun off ho => (hpre g off hgr ho).2⟩
  have hgr := h.grow (w' := w') (row := row) (I' := I') (θ' := θ') (ctr' := E.ctr + 1) (lv' := (Γ.ctr, e) :: lvDrop τ0 Γ.lv) hg hrow (fun b o hb => .inl hb)
    (fun b o hb => by
      rcases hb with hb | ⟨hb, _⟩
      · exact .inl hb
      · refine .inr ⟨(hown.lt b hb).2, ?_⟩
        rcases hat with h2 | h2
        · exact .inl (by rw [← h2]; exact hb)
        · rw [hb] at h2; injection h2 with h2; exact .inr (by omega))
    (by omega) (fun τ ht => by simp only [θ']; rw [if_neg (by omega)])
    (fun τ e' he => by
      simp only [List.mem_cons, Prod.mk.injEq] at he
      rcases he with ⟨rfl, rfl⟩ | he
      · refine .inr ⟨hΓ.symm, by omega, v, by simp [θ', hΓ], ⟨n, xs, hown, fun g hgo => ⟨fun off hi => ?_, fun o ho => ?_⟩⟩, fun g hgo => ?_⟩
        · rcases hi with hi | ⟨_, hi⟩
          · rcases hat with h2 | h2
            · exact (hpre g off (by rw [← h2]; exact hgo) hi).1
            · have hgo' : v.ownBlock = some g := hgo
              rw [h2] at hgo'
              injection hgo' with hgo'
              have := h.objs.inb _ _ hi
              omega
          · exact hi
        · rcases hat with h2 | h2
          · exact (hrow g (by rw [← h2]; exact hgo)).2.1 o ho
          · have hgo' : v.ownBlock = some g := hgo
            rw [h2] at hgo'
            injection hgo' with hgo'
            obtain ⟨_, _, _, hb, _⟩ := h.objs.obj o _ (List.getElem?_eq_getElem ho)
            have hb' := lt_of_block hb
            intro e'
            have e'' : E.ρ o = g := e'
            omega
        · rcases hat with h2 | h2
          · exact .inl (by rw [← h2]; exact hgo)
          · rw [h2] at hgo
            injection hgo with hgo
            exact .inr (by omega)
      · have hmem : (τ, e') ∈ Γ.lv ∧ some τ ≠ τ0 := by
          unfold lvDrop at he
          split at he
          · exact ⟨he, by simp⟩
          · rename_i τ1
            simp only [List.mem_filter, decide_eq_true_eq] at he
            exact ⟨he.1, fun e => he.2 (by injection e)⟩
        refine .inl ⟨hmem.1, fun u hu => ?_⟩
        cases hb : u.1.ownBlock with
        | none => exact .inl rfl
        | some g =>
          refine .inr (fun e1 => ?_)
          obtain ⟨τ', e2, u', h1', hm', h2', h3'⟩ := h0 g e1.symm
          exact hmem.2 (by rw [h1', h.toks.sep τ τ' _ _ u u' g hmem.1 hm' hu h2' hb h3']))
  obtain ⟨hle, hh⟩ := hgr
  rw [hΓ] at hle hh
  refine ⟨_, rfl, hle, hh, ?_⟩
  have hE' := hr.le hle
  have htok : TokOk { E with I := I', θ := θ', ctr := Γ.ctr + 1, w := w' } (some Γ.ctr) v := fun τ eτ => by
    injection eτ with eτ
    subst eτ
    refine ⟨Nat.lt_succ_self _, fun u hu => ?_⟩
    simp only [θ', hΓ, if_true, Option.some.injEq] at hu
    rw [← hu]
  rcases hown.2 with ⟨rfl, rfl⟩ | ⟨g, cap, cur, rfl, hbg, hgb, hnc, hcm, hcs, htake⟩
  · have hx : xs = [] := List.eq_nil_of_length_eq_zero (by simpa using hown.1)
    subst hx
    exact .data [] hE'.1 (by rw [← hE'.1]; simp) (Nat.le_refl _) (by simp [maxLen]) (fun h => absurd h (by omega)) (fun j u hu => by simp at hu) hE'.2 htok
  · refine .data xs hE'.1 (by rw [← hE'.1]; exact hown.1) hnc hcm (fun _ => ⟨_, rfl, rfl⟩) (fun j u hu => ?_) hE'.2 htok
    have hjl : j < xs.length := (List.getElem?_eq_some_iff.1 hu).1
    refine ⟨_, rfl, rfl, .inr ⟨rfl, by show 0 + j < _; rw [Nat.zero_add, ← hown.1]; exact hjl⟩, ?_, h1 u (List.mem_of_getElem? hu)⟩
    have := hown.cells (g := g) rfl j u hu
    rw [addr_add _ _ rfl] at this
    exact this

/-- The values of an owned slice. -/
theorem HoldsE.owns (h : HoldsE E0 E N Γ a) {τ e n : Nat} {cs : List V} {v : Value} (hm : (τ, e) ∈ Γ.lv) (hx : Rel E (.data n (E.sz e) cs (some τ)) v) :
    ∃ xs, E.w.ownsRow E.base e (E.sz e) v n xs ∧ RelL E cs xs ∧ (∀ u ∈ xs, u.oneCell' = true) ∧ E.θ τ = some (v, e) ∧
      ∀ g, v.ownBlock = some g → ∀ off, E.I g off → off < n * E.sz e := by
  obtain ⟨A, c, us, rfl, hl, hc, hcm, h0, hcell, hr, ht⟩ := hx.data_inv
  obtain ⟨_, v', hv', n', xs', hown, hg'⟩ := h.toks.own τ e hm
  have he := (ht τ rfl).2 _ hv'
  simp only at he
  subst he
  have hul : us.length = n * E.sz e := by rw [hr.1, hl]
  rcases hown.2 with ⟨hv, hn'⟩ | ⟨g, cap, cur, hv, hbg, hgb, hnc, hcm', hcs, htake⟩
  · injection hv with e1 e2 e3
    subst e1; subst e2; subst e3
    have hus : us = [] := List.eq_nil_of_length_eq_zero (by rw [hul]; simp)
    subst hus
    exact ⟨[], World.ownsRow_nil _ _ _ _, hr, by simp, hv', fun g hg => by simp [Value.ownBlock] at hg⟩
  · injection hv with e1 e2 e3
    subst e1; subst e2; subst e3
    have hxs : xs' = us := by
      apply List.ext_getElem?
      intro j
      by_cases hj : j < n * E.sz e
      · have h1 : us[j]? = some (us[j]'(by omega)) := List.getElem?_eq_getElem (by omega)
        have h2 : xs'[j]? = some (xs'[j]'(by rw [hown.1]; exact hj)) := List.getElem?_eq_getElem (by rw [hown.1]; exact hj)
        obtain ⟨a', ea, _, _, hca, _⟩ := hcell j _ h1
        injection ea with ea
        subst ea
        have h3 := hown.cells (g := g) rfl j _ h2
        rw [addr_add _ _ rfl] at h3
        rw [hca] at h3
        rw [h1, h2]
        exact h3.symm
      · rw [List.getElem?_eq_none (by rw [hown.1]; exact Nat.not_lt.1 hj), List.getElem?_eq_none (by omega)]
    subst hxs
    exact ⟨xs', hown, hr, fun u hu => by obtain ⟨j, hj⟩ := List.getElem?_of_mem hu; obtain ⟨_, _, _, _, _, h1⟩ := hcell j u hj; exact h1, hv', fun g' hg => (hg' g' hg).1⟩
end

section
variable {P : Program} (w : World)
/-- append of nothing. -/
theorem append_nothing (base : Nat) (t ty e : TypeId) (i : TypeInfo) (size : Nat) (ht : P.underlying t = some (.slice e)) (hi : P.info? e = some i)
    (v : Value) (n : Nat) (xs : List Value) (hown : w.ownsRow base e size v n xs) (c : Nat) : (Builtin.append_ #[t, t] ty #[v, .slice none 0 c]).run P w = .ok v w := by
  rcases hown.2 with ⟨rfl, rfl⟩ | ⟨g, cap, cur, rfl, _, _, hnc, _⟩
  · simp [Builtin.append_, run_underlying ht, sizeOf, typeInfo, hi, Builtin.lenOf, Builtin.firstCells]
  · simp [Builtin.append_, run_underlying ht, sizeOf, typeInfo, hi, Builtin.lenOf, Builtin.firstCells, hnc, storeCells]

theorem grown_none (w : World) (o : Obj) : w.grownBy (w.drew.alloc o) none := ⟨rfl, rfl, rfl, by simp, fun k hk _ => Below.heap_alloc w.drew _ k hk⟩

theorem append_string_at (base : Nat) (t u ty e : TypeId) (i : TypeInfo) (ht : P.underlying t = some (.slice e)) (hu : P.underlying u = some .string) (hi : P.info? e = some i) (hz : i.zero = some (.int .u8 0))
    (hsize : i.size = 1) (hby : i.bytes = 1) (v : Value) (n : Nat) (xs : List Value) (hown : w.ownsRow base e 1 v n xs) (s : ByteArray)
    (h63 : n + s.size ≤ maxLen) (hbytes : n + s.size ≤ 140737488355328) (hbase : base ≤ w.heap.size) :
    ∃ v' w', (Builtin.append_ #[t, u] ty #[v, .string s]).run P w = .ok v' w' ∧ w'.ownsRow base e 1 v' (n + s.size) (xs ++ strCells s) ∧ w.grownBy w' v.ownBlock ∧
      (v'.ownBlock = v.ownBlock ∨ (v'.ownBlock = some w.heap.size ∧ w.grownBy w' none)) := by
  obtain ⟨v', w', hrun, h2, h3, _⟩ := run_append_own_string (P := P) w base t u ty e i ht hu hi hz hsize hby v n xs hown s h63 hbytes hbase
  refine ⟨v', w', hrun, h2, h3, ?_⟩
  have hsmall : n + s.size ≤ 9223372036854775807 := by simp only [maxLen] at h63; omega
  have hxl : xs.length = n := by simpa using hown.1
  rcases hown.2 with ⟨rfl, rfl⟩ | ⟨g, cap, cur, rfl, hbg, hg, hnc, hcm, hcs, htake⟩
  · by_cases hm : s.size = 0
    · have hf := run_firstCells_string (P := P) w 1 s
      rw [hm] at hf
      have : (Builtin.append_ #[t, u] ty #[.slice none 0 0, .string s]).run P w = .ok (.slice none 0 0) w := by
        simp [Builtin.append_, run_underlying ht, run_underlying hu, sizeOf, typeInfo, hi, hsize, Builtin.lenOf, hm, hf]
      rw [hrun] at this
      injection this with e1 _
      exact .inl (by rw [e1])
    · have hr := run_append_nil_string (P := P) w t u ty e i (.int .u8 0) ht hu hi hz s (by omega) (by omega) (by rw [hby]; omega)
      rw [hrun] at hr
      injection hr with e1 e2
      exact .inr ⟨by rw [e1]; rfl, by rw [e2]; exact grown_none w _⟩
  · by_cases hroom : n + s.size ≤ cap
    · have hcs' : cur.size = cap := by simpa using hcs
      have hr := run_append_room_string (P := P) w t u ty e i ht hu hi hsize g n cap cur hg s hroom (by omega)
      rw [hrun] at hr
      injection hr with e1 _
      exact .inl (by rw [e1]; rfl)
    · have holds : ∀ j u, xs[j]? = some u → w.cell? ((⟨g, 0, none⟩ : Addr).add j) = some u := hown.cells (g := g) rfl
      have hr := run_append_grow_string (P := P) w t u ty e i (.int .u8 0) ht hu hi hz ⟨g, 0, none⟩ n cap xs (by rw [hsize]; simpa using hxl) holds s (by omega) (by omega) (by rw [hby]; exact growslice_fits (by omega) (by omega))
      rw [hrun] at hr
      injection hr with e1 e2
      exact .inr ⟨by rw [e1]; rfl, by rw [e2]; exact grown_none w _⟩

theorem append_slice_at (base : Nat) (t ty e : TypeId) (i : TypeInfo) (z : Value) (size bytes : Nat) (ht : P.underlying t = some (.slice e)) (hi : P.info? e = some i) (hz : i.zero = some z)
    (hsize : i.size = size) (hby : i.bytes = bytes) (hzs : z.cells.size = size) (hsz : 0 < size)
    (v : Value) (n : Nat) (xs : List Value) (hown : w.ownsRow base e size v n xs)
    (a : Addr) (m c : Nat) (news : List Value) (hl : news.length = m * size) (hnews : ∀ j u, news[j]? = some u → w.cell? (a.add j) = some u) (h1 : ∀ u ∈ news, u.oneCell' = true)
    (h63 : n + m ≤ maxLen) (hbytes : (n + m) * bytes ≤ 140737488355328) (hbase : base ≤ w.heap.size) :
    ∃ v' w', (Builtin.append_ #[t, t] ty #[v, .slice (some a) m c]).run P w = .ok v' w' ∧ w'.ownsRow base e size v' (n + m) (xs ++ news) ∧ w.grownBy w' v.ownBlock ∧
      (v'.ownBlock = v.ownBlock ∨ (v'.ownBlock = some w.heap.size ∧ w.grownBy w' none)) := by
  obtain ⟨v', w', hrun, h2, h3, _⟩ := run_append_own_at (P := P) w base t ty e i z size bytes ht hi hz hsize hby hzs hsz v n xs hown a m c news hl hnews h1 h63 hbytes hbase
  refine ⟨v', w', hrun, h2, h3, ?_⟩
  subst hsize
  subst hby
  have hsmall : n + m ≤ 9223372036854775807 := by simp only [maxLen] at h63; omega
  rcases hown.2 with ⟨rfl, rfl⟩ | ⟨g, cap, cur, rfl, hbg, hg, hnc, hcm, hcs, htake⟩
  · have hx : xs = [] := List.eq_nil_of_length_eq_zero (by simpa using hown.1)
    subst hx
    by_cases hm : m = 0
    · subst hm
      have : (Builtin.append_ #[t, t] ty #[.slice none 0 0, .slice (some a) 0 c]).run P w = .ok (.slice none 0 0) w := by
        simp [Builtin.append_, run_underlying ht, sizeOf, typeInfo, hi, Builtin.lenOf, Builtin.firstCells, loadCells, loadCellsFrom]
      rw [hrun] at this
      injection this with e1 _
      exact .inl (by rw [e1])
    · have hr := run_append_nil (P := P) w t ty e i z ht hi hz a m c news hl hnews (by omega) (by omega) (by have hb := hbytes; simp only [Nat.zero_add] at hb; omega)
      rw [hrun] at hr
      injection hr with e1 e2
      exact .inr ⟨by rw [e1]; rfl, by rw [e2]; exact grown_none w _⟩
  · by_cases hroom : n + m ≤ cap
    · have hfit : n * i.size + news.length ≤ cur.size := by rw [hl, hcs, ← Nat.add_mul]; exact Nat.mul_le_mul_right _ hroom
      have hr := run_append_room (P := P) w t ty e i ht hi g n cap cur hg a m c news hl hnews h1 hroom hfit
      rw [hrun] at hr
      injection hr with e1 _
      exact .inl (by rw [e1]; rfl)
    · have holds : ∀ j u, xs[j]? = some u → w.cell? ((⟨g, 0, none⟩ : Addr).add j) = some u := hown.cells (g := g) rfl
      have hr := run_append_grow (P := P) w t ty e i z ht hi hz ⟨g, 0, none⟩ n cap xs hown.1 holds a m c news hl hnews (by omega) (by omega) (growslice_fits (by omega) hbytes)
      rw [hrun] at hr
      injection hr with e1 e2
      exact .inr ⟨by rw [e1]; rfl, by rw [e2]; exact grown_none w _⟩
end
end Go.VS
