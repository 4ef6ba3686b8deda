/- Scan. -/
import Derived.Test.YtgjnkppjfbcicaaSvO
namespace Go.VS.S
open Go.Proofs

def scanL (u : ByteArray) (n : Int) : List Ent → List Ent → List Ent
  | [], out => out
  | e :: l, out => if n ≤ out.length ∨ (u ≠ ⟨#[]⟩ ∧ slt e.1 u = false) then out else scanL u n l (out ++ [e])
def rowOf (e : Ent) : Row := ⟨e.1, e.2⟩
def rowsE (l : List Ent) : List Row := l.map rowOf
/-- The rows from a key on. -/
def fromE (k : ByteArray) (l : List Ent) : List Ent := l.filter fun e => !slt e.1 k
def scanE (k u : ByteArray) (n : Int) (l : List Ent) : List Ent := scanL u n (fromE k l) []

theorem cells29 : X.P.cellsOf 29 = 2 := (tabOk Try.prog).cellsOf T29

def restAt (bl : List Blk) (i j : Nat) : List Ent := match bl[i]? with | some b => b.es.drop j ++ ents (bl.drop (i + 1)) | none => []
theorem restAt_some {bl : List Blk} {i j : Nat} {b : Blk} (h : bl[i]? = some b) : restAt bl i j = b.es.drop j ++ ents (bl.drop (i + 1)) := by unfold restAt; rw [h]
theorem restAt_next {bl : List Blk} {i : Nat} : ents (bl.drop i) = restAt bl i 0 := by
  unfold restAt
  cases h : bl[i]? with
  | none => rw [List.drop_eq_nil_of_le (by simpa using h)]; rfl
  | some b =>
    obtain ⟨hi, rfl⟩ := List.getElem?_eq_some_iff.1 h
    rw [List.drop_eq_getElem_cons hi]
    simp only [ents, List.flatMap_cons, List.drop_zero]
theorem fromE_at {H : List (List V)} {r : Nat} {bl : List Blk} (h : RootAt H r bl) (key : ByteArray) : fromE key (ents bl) = restAt bl (atOf bl key).1 (atOf bl key).2.1 := by
  have hlo : ∀ l : List Ent, (∀ e ∈ l, slt e.1 key = true) → fromE key l = [] := fun l hl => by
    unfold fromE
    rw [List.filter_eq_nil_iff]
    intro e he
    simp [hl e he]
  have hhi : ∀ l : List Ent, (∀ e ∈ l, slt e.1 key = false) → fromE key l = l := fun l hl => by
    unfold fromE
    rw [List.filter_eq_self]
    intro e he
    simp [hl e he]
  have happ : ∀ a b : List Ent, fromE key (a ++ b) = fromE key a ++ fromE key b := fun a b => by simp [fromE]
  rcases at_cases (h.atOk key) with ⟨hI, ha⟩ | ⟨b, e, hb, he, ha⟩
  · rw [ha]
    have h1 := ahead h.good.ne h.good.ord key (i := bl.length) (by omega)
    rw [List.take_length] at h1
    rw [hlo _ h1]
    unfold restAt
    rw [List.getElem?_eq_none (by simp)]
  · rw [ha]
    have hbm := List.mem_of_getElem? hb
    simp only
    rw [restAt_some hb, (ents_split hb).2, happ, hlo _ (ahead h.good.ne h.good.ord key (Nat.le_refl _)), List.nil_append]
    have h1 : b.es = b.es.take (atJ b key) ++ b.es.drop (atJ b key) := (List.take_append_drop _ _).symm
    conv => lhs; rw [h1]
    rw [List.append_assoc, happ, hlo _ (ahead_in (ord_blk h.good.ord hbm) key), List.nil_append]
    have hge : slt e.1 key = false := by
      have := (ord_mono (ord_blk h.good.ord hbm) key).find _ e he
      simpa using this.trans (decide_eq_true (Nat.le_refl _))
    obtain ⟨hj, hje⟩ := List.getElem?_eq_some_iff.1 he
    have hord := h.good.ord
    rw [(ents_split hb).2, ord_app] at hord
    have ho2 := hord.2.1
    conv at ho2 => rw [h1]
    rw [List.append_assoc, ord_app] at ho2
    have ho3 := ho2.2.1
    rw [List.drop_eq_getElem_cons hj, hje] at ho3 ⊢
    rw [List.cons_append] at ho3 ⊢
    refine hhi _ fun x hx => ?_
    rcases List.mem_cons.1 hx with rfl | hx
    · exact hge
    · have h2 := (List.pairwise_cons.1 ho3).1 x hx
      cases h3 : slt x.1 key with
      | false => rfl
      | true => rw [← hge, slt_trans h2 h3]

theorem EndH.cut {H : List (List V)} {c : Nat} {r r' : V} {H' : List (List V)} {lv : List (Nat × TypeId)} {c' : Nat} (hH : HpTake H' H) (hr : ∀ f, Cut H.length c f r' r) : EndH H c r H [] r' H' lv c' := by
  have h1 : H'.take H.length = H := hH
  have hle : H.length ≤ H'.length := by
    have := congrArg List.length h1
    simp at this
    omega
  exact ⟨rfl, hle, [], rfl, fun i τ e h => by simp at h, List.nodup_nil, hr _, fun o ho => .inl ⟨by conv => rhs; rw [← h1, List.getElem?_take, if_pos ho], rfl⟩⟩

theorem rowsE_app (a b : List Ent) : rowsV (rowsE (a ++ b)) = rowsV (rowsE a) ++ rowsV (rowsE b) := by simp [rowsE, rowsV]
theorem rowsE_one (e : Ent) : rowsV (rowsE [e]) = [.sc (.string e.1), cvV e.2] := rfl

theorem take2 {α : Type} {l : List α} {k : Nat} {x y : α} (h1 : l[k]? = some x) (h2 : l[k + 1]? = some y) : (l.drop k).take 2 = [x, y] := by
  obtain ⟨a1, rfl⟩ := List.getElem?_eq_some_iff.1 h1
  obtain ⟨a2, rfl⟩ := List.getElem?_eq_some_iff.1 h2
  rw [List.drop_eq_getElem_cons a1, List.drop_eq_getElem_cons a2]
  rfl
theorem hpTake_refl' {A : List (List V)} : HpTake A A := hpTake_refl ▸ trivial
theorem hpTake_app' {A L : List (List V)} : HpTake (A ++ L) A := hpTake_app ▸ trivial
theorem scan_end {H : List (List V)} {c : Nat} {R : List Ent} {H' : List (List V)} {lv : List (Nat × TypeId)} {c' τ : Nat} (hH : HpTake H' H) : EndH H c (.data R.length 2 (rowsV (rowsE R)) none) H [] (.data R.length 2 (rowsV (rowsE R)) (some τ)) H' lv c' :=
  EndH.cut hH fun _ => .dataN (Flat.keep (flat_rows _))

theorem scan_ok (H : List (List V)) (c m r : Nat) (bl : List Blk) (key u : ByteArray) (n : Int) (h : MapAt H m r bl) (hcl : ∀ e ∈ ents bl, e.2.length ≤ 1000000) :
    Does X 11 [.ref m 0, .sc (.string key), .sc (.string u), .sc (.int .i64 n)] H c (.data (scanE key u n (ents bl)).length 2 (rowsV (rowsE (scanE key u n (ents bl)))) none) H [] := by
  have hat := at_ok H c r bl key (h.root.atOk key)
  have hfr := fromE_at h.root key
  obtain ⟨bs, hr, hbs⟩ := h.root.root
  have htop := h.top
  have hsmall := h.root.small
  have hmany := ents_len h.root.good.ne
  refine Does.of (ACall.of_awp hP hm Try.func11 rfl rfl (by simp [Try.ntmps11]) (by kernel_rfl) fun hbd => ?_)
  simp (dsimp := false) (implicitDefEqProofs := false) only [go_sem]
  refine awpCall_does (none_ok m H r c htop) rfl rfl ?_
  simp (dsimp := false) (implicitDefEqProofs := false) only [go_sem, htop]
  refine awpCall_does hat rfl rfl ?_
  simp (dsimp := false) (implicitDefEqProofs := false) only [go_sem, htop, hr]
  refine onLoop_nil 8 29 cells29 (by simp (dsimp := false) (implicitDefEqProofs := false) only [go_sem]) ?_
  have hres : scanE key u n (ents bl) = scanL u n (restAt bl (atOf bl key).1 (atOf bl key).2.1) [] := by rw [← hfr]; rfl
  have hle : (restAt bl (atOf bl key).1 (atOf bl key).2.1).length ≤ (ents bl).length := by rw [← hfr]; exact List.length_filter_le _ _
  generalize scanE key u n (ents bl) = R at *
  have hai : (atOf bl key).1 ≤ bl.length := by
    rcases at_cases (h.root.atOk key) with ⟨_, ha⟩ | ⟨b, e, hb, _, ha⟩
    · rw [ha]; exact Nat.le_refl _
    · rw [ha]; exact Nat.le_of_lt (List.getElem?_eq_some_iff.1 hb).1
  generalize (atOf bl key).1 = ai at *
  generalize (atOf bl key).2.1 = aj at *
  refine onLoop_inv (α := Nat × Nat × List Ent × Nat × Nat) (fun a => bl.length - a.1) (fun a => a.1 ≤ bl.length ∧ R = scanL u n (restAt bl a.1 a.2.1) a.2.2.1 ∧ a.2.2.1.length + (restAt bl a.1 a.2.1).length ≤ (ents bl).length)
    (fun a => ⟨[(0, .ref m 0), (2, .sc (.string u)), (3, .sc (.int .i64 n)), (8, .data a.2.2.1.length 2 (rowsV (rowsE a.2.2.1)) (some a.2.2.2.1)), (9, .sc (.int .i64 a.1)), (10, .sc (.int .i64 a.2.1))], H, [(a.2.2.2.1, 29)], a.2.2.2.2⟩)
    (ai, aj, [], c, c + 1) ⟨hai, hres, by simpa using hle⟩ (by simp (dsimp := false) (implicitDefEqProofs := false) only [go_sem, rowsE, rowsV, List.map_nil, List.flatMap_nil]) (.inl (by simp (dsimp := false) (implicitDefEqProofs := false) only [go_sem])) ?_
  rintro ⟨i, j, out, τ, c1⟩ ⟨hi, hR, hlen⟩ hB back
  dsimp only at hi hR hlen
  simp (dsimp := false) (implicitDefEqProofs := false) only [go_sem, htop, hr]
  rcases bsAt_cases hbs with ⟨rfl, rfl⟩ | ⟨B, cap, bc, rfl, hB1, hosl, hl, htk⟩
  · have h0 : i = 0 := by simpa using hi
    subst h0
    simp (dsimp := false) (implicitDefEqProofs := false) only [go_sem]
    have : R = out := by rw [hR]; rfl
    rw [this]
    exact scan_end hpTake_refl'
  simp (dsimp := false) (implicitDefEqProofs := false) only [go_sem]
  refine ifG_dec (fun hd => ?_) (fun hd => ?_)
  · have hil : i < bl.length := by omega
    obtain ⟨b, hb⟩ : ∃ b, bl[i]? = some b := ⟨_, List.getElem?_eq_getElem hil⟩
    have hbc := bc_get htk hb
    have hbm := List.mem_of_getElem? hb
    obtain ⟨vc, hvc, hdat, hvl, hvt⟩ := (h.root.blk b hbm).vc
    obtain ⟨kc, hkc, hstr, hkl, hkt⟩ := (h.root.blk b hbm).kc
    have hfew := h.root.good.few b hbm
    rw [restAt_some hb] at hR hlen
    simp (dsimp := false) (implicitDefEqProofs := false) only [go_sem, hd, htop, hr, hB1]
    rw [if_pos (by omega), take2 hbc.1 hbc.2]
    refine ⟨by omega, ?_⟩
    simp (dsimp := false) (implicitDefEqProofs := false) only [go_sem]
    refine onLoop_inv (α := Nat × List Ent × Nat × Nat) (fun a => b.es.length - a.1) (fun a => R = scanL u n (b.es.drop a.1 ++ ents (bl.drop (i + 1))) a.2.1 ∧ a.2.1.length + (b.es.drop a.1 ++ ents (bl.drop (i + 1))).length ≤ (ents bl).length)
      (fun a => ⟨[(0, .ref m 0), (2, .sc (.string u)), (3, .sc (.int .i64 n)), (8, .data a.2.1.length 2 (rowsV (rowsE a.2.1)) (some a.2.2.1)), (9, .sc (.int .i64 i)), (10, .sc (.int .i64 a.1)), (12, .ref H.length 0)], H ++ [[.osl b.ko b.koff b.es.length 1 b.kcap, .osl b.vo b.voff b.es.length 1 b.vcap]], [(a.2.2.1, 29)], a.2.2.2⟩)
      (j, out, τ, c1) ⟨hR, hlen⟩ (by simp (dsimp := false) (implicitDefEqProofs := false) only [go_sem]) (.inl (by simp (dsimp := false) (implicitDefEqProofs := false) only [go_sem])) ?_
    rintro ⟨j, out, τ, c1⟩ ⟨hR, hlen⟩ hB2 back2
    dsimp only at hR hlen
    simp (dsimp := false) (implicitDefEqProofs := false) only [go_sem]
    refine ifG_dec (fun hj => ?_) (fun hj => ?_)
    · have hjl : j < b.es.length := by omega
      obtain ⟨e, he⟩ : ∃ e, b.es[j]? = some e := ⟨_, List.getElem?_eq_getElem hjl⟩
      have hde : b.es.drop j = e :: b.es.drop (j + 1) := by
        obtain ⟨h1, h2⟩ := List.getElem?_eq_some_iff.1 he
        rw [List.drop_eq_getElem_cons h1, h2]
      rw [hde, List.cons_append, scanL] at hR
      have hlen2 : out.length + 1 + (b.es.drop (j + 1) ++ ents (bl.drop (i + 1))).length ≤ (ents bl).length := by
        rw [hde] at hlen
        simp only [List.cons_append, List.length_cons] at hlen
        omega
      simp (dsimp := false) (implicitDefEqProofs := false) only [go_sem, hj]
      refine ifG_dec (fun h1 => ?_) (fun h1 => ?_)
      · simp (dsimp := false) (implicitDefEqProofs := false) only [go_sem, h1]
        rw [if_pos (.inl h1)] at hR
        rw [hR]
        exact scan_end hpTake_app'
      · simp (dsimp := false) (implicitDefEqProofs := false) only [go_sem, h1]
        refine ifG_dec (fun h2 => ?yes) (fun h2 => ?no)
        case' yes =>
          simp (dsimp := false) (implicitDefEqProofs := false) only [go_sem, h1, h2, getElem?_app hkc, key_get hkt he]
          refine ⟨by omega, ?_⟩
          refine onI_bool (fun h3 => ?stop) (fun h3 => ?go)
        case stop =>
          rw [Bool.not_eq_true'] at h3
          simp (dsimp := false) (implicitDefEqProofs := false) only [go_sem]
          rw [if_pos (.inr ⟨h2, h3⟩)] at hR
          rw [hR]
          exact scan_end hpTake_app'
        case' go =>
          rw [Bool.not_eq_false'] at h3
          simp (dsimp := false) (implicitDefEqProofs := false) only [go_sem]
          rw [if_neg (by rintro (h4 | h4); exact h1 h4; rw [h3] at h4; exact absurd h4.2 (by simp))] at hR
        case' no =>
          simp (dsimp := false) (implicitDefEqProofs := false) only [go_sem, h1, h2]
          rw [if_neg (by rintro (h4 | h4); exact h1 h4; exact h2 h4.1)] at hR
        all_goals
          refine onDraw_all (by kernel_rfl) ?_
          simp (dsimp := false) (implicitDefEqProofs := false) only [go_sem, getElem?_app hkc, getElem?_app hvc, key_get hkt he, val_get hvt he, cvV]
          have hel : e.2.length ≤ 1000000 := hcl e (by
            simp only [ents, List.mem_flatMap]
            exact ⟨b, hbm, List.mem_of_getElem? he⟩)
          refine ⟨by omega, by omega, calleeD_pure (cells_ok e.2.length (cellsV e.2) hel (flat_cells _)) ?_⟩
          simp (dsimp := false) (implicitDefEqProofs := false) only [go_sem, or_true]
          rw [IntWalk.i64_in ((j : Int) + 1) (by omega)]
          have hw : Wk (.data (out.length + 1) 2 (rowsV (rowsE out) ++ [.sc (.string e.1), .data e.2.length 8 (cellsV e.2) (some c1)]) (some (c1 + 2))) (.data (out ++ [e]).length 2 (rowsV (rowsE (out ++ [e]))) (some (c1 + 2))) := by
            rw [rowsE_app, rowsE_one, List.length_append]
            exact WkL.data (WkL.app (WkL.refl _) ⟨.refl _, .tok, trivial⟩) (.inr rfl)
          refine ⟨by omega, back2 _ (j + 1, out ++ [e], c1 + 2, c1 + 3) ⟨hR, by dsimp only; rw [List.length_append]; exact hlen2⟩ (by dsimp only; omega) ?_ (.inl (by simp (dsimp := false) (implicitDefEqProofs := false) only [go_sem]))⟩
          simp (dsimp := false) (implicitDefEqProofs := false) only [go_sem]
          exact hw
    · simp (dsimp := false) (implicitDefEqProofs := false) only [go_sem, hj]
      rw [IntWalk.i64_in _ (by omega)]
      have hnx : b.es.drop j = [] := List.drop_eq_nil_of_le (by omega)
      rw [hnx, List.nil_append, restAt_next] at hR hlen
      exact back _ (i + 1, 0, out, τ, c1) ⟨by dsimp only; omega, hR, hlen⟩ (by dsimp only; omega) (by simp (dsimp := false) (implicitDefEqProofs := false) only [go_sem]) (.back hbd rfl (Nat.le_refl _) (by simp (dsimp := false) (implicitDefEqProofs := false) only [go_sem, getElem?_app htop]; exact ⟨(List.getElem?_eq_some_iff.1 htop).1, nr_flat (flat_rows _)⟩))
  · simp (dsimp := false) (implicitDefEqProofs := false) only [go_sem, hd]
    have : R = out := by
      rw [hR]
      unfold restAt
      rw [List.getElem?_eq_none (by omega)]
      rfl
    rw [this]
    exact scan_end hpTake_refl'
end Go.VS.S
