/- set, walked. -/
import Derived.Test.YtgjnkppjfbcicaaSvL
namespace Go.VS.S
open Go.Proofs

theorem atJ_lt {H : List (List V)} {r : Nat} {bl : List Blk} {key : ByteArray} (h : AtOk H r bl key) {b : Blk} (hb : bl[atI bl key]? = some b) : atJ b key < b.es.length := by
  have hbm := List.mem_of_getElem? hb
  obtain ⟨e, he, hle⟩ := last_get (h.ne b hbm)
  have h1 := (h.mono2 b hbm).find _ e he
  have h2 := h.mono.find _ b hb
  simp only [hle] at h2
  rw [h1] at h2
  have h3 : atJ b key ≤ b.es.length - 1 := of_decide_eq_true (h2.trans (decide_eq_true (Nat.le_refl _)))
  have := List.length_pos_iff.2 (h.ne b hbm)
  omega
theorem at_cases {H : List (List V)} {r : Nat} {bl : List Blk} {key : ByteArray} (h : AtOk H r bl key) :
    (atI bl key = bl.length ∧ atOf bl key = (bl.length, 0, false)) ∨ ∃ b e, bl[atI bl key]? = some b ∧ b.es[atJ b key]? = some e ∧ atOf bl key = (atI bl key, atJ b key, decide (e.1 = key)) := by
  by_cases hI : atI bl key < bl.length
  · obtain ⟨b, hb⟩ : ∃ b, bl[atI bl key]? = some b := ⟨_, List.getElem?_eq_getElem hI⟩
    obtain ⟨e, he⟩ : ∃ e, b.es[atJ b key]? = some e := ⟨_, List.getElem?_eq_getElem (atJ_lt h hb)⟩
    exact .inr ⟨b, e, hb, he, by unfold atOf; rw [hb]; simp only [he, Option.any_some]⟩
  · have h1 : atI bl key ≤ bl.length := List.findIdx_le_length
    have h2 : atI bl key = bl.length := by omega
    exact .inl ⟨h2, by unfold atOf; rw [List.getElem?_eq_none (by omega), h2]⟩

theorem vsplice_one {vc : List V} {o : Nat} {x : V} (h : o < vc.length) : vc.take o ++ x :: vc.drop (o + 1) = vc.set o x := by
  rw [List.set_eq_take_append_cons_drop, if_pos h]

theorem set_take {α : Type} {l : List α} {off n j : Nat} {x : α} {m : List α} (h : (l.drop off).take n = m) (hj : j < n) (hl : off + n ≤ l.length) : ((l.set (off + j) x).drop off).take n = m.set j x := by
  subst h
  rw [List.drop_set, if_neg (by omega), show off + j - off = j by omega, List.take_set]
theorem set_take_ne {α : Type} {l : List α} {off n j : Nat} {x : α} (h : j < off ∨ off + n ≤ j) : ((l.set j x).drop off).take n = (l.drop off).take n := by
  rw [List.drop_set]
  split
  · rfl
  · rw [List.take_set, List.set_eq_of_length_le (by simp; omega)]

theorem blV_set {bl : List Blk} {i : Nat} {b b' : Blk} (h : bl[i]? = some b) (hc : b'.cs = b.cs) : blV (bl.set i b') = blV bl := by
  obtain ⟨hi, rfl⟩ := List.getElem?_eq_some_iff.1 h
  have h1 : bl = bl.take i ++ bl[i] :: bl.drop (i + 1) := by rw [← List.drop_eq_getElem_cons hi, List.take_append_drop]
  rw [List.set_eq_take_append_cons_drop, if_pos hi]
  refine Eq.trans ?_ (congrArg blV h1).symm
  simp only [blV, List.flatMap_append, List.flatMap_cons, hc]

theorem sep_iff {bl : List Blk} : (bl.Pairwise fun a b => a.vo = b.vo → a.voff + a.es.length ≤ b.voff) ↔ (bl.map fun b => (b.vo, b.voff, b.es.length)).Pairwise fun a b => a.1 = b.1 → a.2.1 + a.2.2 ≤ b.2.1 := by
  rw [List.pairwise_map]
theorem sep_set {bl : List Blk} {i : Nat} {b b' : Blk} (h : bl[i]? = some b) (hs : bl.Pairwise fun a b => a.vo = b.vo → a.voff + a.es.length ≤ b.voff) (h1 : b'.vo = b.vo) (h2 : b'.voff = b.voff) (h3 : b'.es.length = b.es.length) :
    (bl.set i b').Pairwise fun a b => a.vo = b.vo → a.voff + a.es.length ≤ b.voff := by
  rw [sep_iff] at hs ⊢
  obtain ⟨hi, rfl⟩ := List.getElem?_eq_some_iff.1 h
  have : (bl.set i b').map (fun b => (b.vo, b.voff, b.es.length)) = bl.map fun b => (b.vo, b.voff, b.es.length) := by
    rw [List.map_set, h1, h2, h3]
    refine List.ext_getElem (by simp) fun n hn1 hn2 => ?_
    rw [List.getElem_set]
    split
    · rename_i e; subst e; simp
    · rfl
  rw [this]
  exact hs

theorem root_hit {H : List (List V)} {r : Nat} {bl : List Blk} {key : ByteArray} {v : List Cell} (h : RootAt H r bl) {b : Blk} (hb : bl[atI bl key]? = some b) {e : Ent} (he : b.es[atJ b key]? = some e) (hk : e.1 = key) {vc : List V} (hvc : H[b.vo]? = some vc) :
    RootAt (H.set b.vo (vc.set (b.voff + atJ b key) (cvV v))) r (bl.set (atI bl key) { b with es := b.es.set (atJ b key) (key, v) }) ∧ ents (bl.set (atI bl key) { b with es := b.es.set (atJ b key) (key, v) }) = insE key v (ents bl) ∧
      Frame H r bl (H.set b.vo (vc.set (b.voff + atJ b key) (cvV v))) (bl.set (atI bl key) { b with es := b.es.set (atJ b key) (key, v) }) := by
  have hbm := List.mem_of_getElem? hb
  have hj : atJ b key < b.es.length := (List.getElem?_eq_some_iff.1 he).1
  obtain ⟨bs, hr, hbs⟩ := h.root
  obtain ⟨vc', hvc', hdat, hvl, hvt⟩ := (h.blk b hbm).vc
  rw [hvc] at hvc'
  injection hvc' with hvc'
  subst hvc'
  have hents : ents (bl.set (atI bl key) { b with es := b.es.set (atJ b key) (key, v) }) = insE key v (ents bl) := by
    rw [ents_set hb, ins_hit h.good hb he hk]
  have hlen : (ents (bl.set (atI bl key) { b with es := b.es.set (atJ b key) (key, v) })).length = (ents bl).length := by
    rw [ents_set hb, (ents_split hb).2]
    simp
  have hdo : ∀ x ∈ vc.set (b.voff + atJ b key) (cvV v), isDat x := fun x hx => by
    rcases mem_set hx with rfl | ⟨j, _, hj⟩
    · trivial
    · exact hdat x (List.mem_of_getElem? hj)
  have hvol : b.vo < H.length := (List.getElem?_eq_some_iff.1 hvc).1
  refine ⟨⟨⟨bs, ?_, ?_⟩, ?_, ⟨?_, ?_, ?_, ?_⟩, by rw [hlen]; exact h.small⟩, hents, ⟨by simp, fun o ho hf => ?_, fun o ho => .inl ?_⟩⟩
  · rw [List.getElem?_set_ne (h.r_vo hbm).symm, hr, hlen]
  · rcases bsAt_cases hbs with ⟨rfl, rfl⟩ | ⟨B, cap, bc, rfl, hB, hosl, hl, htk⟩
    · simp at hb
    · refine ⟨rfl, by simp, rfl, bc, ?_, hosl, by simpa using hl, ?_⟩
      · rw [List.getElem?_set_ne (h.vo_B hbm hB hosl)]; exact hB
      · rw [blV_set hb (by simp [Blk.cs])]; simpa using htk
  · intro b' hb'
    rcases mem_set hb' with rfl | ⟨j, hji, hbj⟩
    · obtain ⟨kc, k1, k2, k3, k4⟩ := (h.blk b hbm).kc
      refine ⟨⟨kc, ?_, k2, by simpa using k3, ?_⟩, ⟨_, ?_, hdo, by simpa using hvl, ?_⟩⟩
      · rw [List.getElem?_set_ne (h.ko_vo hbm hbm).symm]; exact k1
      · simp only [List.length_set]
        rw [k4, ksV, ksV, List.map_set]
        refine (List.ext_getElem? fun n => ?_)
        rw [List.getElem?_set]
        split
        · rename_i e1
          subst e1
          rw [List.getElem?_map, he]
          simp [hk, hj]
        · rfl
      · simp only
        rw [List.getElem?_set]
        simp [hvol]
      · simp only [List.length_set]
        rw [set_take hvt hj hvl, vsV, vsV, List.map_set]
    · have hbj' := List.mem_of_getElem? hbj
      by_cases hv : b'.vo = b.vo
      · obtain ⟨kc, k1, k2, k3, k4⟩ := (h.blk b' hbj').kc
        obtain ⟨wc, w1, w2, w3, w4⟩ := (h.blk b' hbj').vc
        rw [hv, hvc] at w1
        injection w1 with w1
        subst w1
        refine ⟨⟨kc, ?_, k2, k3, k4⟩, ⟨_, ?_, hdo, by simpa using w3, ?_⟩⟩
        · rw [List.getElem?_set_ne (h.ko_vo hbj' hbm).symm]; exact k1
        · rw [hv, List.getElem?_set]
          simp [hvol]
        · rw [set_take_ne, w4]
          obtain ⟨hjl, hje⟩ := List.getElem?_eq_some_iff.1 hbj
          obtain ⟨hil, hie⟩ := List.getElem?_eq_some_iff.1 hb
          rcases Nat.lt_or_gt_of_ne hji with hlt | hgt
          · have := List.pairwise_iff_getElem.1 h.good.sep j (atI bl key) hjl hil hlt (by rw [hje, hie]; exact hv)
            rw [hje, hie] at this
            right; omega
          · have := List.pairwise_iff_getElem.1 h.good.sep (atI bl key) j hil hjl hgt (by rw [hje, hie]; exact hv.symm)
            rw [hje, hie] at this
            left; omega
      · exact (h.blk b' hbj').set (h.ko_vo hbj' hbm).symm (fun e => hv e.symm)
  · intro b' hb'
    rcases mem_set hb' with rfl | ⟨j, _, hbj⟩
    · intro e1
      have h5 : (b.es.set (atJ b key) (key, v)).length = 0 := by rw [show b.es.set (atJ b key) (key, v) = [] from e1]; rfl
      rw [List.length_set] at h5
      omega
    · exact h.good.ne b' (List.mem_of_getElem? hbj)
  · intro b' hb'
    rcases mem_set hb' with rfl | ⟨j, _, hbj⟩
    · simpa using h.good.few b hbm
    · exact h.good.few b' (List.mem_of_getElem? hbj)
  · rw [hents]; exact ord_insE h.good.ord
  · exact sep_set hb h.good.sep rfl rfl (by simp)
  · rw [List.getElem?_set_ne fun e => hf (.inr (.inl ⟨b, hbm, e.symm⟩))]
  · rcases ho with rfl | ⟨b', hb', rfl⟩ | ⟨n, cap, cnt, hn⟩
    · exact .inl rfl
    · rcases mem_set hb' with rfl | ⟨j, _, hbj⟩
      · exact .inr (.inl ⟨b, hbm, rfl⟩)
      · exact .inr (.inl ⟨b', List.mem_of_getElem? hbj, rfl⟩)
    · rw [List.getElem?_set_ne (h.r_vo hbm).symm] at hn
      exact .inr (.inr ⟨n, cap, cnt, hn⟩)

theorem put2_eq {bc : List V} {n : Nat} {x y : V} (h : n + 2 ≤ bc.length) : (bc.take n ++ [x] ++ bc.drop (n + 1)).take (n + 1) ++ [y] ++ (bc.take n ++ [x] ++ bc.drop (n + 1)).drop (n + 2) = bc.take n ++ [x, y] ++ bc.drop (n + 2) := by
  have h1 : (bc.take n ++ [x]).length = n + 1 := by simp; omega
  rw [List.take_append_of_le_length (by omega), List.take_of_length_le (by omega), List.drop_append, List.drop_eq_nil_of_le (by omega), h1, List.drop_drop]
  simp [show n + 1 + (n + 2 - (n + 1)) = n + 2 by omega]
theorem put2_len {bc : List V} {n : Nat} {x y : V} (h : n + 2 ≤ bc.length) : (bc.take n ++ [x, y] ++ bc.drop (n + 2)).length = bc.length := by simp; omega

theorem put2_put2 {bc : List V} {n : Nat} {x y a b : V} (h : n + 2 ≤ bc.length) : (bc.take n ++ [a, b] ++ bc.drop (n + 2)).take n ++ [x, y] ++ (bc.take n ++ [a, b] ++ bc.drop (n + 2)).drop (n + 2) = bc.take n ++ [x, y] ++ bc.drop (n + 2) := by
  have e1 : (bc.take n ++ [a, b] ++ bc.drop (n + 2)).take n = bc.take n := by
    rw [List.append_assoc, List.take_append_of_le_length (by simp; omega), List.take_take, Nat.min_self]
  have e2 : (bc.take n ++ [a, b] ++ bc.drop (n + 2)).drop (n + 2) = bc.drop (n + 2) := List.drop_left' (by simp; omega)
  rw [e1, e2]

theorem key_cells {kc : List V} (hstr : ∀ x ∈ kc, isStr x) {m n o p : Nat} {key : ByteArray} {k : Nat} : ∀ x ∈ (kc.drop m).take n ++ [V.sc (.string key)] ++ (kc.drop o).take p, NR k x := by
  intro x hx
  have hx' : x ∈ kc ∨ x = .sc (.string key) := by
    simp only [List.mem_append, List.mem_cons, List.not_mem_nil, or_false] at hx
    rcases hx with (hx | hx) | hx
    · exact .inl (List.mem_of_mem_drop (List.mem_of_mem_take hx))
    · exact .inr hx
    · exact .inl (List.mem_of_mem_drop (List.mem_of_mem_take hx))
  rcases hx' with hx' | rfl
  · have := hstr x hx'
    cases x <;> simp only [isStr] at this
    exact .sc _
  · exact .sc _
theorem val_cells {vc : List V} {k : Nat} (hnr : ∀ x ∈ vc, NR k x) {m n o p : Nat} {v : List Cell} : ∀ x ∈ (vc.drop m).take n ++ [V.data v.length 8 (cellsV v) none] ++ (vc.drop o).take p, NR k x := by
  intro x hx
  simp only [List.mem_append, List.mem_cons, List.not_mem_nil, or_false] at hx
  rcases hx with (hx | rfl) | hx
  · exact hnr x (List.mem_of_mem_drop (List.mem_of_mem_take hx))
  · exact nr_flat (flat_cells v)
  · exact hnr x (List.mem_of_mem_drop (List.mem_of_mem_take hx))

theorem set_ok (H : List (List V)) (c r : Nat) (bl : List Blk) (key : ByteArray) (v : List Cell) (h : RootAt H r bl) (hsm : (ents bl).length ≤ 800000) :
    ACall X 25 [.ref r 0, .sc (.string key), cvV v] H c (SetPost H r bl (insE key v (ents bl)) c) := by
  have hat := at_ok H c r bl key (h.atOk key)
  obtain ⟨bs, hr, hbs⟩ := h.root
  refine (ACall.of_awp hP hm Try.func25 rfl rfl (by simp [Try.ntmps25]) (by kernel_rfl) fun hbd => ?_)
  simp (dsimp := false) (implicitDefEqProofs := false) only [go_sem]
  refine awpCall_does hat rfl rfl ?_
  simp (dsimp := false) (implicitDefEqProofs := false) only [go_sem]
  have hcnt : IntKind.i64.wrap ((ents bl).length + 1) = (ents bl).length + 1 := IntWalk.i64_in _ (by omega)
  have hmany := ents_len h.good.ne
  have hrl : r < H.length := (List.getElem?_eq_some_iff.1 hr).1
  -- where it goes in
  have hpos : (atOf bl key).2.2 = false → bl ≠ [] → ∃ i j b, bl[i]? = some b ∧ j ≤ b.es.length ∧ insE key v (ents bl) = ents (bl.take i) ++ (addE b.es j key v ++ ents (bl.drop (i + 1))) ∧ ((atOf bl key).1 = i ∧ (atOf bl key).2.1 = j ∧ i < bl.length ∨ (atOf bl key).1 = bl.length ∧ i + 1 = bl.length ∧ j = b.es.length) := by
    intro hf hne
    rcases at_cases (h.atOk key) with ⟨hI, ha⟩ | ⟨b, e, hb, he, ha⟩
    · have hlp := List.length_pos_iff.2 hne
      obtain ⟨b, hb⟩ : ∃ b, bl[bl.length - 1]? = some b := ⟨_, List.getElem?_eq_getElem (by omega)⟩
      refine ⟨bl.length - 1, b.es.length, b, hb, Nat.le_refl _, ?_, .inr ⟨by rw [ha], by omega, rfl⟩⟩
      rw [ins_last h.good hI, (ents_split hb).2, show bl.length - 1 + 1 = bl.length by omega, List.drop_eq_nil_of_le (Nat.le_refl bl.length)]
      simp [ents, addE]
    · refine ⟨atI bl key, atJ b key, b, hb, Nat.le_of_lt (atJ_lt (h.atOk key) hb), ?_, .inl ⟨by rw [ha], by rw [ha], (List.getElem?_eq_some_iff.1 hb).1⟩⟩
      rw [ha] at hf
      exact ins_miss h.good hb he (of_decide_eq_false hf)
  have hhit : (atOf bl key).2.2 = true → ∃ b e, bl[atI bl key]? = some b ∧ b.es[atJ b key]? = some e ∧ (atOf bl key).1 = atI bl key ∧ (atOf bl key).2.1 = atJ b key ∧ e.1 = key := by
    intro hf
    rcases at_cases (h.atOk key) with ⟨hI, ha⟩ | ⟨b, e, hb, he, ha⟩
    · rw [ha] at hf; cases hf
    · rw [ha] at hf
      exact ⟨b, e, hb, he, by rw [ha], by rw [ha], of_decide_eq_true hf⟩
  have hI0 : bl = [] → (atOf bl key).1 = 0 := by rintro rfl; rfl
  generalize (atOf bl key).1 = ai at *
  generalize (atOf bl key).2.1 = aj at *
  cases hk : (atOf bl key).2.2 with
  | true =>
    obtain ⟨b, e, hb, he, rfl, rfl, hke⟩ := hhit hk
    have hbm := List.mem_of_getElem? hb
    have hj : atJ b key < b.es.length := (List.getElem?_eq_some_iff.1 he).1
    have hi : atI bl key < bl.length := (List.getElem?_eq_some_iff.1 hb).1
    rcases bsAt_cases hbs with ⟨rfl, rfl⟩ | ⟨B, cap, bc, rfl, hB, hosl, hl, htk⟩
    · simp at hb
    obtain ⟨vc, hvc, hdat, hvl, hvt⟩ := (h.blk b hbm).vc
    simp (dsimp := false) (implicitDefEqProofs := false) only [go_sem, hr, hB, (bc_get htk hb).2, hvc, cvV]
    refine ⟨by omega, by omega, ?_⟩
    rw [if_pos (by omega)]
    simp (dsimp := false) (implicitDefEqProofs := false) only [go_sem]
    have h3 := root_hit (v := v) h hb he hke hvc
    rw [List.append_assoc, List.singleton_append, show List.take (b.voff + atJ b key) vc ++ V.data v.length 8 (cellsV v) none :: List.drop (b.voff + (atJ b key + 1)) vc = vc.set (b.voff + atJ b key) (cvV v) from vsplice_one (by omega)]
    exact ⟨_, h3.1, h3.2.1, h3.2.2, rfl, rfl⟩
  | false =>
    rcases bsAt_cases hbs with ⟨rfl, rfl⟩ | ⟨B, cap, bc, rfl, hB, hosl, hl, htk⟩
    · rw [hI0 rfl]
      have hr1 : ∀ x : List V, (H.set r x)[r]? = some x := fun x => by rw [List.getElem?_set]; simp [hrl]
      have hl0 : ∀ x : List V, (H.set r x).length = H.length := fun x => by simp
      simp (dsimp := false) (implicitDefEqProofs := false) only [go_sem, hr, hcnt, hr1, cvV, hl0]
      simp (dsimp := false) (implicitDefEqProofs := false) only [go_sem, getElem?_app (hr1 _)]
      rw [List.set_append_left _ _ (by simpa using hrl), List.set_set, ← List.set_append_left _ _ hrl]
      exact fin_empty h
    · by_cases hne : bl = []
      · subst hne
        rw [hI0 rfl]
        have hr1 : ∀ x : List V, (H.set r x)[r]? = some x := fun x => by rw [List.getElem?_set]; simp [hrl]
        have hl0 : ∀ x : List V, (H.set r x).length = H.length := fun x => by simp
        simp (dsimp := false) (implicitDefEqProofs := false) only [go_sem, hr, hcnt, hr1, cvV, hl0]
        simp (dsimp := false) (implicitDefEqProofs := false) only [go_sem, getElem?_app (hr1 _)]
        rw [List.set_append_left _ _ (by simpa using hrl), List.set_set, ← List.set_append_left _ _ hrl]
        exact fin_empty h
      obtain ⟨i, j, b, hb, hj, hins, hai⟩ := hpos hk hne
      have hbm := List.mem_of_getElem? hb
      have hi : i < bl.length := (List.getElem?_eq_some_iff.1 hb).1
      obtain ⟨vc, hvc, hdat, hvl, hvt⟩ := (h.blk b hbm).vc
      obtain ⟨kc, hkc, hstr, hkl, hkt⟩ := (h.blk b hbm).kc
      have hbc := bc_get htk hb
      have hfew := h.good.few b hbm
      simp (dsimp := false) (implicitDefEqProofs := false) only [go_sem, hr, hcnt]
      generalize hH1 : H.set r [.osl B 0 bl.length 2 cap, .sc (.int .i64 ((ents bl).length + 1))] = H1
      have hl1 : H1.length = H.length := by rw [← hH1]; simp
      have hr1 : H1[r]? = some [.osl B 0 bl.length 2 cap, .sc (.int .i64 ((ents bl).length + 1))] := by rw [← hH1, List.getElem?_set]; simp [hrl]
      have hB1 : H1[B]? = some bc := by rw [← hH1, List.getElem?_set_ne (h.r_B hB hosl)]; exact hB
      have hk1 : H1[b.ko]? = some kc := by rw [← hH1, List.getElem?_set_ne (h.r_ko hbm)]; exact hkc
      have hv1 : H1[b.vo]? = some vc := by rw [← hH1, List.getElem?_set_ne (h.r_vo hbm)]; exact hvc
      have hkp1 : ∀ o, o ≠ r → H1[o]? = H[o]? := fun o ho => by rw [← hH1, List.getElem?_set_ne fun e => ho e.symm]
      simp (dsimp := false) (implicitDefEqProofs := false) only [go_sem, hr1]
      refine ifG_dec (fun hd => ?last) (fun hd => ?miss)
      case' last =>
        obtain ⟨_, hi1, hj1⟩ : ai = bl.length ∧ i + 1 = bl.length ∧ j = b.es.length := by
          rcases hai with ⟨h1, _, h2⟩ | h1
          · omega
          · exact h1
        have hw : IntKind.i64.wrap ((bl.length : Int) - 1) = (i : Int) := by rw [IntWalk.i64_in _ (by omega)]; omega
        simp (dsimp := false) (implicitDefEqProofs := false) only [go_sem, hd]
        rw [decide_eq_false (by omega)]
        simp (dsimp := false) (implicitDefEqProofs := false) only [go_sem, hd, hw, hr1, hB1, hbc.1, ← hj1]
        refine ⟨by omega, by omega, ?_⟩
        clear hd hw hai
      case' miss =>
        obtain ⟨h1, h2, _⟩ : i = ai ∧ j = aj ∧ i < bl.length := by
          rcases hai with h1 | ⟨h1, _⟩
          · exact ⟨h1.1.symm, h1.2.1.symm, h1.2.2⟩
          · omega
        subst h1
        subst h2
        simp (dsimp := false) (implicitDefEqProofs := false) only [go_sem, hd, hr1, hB1]
        refine ⟨by omega, ?_⟩
        clear hd hai
      all_goals
        refine onDraw_all (by kernel_rfl) ?_
        simp (dsimp := false) (implicitDefEqProofs := false) only [go_sem, hB1, hbc.1]
        refine calleeH_does (InsP.does (insert31 H1 c b.ko b.koff b.es.length b.kcap kc j key hk1 hj (by omega) hkl) (key_cells hstr)) rfl rfl ?_
        rw [keys_add v hkt hj]
        simp (dsimp := false) (implicitDefEqProofs := false) only [go_sem, getElem?_app hB1, hbc.2]
        refine calleeH_does (InsP.does (insert32 (H1 ++ [ksV (addE b.es j key v)]) c b.vo b.voff b.es.length b.vcap vc j v.length (cellsV v) (getElem?_app hv1) hj (by omega) hvl) (val_cells fun x hx => ?_)) rfl rfl ?_
        · exact ((hbd vc (List.mem_of_getElem? hvc) x hx).mono (k' := (H1 ++ [ksV (addE b.es j key v)]).length) (c' := c) (by rw [List.length_append, hl1]; omega) (Nat.le_refl _)).nr
        rw [vals_add key hvt hj]
        have hBl : B < H1.length := (List.getElem?_eq_some_iff.1 hB1).1
        have hsp : ∀ (x : List V) (L : List (List V)), (H1 ++ L).set B x = H1.set B x ++ L := fun x L => List.set_append_left _ _ hBl
        have hg1 : ∀ x : List V, (H1.set B x)[B]? = some x := fun x => by rw [List.getElem?_set]; simp [hBl]
        have hi2 : i * 2 + 2 ≤ bc.length := by omega
        simp (dsimp := false) (implicitDefEqProofs := false) only [go_sem, getElem?_app hB1]
        rw [if_pos (by omega)]
        simp (dsimp := false) (implicitDefEqProofs := false) only [go_sem, hsp, getElem?_app (hg1 _)]
        rw [if_pos (by simp; omega), List.set_append_left _ _ (by simpa using hBl), List.set_set, put2_eq hi2]
        simp (dsimp := false) (implicitDefEqProofs := false) only [go_sem, getElem?_app (hg1 _)]
        rw [hl1]
        generalize hbc2 : List.take (i * 2) bc ++ [V.osl H.length 0 (b.es.length + 1) 1 none, V.osl (H.length + 1) 0 (b.es.length + 1) 1 none] ++ List.drop (i * 2 + 2) bc = bc2
        have hbc20 : bc2[i * 2]? = some (V.osl H.length 0 (b.es.length + 1) 1 none) := by
          rw [← hbc2, List.append_assoc, List.getElem?_append_right (by simp; omega)]
          simp [show min (i * 2) bc.length = i * 2 by omega]
        have hbc21 : bc2[i * 2 + 1]? = some (V.osl (H.length + 1) 0 (b.es.length + 1) 1 none) := by
          rw [← hbc2, List.append_assoc, List.getElem?_append_right (by simp; omega)]
          simp [show min (i * 2) bc.length = i * 2 by omega]
        generalize hHA : H1.set B bc2 = HA
        have hlA : HA.length = H.length := by rw [← hHA]; simp [hl1]
        have hrA : HA[r]? = some [.osl B 0 bl.length 2 cap, .sc (.int .i64 ((ents bl).length + 1))] := by rw [← hHA, List.getElem?_set_ne (h.r_B hB hosl).symm]; exact hr1
        have hBA : HA[B]? = some bc2 := by rw [← hHA]; exact hg1 _
        have hkA : ∀ o, o ≠ r → o ≠ B → HA[o]? = H[o]? := fun o h1 h2 => by rw [← hHA, List.getElem?_set_ne fun e => h2 e.symm]; exact hkp1 o h1
        simp (dsimp := false) (implicitDefEqProofs := false) only [go_sem, getElem?_app hBA, hbc20]
        refine ifG_dec (fun hn => ?_) (fun hn => ?_)
        · have hhalf : IntKind.i64.wrap (Int.tdiv ((b.es.length : Int) + 1) 2) = (((b.es.length + 1) / 2 : Nat) : Int) := by
            rw [Int.tdiv_eq_ediv_of_nonneg (by omega), IntWalk.i64_in _ (by omega)]
            omega
          simp (dsimp := false) (implicitDefEqProofs := false) only [go_sem, hn, hhalf]
          generalize hhf : (b.es.length + 1) / 2 = hf
          have hhf1 : hf ≤ b.es.length + 1 := by omega
          refine onDraw_all (by kernel_rfl) ?_
          simp (dsimp := false) (implicitDefEqProofs := false) only [go_sem, getElem?_app hBA, hbc20, hbc21]
          refine ⟨by omega, by omega, ?_⟩
          refine onDraw_all (by kernel_rfl) ?_
          simp (dsimp := false) (implicitDefEqProofs := false) only [go_sem, getElem?_app hBA, hbc20, hbc21]
          refine ⟨by omega, by omega, ?_⟩
          refine onDraw_all (by kernel_rfl) ?_
          have hidx : ∀ (L : List (List V)) (k : Nat), (HA ++ L)[H.length + k]? = L[k]? := fun L k => by rw [← hlA, List.getElem?_append_right (by omega), Nat.add_sub_cancel_left]
          have hidx0 : ∀ (L : List (List V)), (HA ++ L)[H.length]? = L[0]? := fun L => hidx L 0
          have hBl2 : B < HA.length := (List.getElem?_eq_some_iff.1 hBA).1
          have hsp2 : ∀ (x : List V) (L : List (List V)), (HA ++ L).set B x = HA.set B x ++ L := fun x L => List.set_append_left _ _ hBl2
          simp (dsimp := false) (implicitDefEqProofs := false) only [go_sem, getElem?_app hrA, getElem?_app hBA, hlA, hidx, hidx0, hsp2, Int.toNat_natCast_add_one]
          have hb2l : bc2.length = bc.length := by rw [← hbc2]; exact put2_len hi2
          rw [if_pos (by omega)]
          refine ⟨by omega, ?_⟩
          simp (dsimp := false) (implicitDefEqProofs := false) only [go_sem, hsp2]
          have hlow : ∀ x y : V, List.take (i * 2) bc2 ++ [x, y] ++ List.drop (i * 2 + 2) bc2 = List.take (i * 2) bc ++ [x, y] ++ List.drop (i * 2 + 2) bc := fun x y => by
            rw [← hbc2]
            exact put2_put2 hi2
          rw [hlow]
          generalize hbc3 : List.take (i * 2) bc ++ [V.osl H.length 0 hf 1 (some hf), V.osl (H.length + 1) 0 hf 1 (some hf)] ++ List.drop (i * 2 + 2) bc = bc3
          have hb3l : bc3.length = bc.length := by rw [← hbc3]; exact put2_len hi2
          have hosl3 : ∀ x ∈ bc3, isOsl x := by
            intro x hx
            rw [← hbc3] at hx
            simp only [List.mem_append, List.mem_cons, List.not_mem_nil, or_false] at hx
            rcases hx with (hx | rfl | rfl) | hx
            · exact hosl x (List.mem_of_mem_take hx)
            · trivial
            · trivial
            · exact hosl x (List.mem_of_mem_drop hx)
          generalize hHC : HA.set B bc3 = HC
          have hlC : HC.length = H.length := by rw [← hHC]; simp [hlA]
          have hrC : HC[r]? = some [.osl B 0 bl.length 2 cap, .sc (.int .i64 ((ents bl).length + 1))] := by rw [← hHC, List.getElem?_set_ne (h.r_B hB hosl).symm]; exact hrA
          have hBC : HC[B]? = some bc3 := by rw [← hHC, List.getElem?_set]; simp [hBl2]
          have hkC : ∀ o, o ≠ r → o ≠ B → HC[o]? = H[o]? := fun o h1 h2 => by rw [← hHC, List.getElem?_set_ne fun e => h2 e.symm]; exact hkA o h1 h2
          have hidxC : ∀ (L : List (List V)) (k : Nat), (HC ++ L)[H.length + k]? = L[k]? := fun L k => by rw [← hlC, List.getElem?_append_right (by omega), Nat.add_sub_cancel_left]
          refine onDraw_all (by kernel_rfl) ?_
          simp (dsimp := false) (implicitDefEqProofs := false) only [go_sem, getElem?_app hrC, hidxC]
          rw [IntWalk.i64_in ((i : Int) + 1) (by omega)]
          generalize hE : [ksV (addE b.es j key v), vsV (addE b.es j key v), [V.osl H.length 0 hf 1 (some hf), V.osl (H.length + 1) 0 hf 1 (some hf)], [V.osl H.length hf (b.es.length + 1 - hf) 1 (some (b.es.length + 1 - hf)), V.osl (H.length + 1) hf (b.es.length + 1 - hf) 1 (some (b.es.length + 1 - hf))]] = E
          have hEl : E.length = 4 := by rw [← hE]; rfl
          refine calleeH_does (InsP.does (insert33 (HC ++ E) c B 0 bl.length cap bc3 (i + 1) _ _ (getElem?_app hBC) (by omega) (by omega) (by omega)) ?_) rfl rfl ?_
          · intro x hx
            have hnb : ∀ y ∈ bc3, NR (HC ++ E).length y := by
              intro y hy
              rw [← hbc3] at hy
              simp only [List.mem_append, List.mem_cons, List.not_mem_nil, or_false] at hy
              have ho : ∀ y ∈ bc, NR (HC ++ E).length y := fun y hy => ((hbd bc (List.mem_of_getElem? hB) y hy).mono (k' := (HC ++ E).length) (c' := c) (by rw [List.length_append, hlC]; omega) (Nat.le_refl _)).nr
              rcases hy with (hy | rfl | rfl) | hy
              · exact ho y (List.mem_of_mem_take hy)
              · exact .osl (by rw [List.length_append, hlC]; omega)
              · exact .osl (by rw [List.length_append, hlC]; omega)
              · exact ho y (List.mem_of_mem_drop hy)
            simp only [List.mem_append, List.mem_cons, List.not_mem_nil, or_false] at hx
            rcases hx with (hx | rfl | rfl) | hx
            · exact hnb x (List.mem_of_mem_drop (List.mem_of_mem_take hx))
            · exact .osl (by rw [List.length_append, hlC]; omega)
            · exact .osl (by rw [List.length_append, hlC]; omega)
            · exact hnb x (List.mem_of_mem_drop (List.mem_of_mem_take hx))
          simp (dsimp := false) (implicitDefEqProofs := false) only [go_sem, getElem?_app hrC]
          rw [← hE, hlC]
          exact fin_split (HA := HC) h hb hr hB hl htk hins hsm hlC hkC hbc3.symm (by omega) hfew hhf
        · simp (dsimp := false) (implicitDefEqProofs := false) only [go_sem, hn]
          rw [← hbc2] at hBA
          exact fin_plain h hb hr hB hosl hl htk hins hsm hlA hkA hrA hBA (by omega)
end Go.VS.S
