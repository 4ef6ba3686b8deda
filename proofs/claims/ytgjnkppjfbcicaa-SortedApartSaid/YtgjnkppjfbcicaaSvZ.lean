/- SortedApart, walked. -/
import Derived.Test.YtgjnkppjfbcicaaSvY
import Derived.Test.YtgjnkppjfbcicaaSvU
namespace Go.VS.S
open Go.Proofs

theorem RootAt.keepF {H H' : List (List V)} {r : Nat} {bl : List Blk} (h : RootAt H r bl) (hk : ∀ o, Foot H r bl o → H'[o]? = H[o]?) (hko : ∀ b ∈ bl, H'[b.ko]? = H[b.ko]?) : RootAt H' r bl := by
  obtain ⟨bs, h1, h2⟩ := h.root
  refine ⟨⟨bs, by rw [hk r (.inl rfl)]; exact h1, ?_⟩, fun b hb => ?_, h.good, h.small⟩
  · rcases bsAt_cases h2 with ⟨rfl, rfl⟩ | ⟨B, cap, bc, rfl, h5, h6, h7, h8⟩
    · rfl
    · exact ⟨rfl, rfl, rfl, bc, by rw [hk B (.inr (.inr ⟨_, _, _, h1⟩))]; exact h5, h6, h7, h8⟩
  · obtain ⟨⟨kc, k1, k2⟩, ⟨vc, v1, v2⟩⟩ := h.blk b hb
    exact ⟨⟨kc, by rw [hko b hb]; exact k1, k2⟩, ⟨vc, by rw [hk _ (.inr (.inl ⟨b, hb, rfl⟩))]; exact v1, v2⟩⟩
theorem RootAt.ko_not {H : List (List V)} {r r2 : Nat} {bl bl2 : List Blk} (h : RootAt H r bl) (k : RootAt H r2 bl2) {b : Blk} (hb : b ∈ bl) : ¬ Foot H r2 bl2 b.ko := by
  obtain ⟨kc, k1, k2, k3, _⟩ := (h.blk b hb).kc
  have hpos : 0 < kc.length := by
    have := List.length_pos_iff.2 (h.good.ne b hb)
    omega
  have hm : kc[0] ∈ kc := List.getElem_mem hpos
  have hs := k2 _ hm
  rintro (e | ⟨b', hb', e⟩ | hB)
  · obtain ⟨bs, h1, _⟩ := k.root
    rw [e, h1] at k1
    injection k1 with k1
    subst k1
    exact k2 (.sc (.int .i64 (ents bl2).length)) (by simp)
  · obtain ⟨vc, h1, h2, _⟩ := (k.blk b' hb').vc
    rw [e, h1] at k1
    injection k1 with k1
    subst k1
    exact str_dat _ hs (h2 _ hm)
  · obtain ⟨bc, h1, h2⟩ := k.isB hB
    rw [h1] at k1
    injection k1 with k1
    subst k1
    exact str_osl _ hs (h2 _ hm)
theorem MapAt.top_not2 {H : List (List V)} {m r r2 : Nat} {bl bl2 : List Blk} (h : MapAt H m r bl) (k : RootAt H r2 bl2) : ¬ Foot H r2 bl2 m := by
  have ht := h.top
  rintro (rfl | ⟨b, hb, rfl⟩ | hB)
  · obtain ⟨bs, h1, _⟩ := k.root
    rw [h1] at ht
    injection ht with ht
    simp at ht
  · obtain ⟨vc, h1, h2, _⟩ := (k.blk b hb).vc
    rw [h1] at ht
    injection ht with ht
    subst ht
    exact h2 (.ref r 0) (by simp)
  · obtain ⟨bc, h1, h2⟩ := k.isB hB
    rw [h1] at ht
    injection ht with ht
    subst ht
    exact h2 (.ref r 0) (by simp)

/-- Two maps that share nothing which is written. -/
structure Two (H : List (List V)) (m r : Nat) (bl : List Blk) (m2 r2 : Nat) (bl2 : List Blk) : Prop where
  one : MapAt H m r bl
  two : MapAt H m2 r2 bl2
  apart : ∀ o, Foot H r bl o → ¬ Foot H r2 bl2 o
theorem Two.flip {H : List (List V)} {m r m2 r2 : Nat} {bl bl2 : List Blk} (h : Two H m r bl m2 r2 bl2) : Two H m2 r2 bl2 m r bl := ⟨h.two, h.one, fun o h1 h2 => h.apart o h2 h1⟩
theorem Two.next {H H' : List (List V)} {m r m2 r2 : Nat} {bl bl2 bl3 : List Blk} (h : Two H m r bl m2 r2 bl2) (hm2 : MapAt H' m2 r2 bl3) (hf : Frame H r2 bl2 H' bl3) : Two H' m r bl m2 r2 bl3 := by
  have hk : ∀ o, Foot H r bl o → H'[o]? = H[o]? := fun o ho => hf.keep o (h.one.root.foot_lt ho) (h.apart o ho)
  have hr : RootAt H' r bl := h.one.root.keepF hk fun b hb => by
    obtain ⟨kc, k1, _⟩ := (h.one.root.blk b hb).kc
    exact hf.keep _ (List.getElem?_eq_some_iff.1 k1).1 (h.one.root.ko_not h.two.root hb)
  refine ⟨⟨by rw [hf.keep m (List.getElem?_eq_some_iff.1 h.one.top).1 (h.one.top_not2 h.two.root)]; exact h.one.top, hr⟩, hm2, fun o ho ho2 => ?_⟩
  have ho' : Foot H r bl o := by
    rcases ho with h1 | h1 | ⟨n, cap, cnt, hn⟩
    · exact .inl h1
    · exact .inr (.inl h1)
    · rw [hk r (.inl rfl)] at hn
      exact .inr (.inr ⟨n, cap, cnt, hn⟩)
  rcases hf.foot o ho2 with h1 | h1
  · exact h.apart o ho' h1
  · have := h.one.root.foot_lt ho'
    omega
theorem Two.app {H : List (List V)} {m r m2 r2 : Nat} {bl bl2 : List Blk} (h : Two H m r bl m2 r2 bl2) (L : List (List V)) : Two (H ++ L) m r bl m2 r2 bl2 := h.next (h.two.app L) (Frame.app h.two.root L)
theorem EntsOk.del {n : Nat} {es : List Ent} {k : ByteArray} (h : EntsOk n es) : EntsOk n (delE k es) := ⟨Nat.le_trans len_del h.len, fun e he => h.ent e (List.mem_filter.1 he).1⟩
theorem EntsOk.mono {n n' : Nat} {es : List Ent} (h : EntsOk n es) (hn : n ≤ n') : EntsOk n' es := ⟨Nat.le_trans h.len hn, h.ent⟩
theorem del_head {e : Ent} {l : List Ent} (h : Ord (e :: l)) : delE e.1 (e :: l) = l := (del_mid (A := []) h rfl).1
theorem scan_whole {l : List Ent} (h : l.length ≤ 1000000) : scanE ⟨#[]⟩ ⟨#[]⟩ 1000000 l = l := by
  rw [scanE_eq]
  have h1 : wholeE ⟨#[]⟩ ⟨#[]⟩ l = l := by
    unfold wholeE
    rw [fromE_empty]
    have h2 : ∀ l : List Ent, l.takeWhile (goesOn ⟨#[]⟩) = l := fun l => by
      have h3 := takeWhile_app (p := goesOn ⟨#[]⟩) (a := l) (fun x _ => by simp [goesOn]) []
      rw [List.append_nil] at h3
      rw [h3]
      simp
    exact h2 l
  rw [h1, List.take_of_length_le (by have : (1000000 : Int).toNat = 1000000 := rfl; omega)]

theorem apart_ok (acts thens : List Act) (hA : acts.length ≤ 9223372036854775807) (hC : ∀ a ∈ acts, a.row.cells.length ≤ 9223372036854775807) (hA2 : thens.length ≤ 9223372036854775807) (hC2 : ∀ a ∈ thens, a.row.cells.length ≤ 9223372036854775807) :
    Pure X 5 [.data acts.length 5 (actsV acts) none, .data thens.length 5 (actsV thens) none] (fun _ => .sc (.bool true)) [] := by
  refine Pure.of0 fun H c => ACall.of_awp hP hm Try.func5 rfl rfl (by simp [Try.ntmps5]) (by kernel_rfl) fun hbd => ?_
  simp (dsimp := false) (implicitDefEqProofs := false) only [go_sem]
  refine awpCall_pure (light_ok acts hA hC) ?_
  simp (dsimp := false) (implicitDefEqProofs := false) only [go_sem]
  refine onI_bool (fun hl => ?_) (fun hl => ?_)
  · simp (dsimp := false) (implicitDefEqProofs := false) only [go_sem, hl]
    refine awpCall_pure lives_ok ?_
    simp (dsimp := false) (implicitDefEqProofs := false) only [go_sem]
  simp (dsimp := false) (implicitDefEqProofs := false) only [go_sem, hl]
  refine awpCall_pure (light_ok thens hA2 hC2) ?_
  simp (dsimp := false) (implicitDefEqProofs := false) only [go_sem, hl]
  refine onI_bool (fun hl2 => ?_) (fun hl2 => ?_)
  · simp (dsimp := false) (implicitDefEqProofs := false) only [go_sem, hl2]
    refine awpCall_pure lives_ok ?_
    simp (dsimp := false) (implicitDefEqProofs := false) only [go_sem]
  simp (dsimp := false) (implicitDefEqProofs := false) only [go_sem, hl2]
  rw [Bool.not_eq_false', decide_eq_true_eq] at hl hl2
  refine onCall_post (new_ok H c) rfl rfl ?_
  rintro y H' lv' c' ⟨rfl, rfl, rfl, rfl⟩ _ _
  simp (dsimp := false) (implicitDefEqProofs := false) only [go_sem]
  obtain ⟨hlen, hact⟩ := lightActs_le acts 0 (by omega) hl
  obtain ⟨hlen2, hact2⟩ := lightActs_le thens 0 (by omega) hl2
  refine onLoop_inv (α := Nat × List (List V) × Nat × List Blk) (fun a => acts.length - a.1) (fun a => a.1 ≤ acts.length ∧ MapAt a.2.1 (H.length + 1) H.length a.2.2.2 ∧ Own H a.2.1 H.length a.2.2.2 ∧ EntsOk a.1 (ents a.2.2.2))
    (fun a => ⟨[(1, .data thens.length 5 (actsV thens) none), (4, .sc (.bool false)), (5, .ref (H.length + 1) 0), (27, .data acts.length 5 (actsV acts) none), (28, .sc (.int .i64 acts.length)), (29, .sc (.int .i64 a.1))], a.2.1, [], a.2.2.1⟩)
    (0, H ++ [[.sc (.slice none 0 0), .sc (.int .i64 0)], [.ref H.length 0]], c', []) ⟨by omega, new_map H, own_new H, ⟨by simp [ents], fun e h => by simp [ents] at h⟩⟩ (by simp (dsimp := false) (implicitDefEqProofs := false) only [go_sem]) (.inl (by simp (dsimp := false) (implicitDefEqProofs := false) only [go_sem])) ?_
  rintro ⟨i, Hh, c2, bl⟩ ⟨hi, hM, hO, hE⟩ _ back
  dsimp only at hi hM hO hE
  simp (dsimp := false) (implicitDefEqProofs := false) only [go_sem]
  refine ifG_dec (fun hd => ?_) (fun hd => ?_)
  · have hi' : i < acts.length := by omega
    obtain ⟨a, ha⟩ : ∃ a, acts[i]? = some a := ⟨_, List.getElem?_eq_getElem hi'⟩
    have hao := hact a (List.mem_of_getElem? ha)
    have hdr : (actsV acts).drop (i * 5) = a.vs ++ actsV (acts.drop (i + 1)) := flat_drop Act.vs 5 (fun _ => rfl) acts i a ha
    simp (dsimp := false) (implicitDefEqProofs := false) only [go_sem, hd, hdr, Act.vs]
    refine ⟨by omega, ?_⟩
    refine awpCall_pure (row_any a (by have := hao.cells; omega)) ?_
    simp (dsimp := false) (implicitDefEqProofs := false) only [go_sem]
    refine onCall_post (ACall.wk (by simp (dsimp := false) (implicitDefEqProofs := false) only [go_sem]; exact WkL.agg ⟨.refl _, .tok, trivial⟩) (mapset_ok (Hh ++ [a.vs]) (c2 + 1) (H.length + 1) H.length bl a.row.key (rowCells a) (hM.app _) (by have := rowCells_len hao; omega) (by have := hE.len; omega))) rfl rfl ?_
    rintro y H2 lv2 c3 ⟨rfl, bl2, hM2, he2, hF⟩ _ _
    simp (dsimp := false) (implicitDefEqProofs := false) only [go_sem]
    rw [IntWalk.i64_in _ (by omega)]
    exact back _ (i + 1, H2, c3, bl2) ⟨by dsimp only; omega, hM2, (Own.app hM.root hO _).next hF, by dsimp only; rw [he2]; exact hE.act hao⟩ (by dsimp only; omega) (by simp (dsimp := false) (implicitDefEqProofs := false) only [go_sem]) (.inl (by simp (dsimp := false) (implicitDefEqProofs := false) only [go_sem]))
  simp (dsimp := false) (implicitDefEqProofs := false) only [go_sem, hd]
  have hE1 := hE.len
  have hcl : ∀ e ∈ ents bl, e.2.length ≤ 1000000 := fun e he => by have := (hE.ent e he).2; omega
  refine onCall_post (copymap_ok Hh c2 (H.length + 1) H.length bl hM hcl (by omega)) rfl rfl ?_
  rintro y H1 lv1 c3 ⟨rfl, bl1, hM1, he1, hO1⟩ _ _
  simp (dsimp := false) (implicitDefEqProofs := false) only [go_sem]
  have hT1 : Two H1 (H.length + 1) H.length bl (Hh.length + 1) Hh.length bl1 := ⟨⟨(hO1.keep _ (List.getElem?_eq_some_iff.1 hM.top).1).trans hM.top, hM.root.keep hO1.keep⟩, hM1, fun o h1 h2 => by
    have h3 : Foot Hh H.length bl o := by
      rcases h1 with h1 | h1 | ⟨n, cap, cnt, hn⟩
      · exact .inl h1
      · exact .inr (.inl h1)
      · rw [hO1.keep _ (hM.root.foot_lt (.inl rfl))] at hn
        exact .inr (.inr ⟨n, cap, cnt, hn⟩)
    have h4 := hM.root.foot_lt h3
    have h5 := hO1.foot o h2
    omega⟩
  have hb1 : (ents bl).length ≤ 1000000 := by omega
  have hsame := all_same (rowsE (ents bl))
  refine awpCall_does (scan_ok H1 c3 (H.length + 1) H.length bl ⟨#[]⟩ ⟨#[]⟩ 1000000 hT1.one hcl) rfl rfl ?_
  rw [scan_whole hb1]
  simp (dsimp := false) (implicitDefEqProofs := false) only [go_sem]
  refine awpCall_does (scan_ok H1 c3 (Hh.length + 1) Hh.length bl1 ⟨#[]⟩ ⟨#[]⟩ 1000000 hT1.two (by rw [he1]; exact hcl)) rfl rfl ?_
  rw [he1, scan_whole hb1]
  simp (dsimp := false) (implicitDefEqProofs := false) only [go_sem]
  refine awpCall_pure (all_ents (ents bl) (ents bl) hb1 hb1 hcl hcl) ?_
  rw [hsame]
  simp (dsimp := false) (implicitDefEqProofs := false) only [go_sem]
  have hO1' : Own H H1 H.length bl ∧ Own H H1 Hh.length bl1 := by
    refine ⟨⟨Nat.le_trans hO.len hO1.len, fun o ho => (hO1.keep o (Nat.lt_of_lt_of_le ho hO.len)).trans (hO.keep o ho), fun o h1 => ?_⟩, ⟨Nat.le_trans hO.len hO1.len, fun o ho => (hO1.keep o (Nat.lt_of_lt_of_le ho hO.len)).trans (hO.keep o ho), fun o h1 => Nat.le_trans hO.len (hO1.foot o h1)⟩⟩
    rcases h1 with h1 | h1 | ⟨n, cap, cnt, hn⟩
    · exact hO.foot o (.inl h1)
    · exact hO.foot o (.inr (.inl h1))
    · rw [hO1.keep _ (hM.root.foot_lt (.inl rfl))] at hn
      exact hO.foot o (.inr (.inr ⟨n, cap, cnt, hn⟩))
  refine onLoop_inv (α := Nat × List (List V) × Nat × List Blk) (fun a => thens.length - a.1) (fun a => a.1 ≤ thens.length ∧ Two a.2.1 (H.length + 1) H.length bl (Hh.length + 1) Hh.length a.2.2.2 ∧ (Own H a.2.1 H.length bl ∧ Own H a.2.1 Hh.length a.2.2.2) ∧ EntsOk (acts.length + a.1) (ents a.2.2.2))
    (fun a => ⟨[(4, .sc (.bool false)), (5, .ref (H.length + 1) 0), (8, .ref (Hh.length + 1) 0), (9, .data (ents bl).length 2 (rowsV (rowsE (ents bl))) none), (51, .data thens.length 5 (actsV thens) none), (52, .sc (.int .i64 thens.length)), (53, .sc (.int .i64 a.1))], a.2.1, [], a.2.2.1⟩)
    (0, H1, c3, bl1) ⟨by omega, hT1, hO1', by dsimp only; rw [he1]; exact hE.mono (by omega)⟩ (by simp (dsimp := false) (implicitDefEqProofs := false) only [go_sem]) (.inl (by simp (dsimp := false) (implicitDefEqProofs := false) only [go_sem])) ?_
  rintro ⟨k, H2, c4, bl2⟩ ⟨hk, hT2, hO2, hE2⟩ _ back
  dsimp only at hk hT2 hO2 hE2
  have hE21 := hE2.len
  simp (dsimp := false) (implicitDefEqProofs := false) only [go_sem]
  refine ifG_dec (fun hd2 => ?_) (fun hd2 => ?_)
  · have hk' : k < thens.length := by omega
    obtain ⟨a, ha⟩ : ∃ a, thens[k]? = some a := ⟨_, List.getElem?_eq_getElem hk'⟩
    have hao := hact2 a (List.mem_of_getElem? ha)
    have hdr : (actsV thens).drop (k * 5) = a.vs ++ actsV (thens.drop (k + 1)) := flat_drop Act.vs 5 (fun _ => rfl) thens k a ha
    have hstep : ∀ {L H' : List (List V)} {bl' : List Blk}, MapAt H' (Hh.length + 1) Hh.length bl' → Frame (H2 ++ L) Hh.length bl2 H' bl' → Two H' (H.length + 1) H.length bl (Hh.length + 1) Hh.length bl' ∧ (Own H H' H.length bl ∧ Own H H' Hh.length bl') := fun {L H' bl'} hm' hf' => by
      have h1 := (hT2.app L).next hm' hf'
      have h2 := (Own.app hT2.two.root hO2.2 L).next hf'
      refine ⟨h1, ⟨h2.len, h2.keep, fun o ho => hO2.1.foot o ?_⟩, h2⟩
      rcases ho with h3 | h3 | ⟨n, cap, cnt, hn⟩
      · exact .inl h3
      · exact .inr (.inl h3)
      · rw [hf'.keep _ (by have := hT2.one.root.foot_lt (.inl rfl); simp; omega) ((hT2.app L).apart _ (.inl rfl)), List.getElem?_append_left (hT2.one.root.foot_lt (.inl rfl))] at hn
        exact .inr (.inr ⟨n, cap, cnt, hn⟩)
    simp (dsimp := false) (implicitDefEqProofs := false) only [go_sem, hd2, hdr, Act.vs]
    refine ⟨by omega, ?_⟩
    refine ifG_dec (fun hkd => ?_) (fun hkd => ?_)
    · simp (dsimp := false) (implicitDefEqProofs := false) only [go_sem, hkd]
      refine onCall_post (mapdrop_ok _ c4 (Hh.length + 1) Hh.length bl2 a.row.key (hT2.two.app _)) rfl rfl ?_
      rintro y H3 lv3 c5 ⟨rfl, bl3, hM3, he3, hF⟩ _ _
      simp (dsimp := false) (implicitDefEqProofs := false) only [go_sem]
      rw [IntWalk.i64_in _ (by omega)]
      obtain ⟨q1, q2⟩ := hstep hM3 hF
      exact back _ (k + 1, H3, c5, bl3) ⟨by dsimp only; omega, q1, q2, by dsimp only; rw [he3]; exact hE2.del.mono (by omega)⟩ (by dsimp only; omega) (by simp (dsimp := false) (implicitDefEqProofs := false) only [go_sem]) (.inl (by simp (dsimp := false) (implicitDefEqProofs := false) only [go_sem]))
    · simp (dsimp := false) (implicitDefEqProofs := false) only [go_sem, hkd]
      refine awpCall_pure (row_any a (by have := hao.cells; omega)) ?_
      simp (dsimp := false) (implicitDefEqProofs := false) only [go_sem]
      refine onCall_post (ACall.wk (by simp (dsimp := false) (implicitDefEqProofs := false) only [go_sem]; exact WkL.agg ⟨.refl _, .tok, trivial⟩) (mapset_ok (H2 ++ [a.vs]) (c4 + 1) (Hh.length + 1) Hh.length bl2 a.row.key (rowCells a) (hT2.two.app _) (by have := rowCells_len hao; omega) (by omega))) rfl rfl ?_
      rintro y H3 lv3 c5 ⟨rfl, bl3, hM3, he3, hF⟩ _ _
      simp (dsimp := false) (implicitDefEqProofs := false) only [go_sem]
      rw [IntWalk.i64_in _ (by omega)]
      obtain ⟨q1, q2⟩ := hstep hM3 hF
      exact back _ (k + 1, H3, c5, bl3) ⟨by dsimp only; omega, q1, q2, by dsimp only; rw [he3]; exact (hE2.act hao).mono (by omega)⟩ (by dsimp only; omega) (by simp (dsimp := false) (implicitDefEqProofs := false) only [go_sem]) (.inl (by simp (dsimp := false) (implicitDefEqProofs := false) only [go_sem]))
  simp (dsimp := false) (implicitDefEqProofs := false) only [go_sem, hd2]
  have hcl2 : ∀ e ∈ ents bl2, e.2.length ≤ 1000000 := fun e he => by have := (hE2.ent e he).2; omega
  have hb2 : (ents bl2).length ≤ 1000000 := by omega
  have hsame2 := all_same (rowsE (ents bl2))
  refine awpCall_does (scan_ok H2 c4 (H.length + 1) H.length bl ⟨#[]⟩ ⟨#[]⟩ 1000000 hT2.one hcl) rfl rfl ?_
  rw [scan_whole hb1]
  simp (dsimp := false) (implicitDefEqProofs := false) only [go_sem]
  refine awpCall_pure (all_ents (ents bl) (ents bl) hb1 hb1 hcl hcl) ?_
  rw [hsame]
  simp (dsimp := false) (implicitDefEqProofs := false) only [go_sem]
  refine awpCall_does (scan_ok H2 c4 (Hh.length + 1) Hh.length bl2 ⟨#[]⟩ ⟨#[]⟩ 1000000 hT2.two hcl2) rfl rfl ?_
  rw [scan_whole hb2]
  simp (dsimp := false) (implicitDefEqProofs := false) only [go_sem]
  refine onLoop_inv (α := Nat × List (List V) × Nat × List Blk) (fun a => (ents bl).length - a.1) (fun a => a.1 ≤ (ents bl).length ∧ Two a.2.1 (H.length + 1) H.length a.2.2.2 (Hh.length + 1) Hh.length bl2 ∧ Own H a.2.1 H.length a.2.2.2 ∧ ents a.2.2.2 = (ents bl).drop a.1)
    (fun a => ⟨[(5, .ref (H.length + 1) 0), (8, .ref (Hh.length + 1) 0), (12, .data (ents bl2).length 2 (rowsV (rowsE (ents bl2))) none), (77, .data (ents bl).length 2 (rowsV (rowsE (ents bl))) none), (78, .sc (.int .i64 (ents bl).length)), (79, .sc (.int .i64 a.1))], a.2.1, [], a.2.2.1⟩)
    (0, H2, c4, bl) ⟨by omega, hT2, hO2.1, rfl⟩ (by simp (dsimp := false) (implicitDefEqProofs := false) only [go_sem]) (.inl (by simp (dsimp := false) (implicitDefEqProofs := false) only [go_sem])) ?_
  rintro ⟨k, H5, c5, bq⟩ ⟨hk5, hT5, hO5, hE5⟩ _ back
  dsimp only at hk5 hT5 hO5 hE5
  simp (dsimp := false) (implicitDefEqProofs := false) only [go_sem]
  refine ifG_dec (fun hd3 => ?_) (fun hd3 => ?_)
  · have hk' : k < (ents bl).length := by omega
    obtain ⟨e, he⟩ : ∃ e, (ents bl)[k]? = some e := ⟨_, List.getElem?_eq_getElem hk'⟩
    have hdr : (rowsV (rowsE (ents bl))).drop (k * 2) = (rowOf e).vs ++ rowsV ((rowsE (ents bl)).drop (k + 1)) := flat_drop Row.vs 2 (fun _ => rfl) (rowsE (ents bl)) k (rowOf e) (by simp [rowsE, he])
    have hde : ents bq = e :: (ents bl).drop (k + 1) := by
      rw [hE5, List.drop_eq_getElem_cons hk']
      obtain ⟨_, h2⟩ := List.getElem?_eq_some_iff.1 he
      rw [h2]
    have hdel : delE e.1 (ents bq) = (ents bl).drop (k + 1) := by
      have ho := hT5.one.root.good.ord
      rw [hde] at ho ⊢
      exact del_head ho
    simp (dsimp := false) (implicitDefEqProofs := false) only [go_sem, hd3, hdr, Row.vs, rowOf]
    refine ⟨by omega, ?_⟩
    refine onCall_post (mapdrop_ok _ c5 (H.length + 1) H.length bq e.1 (hT5.one.app _)) rfl rfl ?_
    rintro y H6 lv6 c6 ⟨rfl, bq2, hM6, he6, hF⟩ _ _
    simp (dsimp := false) (implicitDefEqProofs := false) only [go_sem]
    rw [IntWalk.i64_in _ (by omega)]
    exact back _ (k + 1, H6, c6, bq2) ⟨by dsimp only; omega, ((hT5.app _).flip.next hM6 hF).flip, (Own.app hT5.one.root hO5 _).next hF, by dsimp only; rw [he6, hdel]⟩ (by dsimp only; omega) (by simp (dsimp := false) (implicitDefEqProofs := false) only [go_sem]) (.inl (by simp (dsimp := false) (implicitDefEqProofs := false) only [go_sem]))
  simp (dsimp := false) (implicitDefEqProofs := false) only [go_sem, hd3]
  have hz : ents bq = [] := by rw [hE5]; exact List.drop_eq_nil_of_le (by omega)
  refine awpCall_does (len_ok H5 c5 (H.length + 1) H.length bq hT5.one) rfl rfl ?_
  have hz1 : decide (((ents bq).length : Int) = 0) = true := by rw [hz]; rfl
  simp (dsimp := false) (implicitDefEqProofs := false) only [go_sem, hz1]
  refine awpCall_does (len_ok H5 c5 (Hh.length + 1) Hh.length bl2 hT5.two) rfl rfl ?_
  simp (dsimp := false) (implicitDefEqProofs := false) only [go_sem, hz1]
  refine awpCall_does (scan_ok H5 c5 (Hh.length + 1) Hh.length bl2 ⟨#[]⟩ ⟨#[]⟩ 1000000 hT5.two hcl2) rfl rfl ?_
  rw [scan_whole hb2]
  simp (dsimp := false) (implicitDefEqProofs := false) only [go_sem, hz1]
  refine awpCall_pure (all_ents (ents bl2) (ents bl2) hb2 hb2 hcl2 hcl2) ?_
  rw [hsame2]
  simp (dsimp := false) (implicitDefEqProofs := false) only [go_sem, hz1]
  refine awpCall_pure lives_ok ?_
  simp (dsimp := false) (implicitDefEqProofs := false) only [go_sem, hz1]
  exact hO5.take
end Go.VS.S
