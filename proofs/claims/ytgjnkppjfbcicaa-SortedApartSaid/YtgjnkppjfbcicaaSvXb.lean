/- drop, walked. -/
import Derived.Test.YtgjnkppjfbcicaaSvX
namespace Go.VS.S
open Go.Proofs

def DropPost (H : List (List V)) (r : Nat) (bl : List Blk) (key : ByteArray) (c : Nat) (y : V) (H' : List (List V)) (lv' : List (Nat × TypeId)) (c' : Nat) : Prop :=
  y = .sc (.bool (hasE key (ents bl))) ∧ SetPost H r bl (delE key (ents bl)) c y H' lv' c'

theorem drop_ok (H : List (List V)) (c r : Nat) (bl : List Blk) (key : ByteArray) (h : RootAt H r bl) :
    ACall X 29 [.ref r 0, .sc (.string key)] H c (DropPost H r bl key c) := by
  have hat := at_ok H c r bl key (h.atOk key)
  have hmany := ents_len h.good.ne
  have hsmall := h.small
  obtain ⟨bs, hr, hbs⟩ := h.root
  have hrl : r < H.length := (List.getElem?_eq_some_iff.1 hr).1
  refine (ACall.of_awp hP hm Try.func29 rfl rfl (by simp [Try.ntmps29]) (by kernel_rfl) fun hbd => ?_)
  simp (dsimp := false) (implicitDefEqProofs := false) only [go_sem]
  refine awpCall_does hat rfl rfl ?_
  simp (dsimp := false) (implicitDefEqProofs := false) only [go_sem]
  have hmiss := at_miss h (key := key)
  have hhit : (atOf bl key).2.2 = true → ∃ b e, bl[(atOf bl key).1]? = some b ∧ b.es[(atOf bl key).2.1]? = some e ∧ e.1 = key := by
    intro hf
    rcases at_cases (h.atOk key) with ⟨hI, ha⟩ | ⟨b, e, hb, he, ha⟩
    · rw [ha] at hf; cases hf
    · rw [ha] at hf ⊢
      exact ⟨b, e, hb, he, of_decide_eq_true hf⟩
  generalize (atOf bl key).1 = i at *
  generalize (atOf bl key).2.1 = j at *
  cases hk : (atOf bl key).2.2 with
  | false =>
    obtain ⟨hd1, hd2⟩ := del_none (hmiss hk)
    simp (dsimp := false) (implicitDefEqProofs := false) only [go_sem]
    refine ⟨by rw [hd2], bl, h, hd1.symm, Frame.refl _ _ _, rfl, rfl⟩
  | true =>
    obtain ⟨b, e, hb, he, hke⟩ := hhit hk
    have hbm := List.mem_of_getElem? hb
    have hj : j < b.es.length := (List.getElem?_eq_some_iff.1 he).1
    have hi : i < bl.length := (List.getElem?_eq_some_iff.1 hb).1
    obtain ⟨hd1, hd2, hd3⟩ := at_hit h hb he hke
    rcases bsAt_cases hbs with ⟨rfl, rfl⟩ | ⟨B, cap, bc, rfl, hB, hosl, hl, htk⟩
    · simp at hb
    obtain ⟨vc, hvc, hdat, hvl, hvt⟩ := (h.blk b hbm).vc
    obtain ⟨kc, hkc, hstr, hkl, hkt⟩ := (h.blk b hbm).kc
    have hbc := bc_get htk hb
    have hfew := h.good.few b hbm
    have hcnt : IntKind.i64.wrap ((ents bl).length - 1) = ((delE key (ents bl)).length : Int) := by rw [IntWalk.i64_in _ (by omega)]; omega
    simp (dsimp := false) (implicitDefEqProofs := false) only [go_sem, hr, hcnt]
    generalize hH1 : H.set r [.osl B 0 bl.length 2 cap, .sc (.int .i64 (delE key (ents bl)).length)] = H1
    have hl1 : H1.length = H.length := by rw [← hH1]; simp
    have hr1 : H1[r]? = some [.osl B 0 bl.length 2 cap, .sc (.int .i64 (delE key (ents bl)).length)] := by rw [← hH1, List.getElem?_set]; simp [hrl]
    have hB1 : H1[B]? = some bc := by rw [← hH1, List.getElem?_set_ne (h.r_B hB hosl)]; exact hB
    have hk1 : H1[b.ko]? = some kc := by rw [← hH1, List.getElem?_set_ne (h.r_ko hbm)]; exact hkc
    have hv1 : H1[b.vo]? = some vc := by rw [← hH1, List.getElem?_set_ne (h.r_vo hbm)]; exact hvc
    have hkp1 : ∀ o, o ≠ r → H1[o]? = H[o]? := fun o ho => by rw [← hH1, List.getElem?_set_ne fun e => ho e.symm]
    have hBl : B < H.length := (List.getElem?_eq_some_iff.1 hB).1
    have hBl1 : B < H1.length := by omega
    have hsp : ∀ (x : List V) (L : List (List V)), (H1 ++ L).set B x = H1.set B x ++ L := fun x L => List.set_append_left _ _ hBl1
    have hg1 : ∀ x : List V, (H1.set B x)[B]? = some x := fun x => by rw [List.getElem?_set]; simp [hBl1]
    have hi2 : i * 2 + 2 ≤ bc.length := by omega
    simp (dsimp := false) (implicitDefEqProofs := false) only [go_sem, hr1, hB1]
    rw [if_pos (by omega), take2 hbc.1 hbc.2]
    refine ⟨by omega, ?_⟩
    simp (dsimp := false) (implicitDefEqProofs := false) only [go_sem]
    refine ifG_dec (fun hone => ?_) (fun hone => ?_)
    · simp (dsimp := false) (implicitDefEqProofs := false) only [go_sem, hone]
      refine onDraw_all (by kernel_rfl) ?_
      have hi1 : IntKind.i64.wrap ((i : Int) + 1) = (i : Int) + 1 := IntWalk.i64_in _ (by omega)
      simp (dsimp := false) (implicitDefEqProofs := false) only [go_sem, getElem?_app hr1, getElem?_app hB1, hi1, Int.toNat_natCast_add_one]
      refine ⟨by omega, by omega, ?_⟩
      rw [if_pos (by omega)]
      simp (dsimp := false) (implicitDefEqProofs := false) only [go_sem]
      by_cases hlast : i + 1 = bl.length
      · rw [show bl.length - (i + 1) = 0 by omega]
        refine appOutD_same (getElem?_app hB1) rfl (by omega) ?_
        simp (dsimp := false) (implicitDefEqProofs := false) only [go_sem, getElem?_app hr1]
        obtain ⟨s1, s2, s3, _⟩ := set_app (L := [[V.osl b.ko b.koff b.es.length 1 b.kcap, V.osl b.vo b.voff b.es.length 1 b.vcap]]) (x := [V.osl B 0 i 2 (some i), V.sc (Value.int IntKind.i64 ↑(delE key (ents bl)).length)]) hrl hl1 hkp1
        refine ⟨by rw [hd2], fin_out h hb he hke hr hB hosl hl htk s1 (by omega) s2 _ s3 ⟨rfl, by simp; omega, rfl, bc, ?_, hosl, by simp; omega, ?_⟩ (fun o n cp e => ?_) _⟩
        · rw [s2 B hBl (h.r_B hB hosl).symm]; exact hB
        · rw [List.drop_eq_nil_of_le (by omega), List.append_nil, List.length_take, Nat.min_eq_left (by omega)]
          exact (blV_part htk (by omega)).1
        · cases e
          exact .inl rfl
      · refine appOutD_moved (getElem?_app hB1) rfl (by omega) (by omega) (by omega) (by omega) ?_
        simp (dsimp := false) (implicitDefEqProofs := false) only [go_sem, getElem?_app hr1]
        rw [(blV_part htk (i := i) (by omega)).1, (blV_part htk (i := i + 1) (by omega)).2, hl1, ← blV_app]
        obtain ⟨s1, s2, s3, s4⟩ := set_app (L := [[V.osl b.ko b.koff b.es.length 1 b.kcap, V.osl b.vo b.voff b.es.length 1 b.vcap], blV (bl.take i ++ bl.drop (i + 1))]) (x := [V.osl (H.length + 1) 0 (i + (bl.length - (i + 1))) 2 none, V.sc (Value.int IntKind.i64 ↑(delE key (ents bl)).length)]) hrl hl1 hkp1
        refine ⟨by rw [hd2], fin_out h hb he hke hr hB hosl hl htk s1 (by omega) s2 _ s3 ⟨rfl, by simp; omega, rfl, _, s4 1, osl_blV _, by rw [blV_len]; exact Nat.le_refl _, ?_⟩ (fun o n cp e => ?_) _⟩
        · rw [List.take_of_length_le (by rw [blV_len]; exact Nat.le_refl _)]
        · cases e
          exact .inr (by omega)
    · simp (dsimp := false) (implicitDefEqProofs := false) only [go_sem, hone]
      refine onDraw_all (by kernel_rfl) ?_
      have hj1 : IntKind.i64.wrap ((j : Int) + 1) = (j : Int) + 1 := IntWalk.i64_in _ (by omega)
      simp (dsimp := false) (implicitDefEqProofs := false) only [go_sem, getElem?_app hr1, getElem?_app hB1, hj1, Int.toNat_natCast_add_one]
      refine ⟨by omega, by omega, ?_⟩
      simp (dsimp := false) (implicitDefEqProofs := false) only [go_sem, getElem?_app hk1]
      rw [if_pos (by omega)]
      simp (dsimp := false) (implicitDefEqProofs := false) only [go_sem]
      by_cases hlast : j + 1 = b.es.length
      · rw [show b.es.length - (j + 1) = 0 by omega]
        refine appOutD_same (getElem?_app hk1) rfl (by omega) ?_
        simp (dsimp := false) (implicitDefEqProofs := false) only [go_sem, getElem?_app hv1, hj1, Int.toNat_natCast_add_one]
        refine ⟨by omega, by omega, ?_⟩
        rw [if_pos (by omega)]
        simp (dsimp := false) (implicitDefEqProofs := false) only [go_sem]
        rw [show b.es.length - (j + 1) = 0 by omega]
        refine appOutD_same (getElem?_app hv1) rfl (by omega) ?_
        simp (dsimp := false) (implicitDefEqProofs := false) only [go_sem, getElem?_app hB1]
        rw [if_pos (by omega)]
        simp (dsimp := false) (implicitDefEqProofs := false) only [go_sem, hsp, getElem?_app (hg1 _)]
        refine ⟨by omega, by rw [hd2], ?_⟩
        obtain ⟨s1, s2, s3, s4, _⟩ := app_set (L := [[V.osl b.ko b.koff b.es.length 1 b.kcap, V.osl b.vo b.voff b.es.length 1 b.vcap]]) (x := List.take (i * 2) bc ++ [V.osl b.ko b.koff j 1 (some j), V.osl b.vo b.voff j 1 (some j)] ++ List.drop (i * 2 + 2) bc) hBl (h.r_B hB hosl) hl1 hkp1 hr1
        have hrl' : (rmE b.es j).length = j := by rw [rmE_len hj]; omega
        have hcs : (⟨b.ko, b.koff, some j, b.vo, b.voff, some j, rmE b.es j⟩ : Blk).cs = [V.osl b.ko b.koff j 1 (some j), V.osl b.vo b.voff j 1 (some j)] := by simp only [Blk.cs, hrl']
        have e1 := keys_rm hkt hj
        have e2 := vals_rm hvt hj
        rw [show b.es.length - (j + 1) = 0 by omega, List.take_zero, List.append_nil] at e1 e2
        refine fin_rm h hb he hke hr hB hosl hl htk s1 (by omega) s2 s3 ⟨b.ko, b.koff, some j, b.vo, b.voff, some j, rmE b.es j⟩ rfl (by rw [hcs]; exact s4) ⟨⟨kc, ?_, hstr, by simp only [hrl']; omega, by simp only [hrl']; exact e1⟩, ⟨vc, ?_, hdat, by simp only [hrl']; omega, by simp only [hrl']; exact e2⟩⟩ (.inr ⟨rfl, rfl⟩) _
        · rw [s2 _ (List.getElem?_eq_some_iff.1 hkc).1 (h.r_ko hbm).symm (h.ko_B hbm hB hosl)]; exact hkc
        · rw [s2 _ (List.getElem?_eq_some_iff.1 hvc).1 (h.r_vo hbm).symm (h.vo_B hbm hB hosl)]; exact hvc
      · refine appOutD_moved (getElem?_app hk1) rfl (by omega) (by omega) (by omega) (by omega) ?_
        simp (dsimp := false) (implicitDefEqProofs := false) only [go_sem, getElem?_app hv1, hj1, Int.toNat_natCast_add_one]
        refine ⟨by omega, by omega, ?_⟩
        rw [if_pos (by omega)]
        simp (dsimp := false) (implicitDefEqProofs := false) only [go_sem]
        refine appOutD_moved (getElem?_app hv1) rfl (by omega) (by omega) (by omega) (by omega) ?_
        simp (dsimp := false) (implicitDefEqProofs := false) only [go_sem, getElem?_app hB1]
        rw [if_pos (by omega)]
        simp (dsimp := false) (implicitDefEqProofs := false) only [go_sem, hsp, getElem?_app (hg1 _)]
        rw [keys_rm hkt hj, vals_rm hvt hj, show j + (b.es.length - (j + 1)) = b.es.length - 1 by omega, hl1]
        refine ⟨by omega, by rw [hd2], ?_⟩
        obtain ⟨s1, s2, s3, s4, s5⟩ := app_set (L := [[V.osl b.ko b.koff b.es.length 1 b.kcap, V.osl b.vo b.voff b.es.length 1 b.vcap], ksV (rmE b.es j), vsV (rmE b.es j)]) (x := List.take (i * 2) bc ++ [V.osl (H.length + 1) 0 (b.es.length - 1) 1 none, V.osl (H.length + 2) 0 (b.es.length - 1) 1 none] ++ List.drop (i * 2 + 2) bc) hBl (h.r_B hB hosl) hl1 hkp1 hr1
        have hcs : (⟨H.length + 1, 0, none, H.length + 2, 0, none, rmE b.es j⟩ : Blk).cs = [V.osl (H.length + 1) 0 (b.es.length - 1) 1 none, V.osl (H.length + 2) 0 (b.es.length - 1) 1 none] := by simp only [Blk.cs, rmE_len hj]
        refine fin_rm h hb he hke hr hB hosl hl htk s1 (by omega) s2 s3 ⟨H.length + 1, 0, none, H.length + 2, 0, none, rmE b.es j⟩ rfl (by rw [hcs]; exact s4) ⟨⟨_, s5 1, ksV_str _, by simp [ksV_len], ?_⟩, ⟨_, s5 2, vsV_dat _, by simp [vsV_len], ?_⟩⟩ (.inl (by simp)) _
        · rw [List.drop_zero, List.take_of_length_le (by simp [ksV_len])]
        · rw [List.drop_zero, List.take_of_length_le (by simp [vsV_len])]
end Go.VS.S
