/- Drop of a map; Copy. -/
import Derived.Test.YtgjnkppjfbcicaaSvXb
namespace Go.VS.S
open Go.Proofs

theorem mapdrop_ok (H : List (List V)) (c m r : Nat) (bl : List Blk) (key : ByteArray) (h : MapAt H m r bl) :
    ACall X 16 [.ref m 0, .sc (.string key)] H c (MapPost H m r bl (delE key (ents bl)) (.sc (.bool (hasE key (ents bl))))) := by
  have htop := h.top
  refine (ACall.of_awp hP hm Try.func16 rfl rfl (by simp [Try.ntmps16]) (by kernel_rfl) fun hbd => ?_)
  simp (dsimp := false) (implicitDefEqProofs := false) only [go_sem]
  refine awpCall_does (none_ok m H r c htop) rfl rfl ?_
  simp (dsimp := false) (implicitDefEqProofs := false) only [go_sem, htop]
  refine onCall_post (drop_ok H c r bl key h.root) rfl rfl ?_
  rintro y H' lv' c' ⟨rfl, bl', hr', he, hf, rfl, rfl⟩ _ _
  simp (dsimp := false) (implicitDefEqProofs := false) only [go_sem]
  exact ⟨rfl, bl', h.next hr' hf, he, hf⟩

theorem RootAt.foot_lt {H : List (List V)} {r : Nat} {bl : List Blk} (h : RootAt H r bl) {o : Nat} (ho : Foot H r bl o) : o < H.length := by
  rcases ho with rfl | ⟨b, hb, rfl⟩ | hB
  · obtain ⟨bs, h1, _⟩ := h.root
    exact (List.getElem?_eq_some_iff.1 h1).1
  · obtain ⟨vc, h1, _⟩ := (h.blk b hb).vc
    exact (List.getElem?_eq_some_iff.1 h1).1
  · obtain ⟨bc, h1, _⟩ := h.isB hB
    exact (List.getElem?_eq_some_iff.1 h1).1
theorem not_foot_new {H L : List (List V)} {r : Nat} {bl : List Blk} (h : RootAt H r bl) {o : Nat} (ho : H.length ≤ o) : ¬ Foot (H ++ L) r bl o := fun hf => by
  have h1 := (Frame.app h L).foot o hf
  obtain ⟨bs, hr, _⟩ := h.root
  have hf' : Foot H r bl o := by
    rcases hf with h1 | h1 | ⟨n, cap, cnt, hn⟩
    · exact .inl h1
    · exact .inr (.inl h1)
    · rw [List.getElem?_append_left (List.getElem?_eq_some_iff.1 hr).1] at hn
      exact .inr (.inr ⟨n, cap, cnt, hn⟩)
  have := h.foot_lt hf'
  omega
theorem RootAt.keep {H H' : List (List V)} {r : Nat} {bl : List Blk} (h : RootAt H r bl) (hk : ∀ o, o < H.length → H'[o]? = H[o]?) : RootAt H' r bl := by
  have hg : ∀ {o : Nat} {x : List V}, H[o]? = some x → H'[o]? = some x := fun {o x} h1 => (hk o (List.getElem?_eq_some_iff.1 h1).1).trans h1
  obtain ⟨bs, h1, h2⟩ := h.root
  refine ⟨⟨bs, hg h1, ?_⟩, fun b hb => ?_, h.good, h.small⟩
  · unfold BsAt at h2 ⊢
    split at h2
    · exact h2
    · obtain ⟨h3, h4, h5, bc, h6, h7⟩ := h2
      exact ⟨h3, h4, h5, bc, hg h6, h7⟩
    · exact h2
  · obtain ⟨⟨kc, k1, k2⟩, ⟨vc, v1, v2⟩⟩ := h.blk b hb
    exact ⟨⟨kc, hg k1, k2⟩, ⟨vc, hg v1, v2⟩⟩

theorem insE_end {k : ByteArray} {v : List Cell} {A : List Ent} (h : ∀ e ∈ A, slt e.1 k = true) : insE k v A = A ++ [(k, v)] := by
  have := insE_app (k := k) (v := v) h []
  rw [List.append_nil] at this
  exact this

def CopyPost (H : List (List V)) (bl : List Blk) (y : V) (H' : List (List V)) (_ : List (Nat × TypeId)) (_ : Nat) : Prop :=
  y = .ref (H.length + 1) 0 ∧ ∃ bl', MapAt H' (H.length + 1) H.length bl' ∧ ents bl' = ents bl ∧ Own H H' H.length bl'

theorem copymap_ok (H : List (List V)) (c m r : Nat) (bl : List Blk) (h : MapAt H m r bl) (hcl : ∀ e ∈ ents bl, e.2.length ≤ 1000000) (hsm : (ents bl).length ≤ 800000) :
    ACall X 22 [.ref m 0] H c (CopyPost H bl) := by
  have htop := h.top
  obtain ⟨bs, hr, hbs⟩ := h.root.root
  have hmany := ents_len h.root.good.ne
  refine (ACall.of_awp hP hm Try.func22 rfl rfl (by simp [Try.ntmps22]) (by kernel_rfl) fun hbd => ?_)
  simp (dsimp := false) (implicitDefEqProofs := false) only [go_sem]
  refine awpCall_does (none_ok m H r c htop) rfl rfl ?_
  simp (dsimp := false) (implicitDefEqProofs := false) only [go_sem]
  refine onCall_post (new_ok H c) rfl rfl ?_
  rintro y H' lv' c' ⟨rfl, rfl, rfl, rfl⟩ _ _
  simp (dsimp := false) (implicitDefEqProofs := false) only [go_sem, getElem?_app htop, getElem?_app hr]
  rcases bsAt_cases hbs with ⟨rfl, rfl⟩ | ⟨B, cap, bc, rfl, hB, hosl, hl, htk⟩
  · simp (dsimp := false) (implicitDefEqProofs := false) only [go_sem]
    refine onLoop_inv (α := Unit) (fun _ => 0) (fun _ => True) (fun _ => ⟨[(3, .ref (H.length + 1) 0), (18, .sc (.int .i64 0)), (19, .sc (.int .i64 0))], H ++ [[.sc (.slice none 0 0), .sc (.int .i64 0)], [.ref H.length 0]], [], c'⟩) () trivial (by simp (dsimp := false) (implicitDefEqProofs := false) only [go_sem]) (.inl (by simp (dsimp := false) (implicitDefEqProofs := false) only [go_sem])) ?_
    rintro _ _ _ back
    simp (dsimp := false) (implicitDefEqProofs := false) only [go_sem]
    exact ⟨rfl, [], new_map H, rfl, own_new H⟩
  simp (dsimp := false) (implicitDefEqProofs := false) only [go_sem]
  have hBl : B < H.length := (List.getElem?_eq_some_iff.1 hB).1
  refine onLoop_inv (α := Nat × List (List V) × Nat × List Blk) (fun a => bl.length - a.1) (fun a => a.1 ≤ bl.length ∧ MapAt a.2.1 (H.length + 1) H.length a.2.2.2 ∧ Own H a.2.1 H.length a.2.2.2 ∧ ents a.2.2.2 = ents (bl.take a.1))
    (fun a => ⟨[(3, .ref (H.length + 1) 0), (17, .osl B 0 bl.length 2 cap), (18, .sc (.int .i64 bl.length)), (19, .sc (.int .i64 a.1))], a.2.1, [], a.2.2.1⟩)
    (0, H ++ [[.sc (.slice none 0 0), .sc (.int .i64 0)], [.ref H.length 0]], c', []) ⟨by omega, new_map H, own_new H, rfl⟩ (by simp (dsimp := false) (implicitDefEqProofs := false) only [go_sem]) (.inl (by simp (dsimp := false) (implicitDefEqProofs := false) only [go_sem])) ?_
  rintro ⟨i, Hh, c2, bl2⟩ ⟨hi, hM, hO, hE⟩ _ back
  dsimp only at hi hM hO hE
  have hBh : Hh[B]? = some bc := (hO.keep B hBl).trans hB
  simp (dsimp := false) (implicitDefEqProofs := false) only [go_sem]
  refine ifG_dec (fun hd => ?_) (fun hd => ?_)
  · have hil : i < bl.length := by omega
    obtain ⟨b, hb⟩ : ∃ b, bl[i]? = some b := ⟨_, List.getElem?_eq_getElem hil⟩
    have hbc := bc_get htk hb
    have hbm := List.mem_of_getElem? hb
    obtain ⟨vc, hvc, hdat, hvl, hvt⟩ := (h.root.blk b hbm).vc
    obtain ⟨kc, hkc, hstr, hkl, hkt⟩ := (h.root.blk b hbm).kc
    have hvcl := (List.getElem?_eq_some_iff.1 hvc).1
    have hkcl := (List.getElem?_eq_some_iff.1 hkc).1
    have hfew := h.root.good.few b hbm
    simp (dsimp := false) (implicitDefEqProofs := false) only [go_sem, hd, hBh]
    rw [if_pos (by omega), take2 hbc.1 hbc.2]
    refine ⟨by omega, ?_⟩
    simp (dsimp := false) (implicitDefEqProofs := false) only [go_sem]
    refine onLoop_inv (α := Nat × List (List V) × Nat × List Blk) (fun a => b.es.length - a.1) (fun a => a.1 ≤ b.es.length ∧ MapAt a.2.1 (H.length + 1) H.length a.2.2.2 ∧ Own H a.2.1 H.length a.2.2.2 ∧ ents a.2.2.2 = ents (bl.take i) ++ b.es.take a.1 ∧
        a.2.1[Hh.length]? = some [.osl b.ko b.koff b.es.length 1 b.kcap, .osl b.vo b.voff b.es.length 1 b.vcap] ∧ ¬ Foot a.2.1 H.length a.2.2.2 Hh.length)
      (fun a => ⟨[(3, .ref (H.length + 1) 0), (5, .ref Hh.length 0), (17, .osl B 0 bl.length 2 cap), (18, .sc (.int .i64 bl.length)), (19, .sc (.int .i64 i)), (24, .osl b.ko b.koff b.es.length 1 b.kcap), (25, .sc (.int .i64 b.es.length)), (26, .sc (.int .i64 a.1))], a.2.1, [], a.2.2.1⟩)
      (0, Hh ++ [[.osl b.ko b.koff b.es.length 1 b.kcap, .osl b.vo b.voff b.es.length 1 b.vcap]], c2, bl2)
      ⟨by omega, hM.app _, Own.app hM.root hO _, by simpa using hE, by simp (dsimp := false) (implicitDefEqProofs := false) only [go_sem], not_foot_new hM.root (Nat.le_refl _)⟩ (by simp (dsimp := false) (implicitDefEqProofs := false) only [go_sem]) (.inl (by simp (dsimp := false) (implicitDefEqProofs := false) only [go_sem])) ?_
    rintro ⟨j, Hi, c3, bl3⟩ ⟨hj, hM3, hO3, hE3, hbox, hnf⟩ _ back2
    dsimp only at hj hM3 hO3 hE3 hbox hnf
    have hkh : Hi[b.ko]? = some kc := (hO3.keep _ hkcl).trans hkc
    have hvh : Hi[b.vo]? = some vc := (hO3.keep _ hvcl).trans hvc
    simp (dsimp := false) (implicitDefEqProofs := false) only [go_sem]
    refine ifG_dec (fun hd2 => ?_) (fun hd2 => ?_)
    · have hjl : j < b.es.length := by omega
      obtain ⟨e, he⟩ : ∃ e, b.es[j]? = some e := ⟨_, List.getElem?_eq_getElem hjl⟩
      have hde : b.es = b.es.take j ++ e :: b.es.drop (j + 1) := by
        obtain ⟨h1, h2⟩ := List.getElem?_eq_some_iff.1 he
        rw [← h2, ← List.drop_eq_getElem_cons h1, List.take_append_drop]
      have hall : ents bl = (ents (bl.take i) ++ b.es.take j) ++ e :: (b.es.drop (j + 1) ++ ents (bl.drop (i + 1))) := by
        rw [(ents_split hb).2]
        conv => lhs; rw [hde]
        simp
      have hem : e ∈ ents bl := by rw [hall]; simp
      have hlt : ∀ x ∈ ents bl3, slt x.1 e.1 = true := by
        have ho := h.root.good.ord
        rw [hall, ord_app] at ho
        rw [hE3]
        exact fun x hx => ho.2.2 x hx e (by simp)
      have hle : (ents bl3).length ≤ 800000 := by
        rw [hall, List.length_append] at hsm
        rw [hE3]
        omega
      have hle1 := hcl e hem
      have htake : b.es.take (j + 1) = b.es.take j ++ [e] := by rw [List.take_add_one, he]; rfl
      simp (dsimp := false) (implicitDefEqProofs := false) only [go_sem, hd2, hkh, key_get hkt he]
      refine ⟨by omega, ?_⟩
      refine onDraw_cut 11 (by kernel_rfl) ?_
      simp (dsimp := false) (implicitDefEqProofs := false) only [go_sem, hM3.top, hbox, hvh, val_get hvt he, cvV]
      refine ⟨by omega, ?_⟩
      refine calleeD_pure (cells_ok e.2.length (cellsV e.2) hle1 (flat_cells e.2)) ?_
      simp (dsimp := false) (implicitDefEqProofs := false) only [go_sem]
      refine onCall_post (ACall.wk (by simp (dsimp := false) (implicitDefEqProofs := false) only [go_sem]; exact Wk.tok) (set_ok Hi (c3 + 1) H.length bl3 e.1 e.2 hM3.root hle)) rfl rfl ?_
      rintro y H4 lv4 c4 ⟨bl4, hr4, he4, hf4, rfl, rfl⟩ _ _
      simp (dsimp := false) (implicitDefEqProofs := false) only [go_sem]
      rw [IntWalk.i64_in _ (by omega)]
      refine back2 _ (j + 1, H4, c3 + 1, bl4) ⟨by dsimp only; omega, hM3.next hr4 hf4, hO3.next hf4, ?_, ?_, ?_⟩ (by dsimp only; omega) (by simp (dsimp := false) (implicitDefEqProofs := false) only [go_sem]) (.inl (by simp (dsimp := false) (implicitDefEqProofs := false) only [go_sem]))
      · dsimp only
        rw [he4, insE_end hlt, hE3, htake, List.append_assoc]
      · dsimp only
        rw [hf4.keep _ (List.getElem?_eq_some_iff.1 hbox).1 hnf]
        exact hbox
      · intro hf
        rcases hf4.foot _ hf with h1 | h1
        · exact hnf h1
        · have := (List.getElem?_eq_some_iff.1 hbox).1
          omega
    · simp (dsimp := false) (implicitDefEqProofs := false) only [go_sem, hd2]
      rw [IntWalk.i64_in _ (by omega)]
      refine back _ (i + 1, Hi, c3, bl3) ⟨by dsimp only; omega, hM3, hO3, ?_⟩ (by dsimp only; omega) (by simp (dsimp := false) (implicitDefEqProofs := false) only [go_sem]) (.inl (by simp (dsimp := false) (implicitDefEqProofs := false) only [go_sem]))
      dsimp only
      have hj' : b.es.take j = b.es := List.take_of_length_le (by omega)
      rw [hE3, hj', List.take_add_one, hb]
      simp [ents]
  · simp (dsimp := false) (implicitDefEqProofs := false) only [go_sem, hd]
    refine ⟨rfl, bl2, hM, ?_, hO⟩
    rw [hE, List.take_of_length_le (by omega)]
end Go.VS.S
