/- New, Len; the chapter's example. -/
import Derived.Test.YtgjnkppjfbcicaaSvP
namespace Go.VS.S
open Go.Proofs

theorem good_nil : Good [] := ⟨fun b h => by simp at h, fun b h => by simp at h, List.Pairwise.nil, List.Pairwise.nil⟩
theorem new_map (H : List (List V)) : MapAt (H ++ [[.sc (.slice none 0 0), .sc (.int .i64 0)], [.ref H.length 0]]) (H.length + 1) H.length [] :=
  ⟨by rw [hp_getk]; rfl, ⟨.sc (.slice none 0 0), by rw [hp_get0]; rfl, rfl⟩, fun b h => by simp at h, good_nil, by simp [ents]⟩

/-- All that has been made for a map lies behind what was there. -/
structure Own (H Hh : List (List V)) (r : Nat) (bl : List Blk) : Prop where
  len : H.length ≤ Hh.length
  keep : ∀ o, o < H.length → Hh[o]? = H[o]?
  foot : ∀ o, Foot Hh r bl o → H.length ≤ o
theorem own_new (H : List (List V)) : Own H (H ++ [[.sc (.slice none 0 0), .sc (.int .i64 0)], [.ref H.length 0]]) H.length [] := by
  refine ⟨by simp, fun o ho => List.getElem?_append_left ho, fun o ho => ?_⟩
  rcases ho with rfl | ⟨b, hb, _⟩ | ⟨n, cap, cnt, h⟩
  · exact Nat.le_refl _
  · simp at hb
  · rw [hp_get0] at h
    simp at h
theorem Own.next {H H1 H2 : List (List V)} {r : Nat} {bl bl2 : List Blk} (h : Own H H1 r bl) (hf : Frame H1 r bl H2 bl2) : Own H H2 r bl2 := by
  refine ⟨Nat.le_trans h.len hf.len, fun o ho => ?_, fun o ho => ?_⟩
  · rw [hf.keep o (Nat.lt_of_lt_of_le ho h.len) (fun k => by have := h.foot o k; omega)]
    exact h.keep o ho
  · rcases hf.foot o ho with k | k
    · exact h.foot o k
    · exact Nat.le_trans h.len k
theorem Own.app {H H1 : List (List V)} {r : Nat} {bl : List Blk} (hr : RootAt H1 r bl) (h : Own H H1 r bl) (L : List (List V)) : Own H (H1 ++ L) r bl := h.next (Frame.app hr L)
theorem Own.take {H Hh : List (List V)} {r : Nat} {bl : List Blk} (h : Own H Hh r bl) : HpTake Hh H := by
  unfold HpTake
  refine List.ext_getElem? fun o => ?_
  rw [List.getElem?_take]
  split
  · rename_i ho; exact h.keep o ho
  · rename_i ho; rw [List.getElem?_eq_none (by omega)]

theorem len_ok (H : List (List V)) (c m r : Nat) (bl : List Blk) (h : MapAt H m r bl) : Does X 21 [.ref m 0] H c (.sc (.int .i64 (ents bl).length)) H [] := by
  obtain ⟨bs, hr, hbs⟩ := h.root.root
  have htop := h.top
  refine Does.of (ACall.of_awp hP hm Try.func21 rfl rfl (by simp [Try.ntmps21]) (by kernel_rfl) fun hb => ?_)
  simp (dsimp := false) (implicitDefEqProofs := false) only [go_sem]
  refine awpCall_does (none_ok m H r c htop) rfl rfl ?_
  simp (dsimp := false) (implicitDefEqProofs := false) only [go_sem, htop, hr]
  exact EndH.same rfl (.sc _)

theorem not_foot {H : List (List V)} {r : Nat} {bl : List Blk} (h : RootAt H r bl) {o : Nat} {s : ByteArray} {xs : List V} (ho : H[o]? = some (.sc (.string s) :: xs)) (hx : xs.length ≠ 1) : ¬ Foot H r bl o := by
  rintro (rfl | ⟨b, hb, rfl⟩ | hB)
  · obtain ⟨bs, h1, _⟩ := h.root
    rw [ho] at h1
    injection h1 with h1
    injection h1 with _ h1
    rw [h1] at hx
    exact hx rfl
  · obtain ⟨vc, h1, h2, _⟩ := (h.blk b hb).vc
    rw [ho] at h1
    injection h1 with h1
    subst h1
    exact h2 (.sc (.string s)) (by simp)
  · obtain ⟨bc, h1, h2⟩ := h.isB hB
    rw [ho] at h1
    injection h1 with h1
    subst h1
    exact h2 (.sc (.string s)) (by simp)

def kb : ByteArray := ⟨#[98]⟩
def ka : ByteArray := ⟨#[97]⟩
def kc' : ByteArray := ⟨#[99]⟩
def exKeys : List ByteArray := [kb, ka, kc']
def exEnts (i : Nat) : List Ent := (exKeys.take i).foldl (fun l k => insE k [] l) []

theorem lives_ok : Pure X 7 [] (fun _ => .sc (.bool true)) [] := by
  refine Pure.of0 fun H c => ACall.of_awp hP hm Try.func7 rfl rfl (by simp) (by kernel_rfl) fun hbd => ?_
  simp (dsimp := false) (implicitDefEqProofs := false) only [go_sem]
  refine onCall_post (new_ok H c) rfl rfl ?_
  rintro y H' lv' c' ⟨rfl, rfl, rfl, rfl⟩ _ _
  simp (dsimp := false) (implicitDefEqProofs := false) only [go_sem]
  refine onLoop_inv (α := Nat × List (List V) × Nat × List Blk) (fun a => 3 - a.1) (fun a => a.1 ≤ 3 ∧ MapAt a.2.1 (H.length + 1) H.length a.2.2.2 ∧ ents a.2.2.2 = exEnts a.1 ∧ Own H a.2.1 H.length a.2.2.2 ∧ a.2.1[H.length + 2]? = some [.sc (.string kb), .sc (.string ka), .sc (.string kc')])
    (fun a => ⟨[(1, .ref (H.length + 1) 0), (6, .osl (H.length + 2) 0 3 1 (some 3)), (7, .sc (.int .i64 3)), (8, .sc (.int .i64 a.1))], a.2.1, [], a.2.2.1⟩)
    (0, H ++ [[.sc (.slice none 0 0), .sc (.int .i64 0)], [.ref H.length 0], [.sc (.string kb), .sc (.string ka), .sc (.string kc')]], c', []) ⟨by omega, ?_, rfl, ?_, by dsimp only; rw [hp_getk]; rfl⟩ (by simp (dsimp := false) (implicitDefEqProofs := false) only [go_sem, kb, ka, kc']) (.inl (by simp (dsimp := false) (implicitDefEqProofs := false) only [go_sem])) ?_
  · have := (new_map H).app [[.sc (.string kb), .sc (.string ka), .sc (.string kc')]]
    rw [List.append_assoc] at this
    exact this
  · have := Own.app (new_map H).root (own_new H) [[.sc (.string kb), .sc (.string ka), .sc (.string kc')]]
    rw [List.append_assoc] at this
    exact this
  rintro ⟨i, Hh, c2, bl⟩ ⟨hi, hM, he, hO, hk⟩ _ back
  dsimp only at hi hM he hO hk
  simp (dsimp := false) (implicitDefEqProofs := false) only [go_sem]
  refine ifG_dec (fun hd => ?_) (fun hd => ?_)
  · have hlen : (ents bl).length ≤ 800000 := by
      rw [he]
      have : i = 0 ∨ i = 1 ∨ i = 2 := by omega
      rcases this with rfl | rfl | rfl <;> decide
    obtain ⟨k, hkk, hkn, hkx⟩ : ∃ k : ByteArray, [V.sc (.string kb), .sc (.string ka), .sc (.string kc')][i]? = some (.sc (.string k)) ∧ k ≠ ⟨#[]⟩ ∧ insE k [] (exEnts i) = exEnts (i + 1) := by
      have : i = 0 ∨ i = 1 ∨ i = 2 := by omega
      rcases this with rfl | rfl | rfl
      · exact ⟨kb, rfl, by decide, rfl⟩
      · exact ⟨ka, rfl, by decide, rfl⟩
      · exact ⟨kc', rfl, by decide, rfl⟩
    simp (dsimp := false) (implicitDefEqProofs := false) only [go_sem, hd, hk, hkk]
    refine ⟨by omega, ?_⟩
    refine onCall_post (ACall.wk (by simp (dsimp := false) (implicitDefEqProofs := false) only [go_sem]; exact WkL.agg ⟨.refl _, .nil 8, trivial⟩) (mapset_ok Hh c2 (H.length + 1) H.length bl k [] hM (by simp) hlen)) rfl rfl ?_
    rintro y H2 lv2 c3 ⟨rfl, bl2, hM2, he2, hF⟩ _ _
    simp (dsimp := false) (implicitDefEqProofs := false) only [go_sem, setRes, hkn]
    rw [IntWalk.i64_in _ (by omega)]
    exact back _ (i + 1, H2, c3, bl2) ⟨by dsimp only; omega, hM2, by rw [he2, setEnts, if_neg hkn, he]; exact hkx, hO.next hF, by dsimp only; rw [hF.keep _ (List.getElem?_eq_some_iff.1 hk).1 (not_foot hM.root hk (by simp))]; exact hk⟩ (by dsimp only; omega) (by simp (dsimp := false) (implicitDefEqProofs := false) only [go_sem]) (.inl (by simp (dsimp := false) (implicitDefEqProofs := false) only [go_sem]))
  · have h3 : i = 3 := by omega
    subst h3
    simp (dsimp := false) (implicitDefEqProofs := false) only [go_sem, hd]
    have hsc := scan_ok Hh c2 (H.length + 1) H.length bl ⟨#[]⟩ ⟨#[99]⟩ 9 hM (by rw [he]; decide)
    rw [he] at hsc
    refine awpCall_does hsc rfl rfl ?_
    have hx : scanE ⟨#[]⟩ ⟨#[99]⟩ 9 (exEnts 3) = [(ka, []), (kb, [])] := rfl
    rw [hx]
    simp (dsimp := false) (implicitDefEqProofs := false) only [go_sem, rowsE, rowsV, rowOf, Row.vs, List.map_cons, List.map_nil, List.flatMap_cons, List.flatMap_nil, ka, kb, eq_self]
    refine awpCall_does (len_ok Hh c2 (H.length + 1) H.length bl hM) rfl rfl ?_
    rw [he]
    simp (dsimp := false) (implicitDefEqProofs := false) only [go_sem, show (exEnts 3).length = 3 from rfl, eq_self]
    exact hO.take
end Go.VS.S
