/- A map in memory: its blocks; where a key stands. -/
import Derived.Test.YtgjnkppjfbcicaaSvH
import Derived.Test.YtgjnkppjfbcicaaSvI
namespace Go.VS.S
open Go.Proofs

abbrev Ent := ByteArray × List Cell
structure Blk where
  ko : Nat
  koff : Nat
  kcap : Option Nat
  vo : Nat
  voff : Nat
  vcap : Option Nat
  es : List Ent

def cvV (l : List Cell) : V := .data l.length 8 (cellsV l) none
def ksV (es : List Ent) : List V := es.map fun e => .sc (.string e.1)
def vsV (es : List Ent) : List V := es.map fun e => cvV e.2
def Blk.cs (b : Blk) : List V := [.osl b.ko b.koff b.es.length 1 b.kcap, .osl b.vo b.voff b.es.length 1 b.vcap]
def blV (bl : List Blk) : List V := bl.flatMap Blk.cs

def isStr : V → Prop
  | .sc (.string _) => True
  | _ => False
def isDat : V → Prop
  | .data _ _ _ _ => True
  | _ => False
def isOsl : V → Prop
  | .osl _ _ _ _ _ => True
  | _ => False

structure BlkAt (H : List (List V)) (b : Blk) : Prop where
  kc : ∃ kc, H[b.ko]? = some kc ∧ (∀ x ∈ kc, isStr x) ∧ b.koff + b.es.length ≤ kc.length ∧ (kc.drop b.koff).take b.es.length = ksV b.es
  vc : ∃ vc, H[b.vo]? = some vc ∧ (∀ x ∈ vc, isDat x) ∧ b.voff + b.es.length ≤ vc.length ∧ (vc.drop b.voff).take b.es.length = vsV b.es

/-- The list of blocks, as it stands in the object r. -/
def BsAt (H : List (List V)) (bl : List Blk) : V → Prop
  | .sc (.slice none 0 0) => bl = []
  | .osl B off n sz _ => off = 0 ∧ n = bl.length ∧ sz = 2 ∧ ∃ bc, H[B]? = some bc ∧ (∀ x ∈ bc, isOsl x) ∧ bl.length * 2 ≤ bc.length ∧ bc.take (bl.length * 2) = blV bl
  | _ => False

theorem EndH.app {H : List (List V)} {c : Nat} {r : V} {L : List (List V)} {lv : List (Nat × TypeId)} {c' : Nat} (hr : Bd H.length c r) : EndH H c r H [] r (H ++ L) lv c' :=
  ⟨rfl, by simp, [], rfl, fun i τ e h => by simp at h, List.nodup_nil, .keep hr, fun o ho => .inl ⟨List.getElem?_append_left ho, rfl⟩⟩

theorem take_get {α : Type} {l m : List α} {off n j : Nat} (h : (l.drop off).take n = m) (hj : j < n) : l[off + j]? = m[j]? := by
  rw [← h, List.getElem?_take, if_pos hj, List.getElem?_drop]
theorem getElem?_app {H L : List (List V)} {o : Nat} {cs : List V} (h : H[o]? = some cs) : (H ++ L)[o]? = some cs := by
  rw [List.getElem?_append_left (List.getElem?_eq_some_iff.1 h).1]; exact h
theorem BlkAt.app {H L : List (List V)} {b : Blk} (h : BlkAt H b) : BlkAt (H ++ L) b := by
  obtain ⟨⟨kc, h1, h2⟩, ⟨vc, h3, h4⟩⟩ := h
  exact ⟨⟨kc, getElem?_app h1, h2⟩, ⟨vc, getElem?_app h3, h4⟩⟩
theorem BsAt.app {H L : List (List V)} {bl : List Blk} {bs : V} (h : BsAt H bl bs) : BsAt (H ++ L) bl bs := by
  unfold BsAt at h ⊢
  split at h
  · exact h
  · obtain ⟨h1, h2, h3, bc, h4, h5⟩ := h
    exact ⟨h1, h2, h3, bc, getElem?_app h4, h5⟩
  · exact h

def lastKey (b : Blk) : ByteArray := (b.es.getLast?.map (·.1)).getD ByteArray.empty
def atI (bl : List Blk) (key : ByteArray) : Nat := bl.findIdx fun b => !slt (lastKey b) key
def atJ (b : Blk) (key : ByteArray) : Nat := b.es.findIdx fun e => !slt e.1 key
def atOf (bl : List Blk) (key : ByteArray) : Nat × Nat × Bool :=
  match bl[atI bl key]? with
  | some b => (atI bl key, atJ b key, (b.es[atJ b key]?).any fun e => decide (e.1 = key))
  | none => (atI bl key, 0, false)

/-- What search needs of the order: whoever is not before the key is followed by such alone. -/
def Mono {α : Type} (l : List α) (p : α → Bool) : Prop := l.Pairwise fun a b => p a = true → p b = true
theorem Mono.find {α : Type} {l : List α} {p : α → Bool} (h : Mono l p) (i : Nat) (x : α) (hx : l[i]? = some x) : p x = decide (l.findIdx p ≤ i) := by
  obtain ⟨hi, rfl⟩ := List.getElem?_eq_some_iff.1 hx
  rcases Nat.lt_or_ge i (l.findIdx p) with hlt | hge
  · rw [decide_eq_false (by omega)]
    simpa using List.not_of_lt_findIdx hlt
  · rw [decide_eq_true hge]
    have hf : l.findIdx p < l.length := by omega
    have h0 : p l[l.findIdx p] = true := List.findIdx_getElem
    rcases Nat.lt_or_eq_of_le hge with hlt | he
    · exact List.pairwise_iff_getElem.1 h _ _ hf hi hlt h0
    · simp only [← he]; exact h0

theorem blV_get {bl : List Blk} {j : Nat} {b : Blk} (h : bl[j]? = some b) : (blV bl)[j * 2]? = some (.osl b.ko b.koff b.es.length 1 b.kcap) ∧ (blV bl)[j * 2 + 1]? = some (.osl b.vo b.voff b.es.length 1 b.vcap) := by
  have h1 := flat_drop Blk.cs 2 (fun _ => rfl) bl j b h
  have h2 : ∀ k, (blV bl)[j * 2 + k]? = (b.cs ++ (bl.drop (j + 1)).flatMap Blk.cs)[k]? := fun k => by rw [← h1, List.getElem?_drop]; rfl
  exact ⟨h2 0, h2 1⟩
theorem bc_get {bl : List Blk} {bc : List V} (h : bc.take (bl.length * 2) = blV bl) {j : Nat} {b : Blk} (hb : bl[j]? = some b) : bc[j * 2]? = some (.osl b.ko b.koff b.es.length 1 b.kcap) ∧ bc[j * 2 + 1]? = some (.osl b.vo b.voff b.es.length 1 b.vcap) := by
  have hj : j < bl.length := (List.getElem?_eq_some_iff.1 hb).1
  obtain ⟨h1, h2⟩ := blV_get hb
  rw [← h, List.getElem?_take, if_pos (by omega)] at h1 h2
  exact ⟨h1, h2⟩
theorem key_get {kc : List V} {es : List Ent} {off : Nat} (h : (kc.drop off).take es.length = ksV es) {j : Nat} {e : Ent} (he : es[j]? = some e) : kc[off + j]? = some (.sc (.string e.1)) := by
  have hj : j < es.length := (List.getElem?_eq_some_iff.1 he).1
  rw [take_get h hj, ksV, List.getElem?_map, he]
  rfl
theorem val_get {kc : List V} {es : List Ent} {off : Nat} (h : (kc.drop off).take es.length = vsV es) {j : Nat} {e : Ent} (he : es[j]? = some e) : kc[off + j]? = some (cvV e.2) := by
  have hj : j < es.length := (List.getElem?_eq_some_iff.1 he).1
  rw [take_get h hj, vsV, List.getElem?_map, he]
  rfl
theorem last_get {b : Blk} (hne : b.es ≠ []) : ∃ e, b.es[b.es.length - 1]? = some e ∧ lastKey b = e.1 := by
  have h1 := List.getLast?_eq_getElem? (l := b.es)
  obtain ⟨e, he⟩ : ∃ e, b.es.getLast? = some e := ⟨b.es.getLast hne, List.getLast?_eq_some_getLast hne⟩
  exact ⟨e, by rw [← h1]; exact he, by simp [lastKey, he]⟩

/-- What at needs. -/
structure AtOk (H : List (List V)) (r : Nat) (bl : List Blk) (key : ByteArray) : Prop where
  root : ∃ bs cnt, H[r]? = some [bs, cnt] ∧ BsAt H bl bs
  blk : ∀ b ∈ bl, BlkAt H b
  ne : ∀ b ∈ bl, b.es ≠ []
  few : ∀ b ∈ bl, b.es.length ≤ 1000000
  many : bl.length ≤ 1000000
  mono : Mono bl fun b => !slt (lastKey b) key
  mono2 : ∀ b ∈ bl, Mono b.es fun e => !slt e.1 key

theorem mem_of_some {α : Type} {l : List α} {i : Nat} {x : α} (h : l[i]? = some x) : x ∈ l := List.mem_of_getElem? h

theorem bsAt_cases {H : List (List V)} {bl : List Blk} {bs : V} (h : BsAt H bl bs) : (bs = .sc (.slice none 0 0) ∧ bl = []) ∨
    ∃ B cap bc, bs = .osl B 0 bl.length 2 cap ∧ H[B]? = some bc ∧ (∀ x ∈ bc, isOsl x) ∧ bl.length * 2 ≤ bc.length ∧ bc.take (bl.length * 2) = blV bl := by
  unfold BsAt at h
  split at h
  · exact .inl ⟨rfl, h⟩
  · obtain ⟨rfl, rfl, rfl, bc, h4, h5⟩ := h
    exact .inr ⟨_, _, bc, rfl, h4, h5⟩
  · exact h.elim

theorem at1_blk (H : List (List V)) (c o1 o2 r B : Nat) (cap : Option Nat) (cnt : V) (bl : List Blk) (bc : List V) (key : ByteArray) (i : Nat) (b : Blk) (h1 : H[o1]? = some [.ref r 0]) (h2 : H[o2]? = some [.sc (.string key)]) (hr : H[r]? = some [.osl B 0 bl.length 2 cap, cnt])
    (hB : H[B]? = some bc) (htk : bc.take (bl.length * 2) = blV bl) (hi : bl[i]? = some b) (hne : b.es ≠ []) (hfew : b.es.length ≤ 1000000) (hb : BlkAt H b) : Does X 35 [.sc (.int .i64 i), .ref o1 0, .ref o2 0] H c (.sc (.bool (!slt (lastKey b) key))) H [] := by
  obtain ⟨e, he, hle⟩ := last_get hne
  obtain ⟨⟨kc, hkc, _, _, hkt⟩, _⟩ := hb
  have hpos : 0 < b.es.length := List.length_pos_iff.2 hne
  rw [hle]
  exact at1_ok H c o1 o2 r B 0 bl.length cap cnt bc b.ko b.koff b.es.length b.kcap key e.1 kc i h1 h2 hr hB (List.getElem?_eq_some_iff.1 hi).1 (by rw [Nat.zero_add]; exact (bc_get htk hi).1) hkc hpos (by omega) (key_get hkt he)

theorem at2_blk (H : List (List V)) (c o1 o2 : Nat) (key : ByteArray) (j : Nat) (b : Blk) (e : Ent) (h1 : H[o1]? = some [.osl b.ko b.koff b.es.length 1 b.kcap]) (h2 : H[o2]? = some [.sc (.string key)]) (hj : b.es[j]? = some e) (hb : BlkAt H b) :
    Does X 36 [.sc (.int .i64 j), .ref o1 0, .ref o2 0] H c (.sc (.bool (!slt e.1 key))) H [] := by
  obtain ⟨⟨kc, hkc, _, _, hkt⟩, _⟩ := hb
  exact at2_ok H c o1 o2 b.ko b.koff b.es.length b.kcap key e.1 kc j h1 h2 hkc (List.getElem?_eq_some_iff.1 hj).1 (key_get hkt hj)

theorem at_ok (H : List (List V)) (c r : Nat) (bl : List Blk) (key : ByteArray) (h : AtOk H r bl key) :
    Does X 28 [.ref r 0, .sc (.string key)] H c (.tup [.sc (.int .i64 (atOf bl key).1), .sc (.int .i64 (atOf bl key).2.1), .sc (.bool (atOf bl key).2.2)]) H [] := by
  obtain ⟨⟨bs, cnt, hr, hbs⟩, hblk, hne, hfew, hmany, hmo, hmo2⟩ := h
  have hrl : r < H.length := (List.getElem?_eq_some_iff.1 hr).1
  have hr' : ∀ L : List (List V), (H ++ L)[r]? = some [bs, cnt] := fun L => getElem?_app hr
  refine Does.of (ACall.of_awp hP hm Try.func28 rfl rfl (by simp [Try.ntmps28]) (by kernel_rfl) fun hb => ?_)
  simp (dsimp := false) (implicitDefEqProofs := false) only [go_sem, hr']
  rcases bsAt_cases hbs with ⟨rfl, rfl⟩ | ⟨B, cap, bc, rfl, hB, _, hlen, htk⟩
  · simp (dsimp := false) (implicitDefEqProofs := false) only [go_sem]
    refine awpCall_does (search_ok 0 (by omega) 35 _ (H ++ [[.ref r 0], [.sc (.string key)]]) c (fun _ => false) 0 (by omega) (fun _ _ => rfl) (fun _ _ h => by omega) ?_ (fun i h => by omega)) rfl rfl ?_
    · intro x hx
      simp at hx
      rcases hx with rfl | rfl <;> simp
    · simp (dsimp := false) (implicitDefEqProofs := false) only [go_sem, hr']
      have h3 : Bd H.length c (.tup [.sc (.int .i64 (0 : Nat)), .sc (.int .i64 (0 : Nat)), .sc (.bool false)]) := .tup (by simp)
      exact EndH.app h3
  · simp (dsimp := false) (implicitDefEqProofs := false) only [go_sem]
    have hI : atI bl key ≤ bl.length := List.findIdx_le_length
    refine awpCall_does (search_ok bl.length (by omega) 35 _ (H ++ [[.ref r 0], [.sc (.string key)]]) c (fun i => decide (atI bl key ≤ i)) (atI bl key) hI (fun x hx => by simp; omega) (fun x hx _ => by simp; omega) ?_ (fun i hi => ?_)) rfl rfl ?_
    · intro x hx
      simp at hx
      rcases hx with rfl | rfl <;> simp
    · obtain ⟨b, hbi⟩ : ∃ b, bl[i]? = some b := ⟨_, List.getElem?_eq_getElem hi⟩
      rw [show decide (atI bl key ≤ i) = _ from (hmo.find i b hbi).symm]
      exact at1_blk (H ++ [[.ref r 0], [.sc (.string key)]]) c H.length (H.length + 1) r B cap cnt bl bc key i b (by simp (dsimp := false) (implicitDefEqProofs := false) only [go_sem]) (by simp (dsimp := false) (implicitDefEqProofs := false) only [go_sem]) (hr' _) (getElem?_app hB) htk hbi (hne b (mem_of_some hbi)) (hfew b (mem_of_some hbi)) (hblk b (mem_of_some hbi)).app
    · simp (dsimp := false) (implicitDefEqProofs := false) only [go_sem, hr']
      refine ifG_dec (fun h => ?_) (fun h => ?_)
      · simp (dsimp := false) (implicitDefEqProofs := false) only [go_sem, h]
        have hn : bl[atI bl key]? = none := List.getElem?_eq_none (by omega)
        have ha : atOf bl key = (atI bl key, 0, false) := by unfold atOf; rw [hn]
        rw [ha, ← h]
        exact EndH.app (.tup (by simp))
      · obtain ⟨b, hbi⟩ : ∃ b, bl[atI bl key]? = some b := ⟨_, List.getElem?_eq_getElem (by omega)⟩
        have hbm := mem_of_some hbi
        simp (dsimp := false) (implicitDefEqProofs := false) only [go_sem, h, hr', getElem?_app hB, (bc_get htk hbi).1]
        refine ⟨⟨by omega, by omega⟩, ?_⟩
        have hJ : atJ b key ≤ b.es.length := List.findIdx_le_length
        refine awpCall_does (search_ok b.es.length (by have := hfew b hbm; omega) 36 _ (H ++ [[.ref r 0], [.sc (.string key)], [.osl b.ko b.koff b.es.length 1 b.kcap]]) c (fun i => decide (atJ b key ≤ i)) (atJ b key) hJ (fun x hx => by simp; omega) (fun x hx _ => by simp; omega) ?_ (fun i hi => ?_)) rfl rfl ?_
        · intro x hx
          simp at hx
          rcases hx with rfl | rfl <;> simp
        · obtain ⟨e, he⟩ : ∃ e, b.es[i]? = some e := ⟨_, List.getElem?_eq_getElem hi⟩
          rw [show decide (atJ b key ≤ i) = _ from ((hmo2 b hbm).find i e he).symm]
          exact at2_blk _ c (H.length + 2) (H.length + 1) key i b e (by simp (dsimp := false) (implicitDefEqProofs := false) only [go_sem]) (by simp (dsimp := false) (implicitDefEqProofs := false) only [go_sem]) he (hblk b hbm).app
        · have hJ2 : atJ b key < b.es.length := by
            obtain ⟨e, he, hle⟩ := last_get (hne b hbm)
            have h1 := (hmo2 b hbm).find _ e he
            have h2 := hmo.find _ b hbi
            simp only [hle] at h2
            rw [h1] at h2
            have h3 : atJ b key ≤ b.es.length - 1 := by
              have := of_decide_eq_true (h2.trans (decide_eq_true (Nat.le_refl _)))
              exact this
            have := List.length_pos_iff.2 (hne b hbm)
            omega
          obtain ⟨e, he⟩ : ∃ e, b.es[atJ b key]? = some e := ⟨_, List.getElem?_eq_getElem hJ2⟩
          have ha : atOf bl key = (atI bl key, atJ b key, decide (e.1 = key)) := by unfold atOf; rw [hbi]; simp only [he, Option.any_some]
          obtain ⟨⟨kc, hkc, _, _, hkt⟩, _⟩ := hblk b hbm
          simp (dsimp := false) (implicitDefEqProofs := false) only [go_sem]
          refine onDraw_all (by kernel_rfl) ?_
          simp (dsimp := false) (implicitDefEqProofs := false) only [go_sem, getElem?_app hkc, key_get hkt he]
          refine ⟨⟨by omega, by omega⟩, ?_⟩
          rw [ha]
          exact EndH.app (.tup (by simp))
end Go.VS.S
