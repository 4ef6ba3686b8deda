/- drop: what it leaves. -/
import Derived.Test.YtgjnkppjfbcicaaSvR
namespace Go.VS.S
open Go.Proofs

def hasE (k : ByteArray) (l : List Ent) : Bool := l.any fun e => decide (e.1 = k)
theorem del_none {k : ByteArray} {l : List Ent} (h : ∀ e ∈ l, e.1 ≠ k) : delE k l = l ∧ hasE k l = false := by
  refine ⟨List.filter_eq_self.2 fun e he => by simp [h e he], ?_⟩
  unfold hasE
  rw [List.any_eq_false]
  intro e he
  simp [h e he]
theorem slt_ne {a b : ByteArray} (h : slt a b = true) : a ≠ b := fun e => by rw [e, slt_irrefl] at h; cases h
theorem del_mid {k : ByteArray} {A B : List Ent} {e : Ent} (ho : Ord (A ++ e :: B)) (he : e.1 = k) : delE k (A ++ e :: B) = A ++ B ∧ hasE k (A ++ e :: B) = true := by
  have h1 := ord_app.1 ho
  have h2 := List.pairwise_cons.1 h1.2.1
  subst he
  have hA : ∀ x ∈ A, x.1 ≠ e.1 := fun x hx => slt_ne (h1.2.2 x hx e (by simp))
  have hB : ∀ x ∈ B, x.1 ≠ e.1 := fun x hx => (slt_ne (h2.1 x hx)).symm
  refine ⟨?_, by simp [hasE]⟩
  have a1 := (del_none hA).1
  have b1 := (del_none hB).1
  unfold delE at a1 b1 ⊢
  rw [List.filter_append, a1, List.filter_cons_of_neg (by simp), b1]
theorem ord_del {k : ByteArray} {l : List Ent} (h : Ord l) : Ord (delE k l) := h.sublist List.filter_sublist
theorem len_del {k : ByteArray} {l : List Ent} : (delE k l).length ≤ l.length := List.length_filter_le _ _

theorem at_miss {H : List (List V)} {r : Nat} {bl : List Blk} (h : RootAt H r bl) {key : ByteArray} (hk : (atOf bl key).2.2 = false) : ∀ x ∈ ents bl, x.1 ≠ key := by
  rcases at_cases (h.atOk key) with ⟨hI, ha⟩ | ⟨b, e, hb, he, ha⟩
  · have h1 := ahead h.good.ne h.good.ord key (i := bl.length) (by omega)
    rw [List.take_length] at h1
    exact fun x hx => slt_ne (h1 x hx)
  · rw [ha] at hk
    have hne : e.1 ≠ key := of_decide_eq_false hk
    have hbm := List.mem_of_getElem? hb
    obtain ⟨hj, hej⟩ := List.getElem?_eq_some_iff.1 he
    have h1 : b.es = b.es.take (atJ b key) ++ e :: b.es.drop (atJ b key + 1) := by
      rw [← hej, ← List.drop_eq_getElem_cons hj, List.take_append_drop]
    have hge : slt e.1 key = false := by
      have := (ord_mono (ord_blk h.good.ord hbm) key).find _ e he
      simpa using this.trans (decide_eq_true (Nat.le_refl _))
    have hgt : slt key e.1 = true := by
      rcases slt_total e.1 key with h2 | h2 | h2
      · rw [hge] at h2; cases h2
      · exact absurd h2 hne
      · exact h2
    have hord := h.good.ord
    rw [(ents_split hb).2, ord_app] at hord
    have ho2 := hord.2.1
    rw [h1, List.append_assoc, ord_app, List.cons_append] at ho2
    have ho3 := List.pairwise_cons.1 ho2.2.1
    intro x hx
    rw [(ents_split hb).2] at hx
    rcases List.mem_append.1 hx with hx | hx
    · exact slt_ne (ahead h.good.ne h.good.ord key (Nat.le_refl _) x hx)
    · rw [h1, List.append_assoc] at hx
      rcases List.mem_append.1 hx with hx | hx
      · exact slt_ne (ahead_in (ord_blk h.good.ord hbm) key x hx)
      · rcases List.mem_cons.1 hx with rfl | hx
        · exact hne
        · exact (slt_ne (slt_trans hgt (ho3.1 x hx))).symm

theorem at_hit {H : List (List V)} {r : Nat} {bl : List Blk} (h : RootAt H r bl) {key : ByteArray} {i j : Nat} {b : Blk} {e : Ent} (hb : bl[i]? = some b) (he : b.es[j]? = some e) (hk : e.1 = key) :
    delE key (ents bl) = ents (bl.take i) ++ ((b.es.take j ++ b.es.drop (j + 1)) ++ ents (bl.drop (i + 1))) ∧ hasE key (ents bl) = true ∧ (delE key (ents bl)).length + 1 = (ents bl).length := by
  obtain ⟨hj, hej⟩ := List.getElem?_eq_some_iff.1 he
  have h1 : b.es = b.es.take j ++ e :: b.es.drop (j + 1) := by
    rw [← hej, ← List.drop_eq_getElem_cons hj, List.take_append_drop]
  have h2 : ents bl = (ents (bl.take i) ++ b.es.take j) ++ e :: (b.es.drop (j + 1) ++ ents (bl.drop (i + 1))) := by
    rw [(ents_split hb).2]
    conv => lhs; rw [h1]
    simp
  have hord := h.good.ord
  rw [h2] at hord
  obtain ⟨h3, h4⟩ := del_mid hord hk
  rw [h2]
  refine ⟨?_, h4, ?_⟩
  · rw [h3]; simp
  · rw [h3]; simp only [List.length_append, List.length_cons]; omega

theorem Frame.refl (H : List (List V)) (r : Nat) (bl : List Blk) : Frame H r bl H bl := ⟨Nat.le_refl _, fun _ _ _ => rfl, fun _ h => .inl h⟩

/-- A block gives way to others. -/
theorem root_repl2 {H H' : List (List V)} {r c : Nat} {bl nbs : List Blk} {es : List Ent} (h : RootAt H r bl) {i : Nat} (d : Nat) (hlen : H.length ≤ H'.length) (hkeep : ∀ o, o < H.length → o ≠ r → ¬ IsB H r o → H'[o]? = H[o]?) (bs' : V)
    (hr' : H'[r]? = some [bs', .sc (.int .i64 es.length)]) (hbs' : BsAt H' (bl.take i ++ nbs ++ bl.drop (i + d)) bs') (hBf : ∀ o n cap, bs' = .osl o 0 n 2 cap → IsB H r o ∨ H.length ≤ o)
    (hnb : ∀ x ∈ nbs, BlkAt H' x ∧ x.es ≠ [] ∧ x.es.length ≤ 16 ∧ (H.length ≤ x.vo ∨ ∃ b ∈ bl, x.vo = b.vo)) (hns : (bl.take i ++ nbs ++ bl.drop (i + d)).Pairwise fun a b => a.vo = b.vo → a.voff + a.es.length ≤ b.voff) (hents : ents (bl.take i) ++ (ents nbs ++ ents (bl.drop (i + d))) = es) (ho : Ord es) (hsm : es.length ≤ 900000) (y : V) :
    SetPost H r bl es c y H' [] c := by
  have hmem : ∀ x, x ∈ bl.take i ++ nbs ++ bl.drop (i + d) → x ∈ bl ∨ x ∈ nbs := fun x hx => by
    rcases List.mem_append.1 hx with hx | hx
    · rcases List.mem_append.1 hx with hx | hx
      · exact .inl (List.mem_of_mem_take hx)
      · exact .inr hx
    · exact .inl (List.mem_of_mem_drop hx)
  have he : ents (bl.take i ++ nbs ++ bl.drop (i + d)) = es := by
    rw [← hents]
    simp only [ents, List.flatMap_append, List.append_assoc]
  have hvl : ∀ x ∈ bl, x.vo < H.length := fun x hx => by
    obtain ⟨vc, hvc, _⟩ := (h.blk x hx).vc
    exact (List.getElem?_eq_some_iff.1 hvc).1
  refine ⟨bl.take i ++ nbs ++ bl.drop (i + d), ⟨⟨bs', by rw [he]; exact hr', hbs'⟩, ?_, ⟨?_, ?_, by rw [he]; exact ho, hns⟩, by rw [he]; exact hsm⟩, he, ⟨hlen, fun o hol hf => hkeep o hol (fun e => hf (.inl e)) (fun e => hf (.inr (.inr e))), ?_⟩, rfl, rfl⟩
  · intro x hx
    rcases hmem x hx with hx | hx
    · obtain ⟨⟨kc, k1, k2⟩, ⟨vc, v1, v2⟩⟩ := h.blk x hx
      have hkl := (List.getElem?_eq_some_iff.1 k1).1
      refine ⟨⟨kc, ?_, k2⟩, ⟨vc, ?_, v2⟩⟩
      · rw [hkeep x.ko hkl (h.r_ko hx).symm (fun e => by obtain ⟨bc, e1, e2⟩ := h.isB e; exact h.ko_B hx e1 e2 rfl)]; exact k1
      · rw [hkeep x.vo (hvl x hx) (h.r_vo hx).symm (fun e => by obtain ⟨bc, e1, e2⟩ := h.isB e; exact h.vo_B hx e1 e2 rfl)]; exact v1
    · exact (hnb x hx).1
  · intro x hx
    rcases hmem x hx with hx | hx
    · exact h.good.ne x hx
    · exact (hnb x hx).2.1
  · intro x hx
    rcases hmem x hx with hx | hx
    · exact h.good.few x hx
    · exact (hnb x hx).2.2.1
  · rintro o (rfl | ⟨x, hx, rfl⟩ | ⟨n, cap, cnt, hn⟩)
    · exact .inl (.inl rfl)
    · rcases hmem x hx with hx | hx
      · exact .inl (.inr (.inl ⟨x, hx, rfl⟩))
      · rcases (hnb x hx).2.2.2 with h1 | ⟨b, hb, h1⟩
        · exact .inr h1
        · exact .inl (.inr (.inl ⟨b, hb, h1⟩))
    · rw [hr'] at hn
      injection hn with hn
      injection hn with hn _
      rcases hBf o n cap hn with h1 | h1
      · exact .inl (.inr (.inr h1))
      · exact .inr h1

/-- The rows with one less. -/
def rmE (es : List Ent) (j : Nat) : List Ent := es.take j ++ es.drop (j + 1)
theorem rmE_len {es : List Ent} {j : Nat} (h : j < es.length) : (rmE es j).length = es.length - 1 := by simp [rmE]; omega
theorem keys_rm {kc : List V} {es : List Ent} {off j : Nat} (h : (kc.drop off).take es.length = ksV es) (hj : j < es.length) : (kc.drop off).take j ++ (kc.drop (off + (j + 1))).take (es.length - (j + 1)) = ksV (rmE es j) := by
  rw [(part_take h (Nat.le_of_lt hj)).1, (part_take h (by omega : j + 1 ≤ es.length)).2]
  simp [ksV, rmE, List.map_take, List.map_drop]
theorem vals_rm {kc : List V} {es : List Ent} {off j : Nat} (h : (kc.drop off).take es.length = vsV es) (hj : j < es.length) : (kc.drop off).take j ++ (kc.drop (off + (j + 1))).take (es.length - (j + 1)) = vsV (rmE es j) := by
  rw [(part_take h (Nat.le_of_lt hj)).1, (part_take h (by omega : j + 1 ≤ es.length)).2]
  simp [vsV, rmE, List.map_take, List.map_drop]
theorem sep_shrink {bl : List Blk} {i : Nat} {b b' : Blk} (h : bl[i]? = some b) (hs : bl.Pairwise fun a b => a.vo = b.vo → a.voff + a.es.length ≤ b.voff) (h1 : b'.vo = b.vo) (h2 : b'.voff = b.voff) (h3 : b'.es.length ≤ b.es.length) :
    (bl.take i ++ [b'] ++ bl.drop (i + 1)).Pairwise fun a b => a.vo = b.vo → a.voff + a.es.length ≤ b.voff := by
  rw [(ents_split h).1] at hs
  obtain ⟨p1, p2, p3⟩ := List.pairwise_append.1 hs
  obtain ⟨q1, q2⟩ := List.pairwise_cons.1 p2
  rw [List.append_assoc, List.singleton_append]
  refine List.pairwise_append.2 ⟨p1, List.pairwise_cons.2 ⟨fun x hx e => ?_, q2⟩, fun a ha x hx e => ?_⟩
  · have := q1 x hx (by rw [← h1]; exact e)
    omega
  · rcases List.mem_cons.1 hx with rfl | hx
    · have := p3 a ha b (by simp) (by rw [e, h1])
      omega
    · exact p3 a ha x (by simp [hx]) e
theorem sep_new {bl : List Blk} {i n : Nat} {b b' : Blk} (h : bl[i]? = some b) (hs : bl.Pairwise fun a b => a.vo = b.vo → a.voff + a.es.length ≤ b.voff) (hv : ∀ x ∈ bl, x.vo < n) (h1 : n ≤ b'.vo) :
    (bl.take i ++ [b'] ++ bl.drop (i + 1)).Pairwise fun a b => a.vo = b.vo → a.voff + a.es.length ≤ b.voff := by
  rw [(ents_split h).1] at hs
  obtain ⟨p1, p2, p3⟩ := List.pairwise_append.1 hs
  obtain ⟨q1, q2⟩ := List.pairwise_cons.1 p2
  rw [List.append_assoc, List.singleton_append]
  refine List.pairwise_append.2 ⟨p1, List.pairwise_cons.2 ⟨fun x hx e => ?_, q2⟩, fun a ha x hx e => ?_⟩
  · have := hv x (List.mem_of_mem_drop hx)
    omega
  · rcases List.mem_cons.1 hx with rfl | hx
    · have := hv a (List.mem_of_mem_take ha)
      omega
    · exact p3 a ha x (by simp [hx]) e
theorem sep_out {bl : List Blk} {i : Nat} {b : Blk} (h : bl[i]? = some b) (hs : bl.Pairwise fun a b => a.vo = b.vo → a.voff + a.es.length ≤ b.voff) :
    (bl.take i ++ ([] : List Blk) ++ bl.drop (i + 1)).Pairwise fun a b : Blk => a.vo = b.vo → a.voff + a.es.length ≤ b.voff := by
  rw [(ents_split h).1] at hs
  obtain ⟨p1, p2, p3⟩ := List.pairwise_append.1 hs
  rw [List.append_nil]
  exact List.pairwise_append.2 ⟨p1, (List.pairwise_cons.1 p2).2, fun a ha x hx => p3 a ha x (by simp [hx])⟩

theorem set_app {H H1 L : List (List V)} {r : Nat} {x : List V} (hrl : r < H.length) (hl1 : H1.length = H.length) (hkp1 : ∀ o, o ≠ r → H1[o]? = H[o]?) :
    H.length ≤ ((H1 ++ L).set r x).length ∧ (∀ o, o < H.length → o ≠ r → ((H1 ++ L).set r x)[o]? = H[o]?) ∧ ((H1 ++ L).set r x)[r]? = some x ∧ ∀ k, ((H1 ++ L).set r x)[H.length + k]? = L[k]? := by
  refine ⟨by simp; omega, fun o ho hr => ?_, ?_, fun k => ?_⟩
  · rw [List.getElem?_set_ne (fun e => hr e.symm), List.getElem?_append_left (by omega), hkp1 o hr]
  · rw [List.getElem?_set, if_pos rfl, if_pos (by simp; omega)]
  · rw [List.getElem?_set_ne (by omega), ← hl1, List.getElem?_append_right (by omega), Nat.add_sub_cancel_left]

theorem app_set {H H1 L : List (List V)} {r B : Nat} {x y : List V} (hBl : B < H.length) (hrB : r ≠ B) (hl1 : H1.length = H.length) (hkp1 : ∀ o, o ≠ r → H1[o]? = H[o]?) (hr1 : H1[r]? = some y) :
    H.length ≤ (H1.set B x ++ L).length ∧ (∀ o, o < H.length → o ≠ r → o ≠ B → (H1.set B x ++ L)[o]? = H[o]?) ∧ (H1.set B x ++ L)[r]? = some y ∧ (H1.set B x ++ L)[B]? = some x ∧ ∀ k, (H1.set B x ++ L)[H.length + k]? = L[k]? := by
  have hrl := (List.getElem?_eq_some_iff.1 hr1).1
  refine ⟨by simp; omega, fun o ho hr hB => ?_, ?_, ?_, fun k => ?_⟩
  · rw [List.getElem?_append_left (by simp; omega), List.getElem?_set_ne (fun e => hB e.symm), hkp1 o hr]
  · rw [List.getElem?_append_left (by simpa using hrl), List.getElem?_set_ne hrB.symm]; exact hr1
  · rw [List.getElem?_append_left (by simp; omega), List.getElem?_set, if_pos rfl, if_pos (by omega)]
  · have : (H1.set B x).length = H.length := by simp [hl1]
    rw [← this, List.getElem?_append_right (by omega), Nat.add_sub_cancel_left]

set_option linter.unusedSectionVars false
section
variable {H H' : List (List V)} {r c : Nat} {bl : List Blk} {key : ByteArray} (h : RootAt H r bl) {i j : Nat} {b : Blk} {e : Ent} (hb : bl[i]? = some b) (he : b.es[j]? = some e) (hk : e.1 = key) {B : Nat} {cap : Option Nat} {bc : List V} {cnt : V}
  (hr : H[r]? = some [.osl B 0 bl.length 2 cap, cnt]) (hB : H[B]? = some bc) (hosl : ∀ x ∈ bc, isOsl x) (hl : bl.length * 2 ≤ bc.length) (htk : bc.take (bl.length * 2) = blV bl)
  (hlen : H.length ≤ H'.length)
include h hb he hk hr hB hosl hl htk hlen

theorem fin_rm (hone : b.es.length ≠ 1) (hkp : ∀ o, o < H.length → o ≠ r → o ≠ B → H'[o]? = H[o]?) (hr' : H'[r]? = some [.osl B 0 bl.length 2 cap, .sc (.int .i64 (delE key (ents bl)).length)]) (b' : Blk) (hes : b'.es = rmE b.es j)
    (hB' : H'[B]? = some (bc.take (i * 2) ++ b'.cs ++ bc.drop (i * 2 + 2))) (hat : BlkAt H' b') (hv : H.length ≤ b'.vo ∨ (b'.vo = b.vo ∧ b'.voff = b.voff)) (y : V) : SetPost H r bl (delE key (ents bl)) c y H' [] c := by
  have hi : i < bl.length := (List.getElem?_eq_some_iff.1 hb).1
  have hj : j < b.es.length := (List.getElem?_eq_some_iff.1 he).1
  have hbm := List.mem_of_getElem? hb
  obtain ⟨hd1, _, hd3⟩ := at_hit h hb he hk
  have hfew := h.good.few b hbm
  have hsm := h.small
  have hl' : b'.es.length = b.es.length - 1 := by rw [hes, rmE_len hj]
  have hcl : b'.cs.length = 2 := rfl
  have hvl : ∀ x ∈ bl, x.vo < H.length := fun x hx => by
    obtain ⟨vc, hvc, _⟩ := (h.blk x hx).vc
    exact (List.getElem?_eq_some_iff.1 hvc).1
  obtain ⟨p1, _⟩ := blV_part htk (i := i) (by omega)
  obtain ⟨_, p2⟩ := blV_part htk (i := i + 1) (by omega)
  refine root_repl2 h (nbs := [b']) (i := i) 1 hlen (fun o ho h1 h2 => hkp o ho h1 (fun e => h2 ((isB_iff hr o).2 e))) (.osl B 0 bl.length 2 cap) hr' ?_ (fun o n cp e => ?_) (fun x hx => ?_) ?_ ?_ (ord_del h.good.ord) (by omega) y
  · refine ⟨rfl, by simp; omega, rfl, _, hB', ?_, ?_, ?_⟩
    · intro x hx
      simp only [List.mem_append] at hx
      rcases hx with (hx | hx) | hx
      · exact hosl x (List.mem_of_mem_take hx)
      · simp only [Blk.cs, List.mem_cons, List.not_mem_nil, or_false] at hx
        rcases hx with rfl | rfl <;> trivial
      · exact hosl x (List.mem_of_mem_drop hx)
    · simp [hcl]; omega
    · have hlen : (bl.take i ++ [b'] ++ bl.drop (i + 1)).length * 2 = i * 2 + (2 + (bl.length - (i + 1)) * 2) := by simp; omega
      rw [hlen, List.append_assoc, app3_take (by simp; omega) hcl, show i * 2 + 2 = (i + 1) * 2 by omega, p1, p2, blV_app, blV_app]
      simp [blV]
  · cases e
    exact .inl ((isB_iff hr B).2 rfl)
  · simp only [List.mem_cons, List.not_mem_nil, or_false] at hx
    subst hx
    refine ⟨hat, ?_, by omega, hv.imp id fun h1 => ⟨b, hbm, h1.1⟩⟩
    intro e1
    rw [e1] at hl'
    simp at hl'
    omega
  · rcases hv with hv | hv
    · exact sep_new hb h.good.sep hvl hv
    · exact sep_shrink hb h.good.sep hv.1 hv.2 (by omega)
  · rw [hd1]
    simp [ents, hes, rmE]

theorem fin_out (hone : b.es.length = 1) (hkp : ∀ o, o < H.length → o ≠ r → H'[o]? = H[o]?) (bs' : V) (hr' : H'[r]? = some [bs', .sc (.int .i64 (delE key (ents bl)).length)]) (hbs : BsAt H' (bl.take i ++ bl.drop (i + 1)) bs') (hBf : ∀ o n cap, bs' = .osl o 0 n 2 cap → o = B ∨ H.length ≤ o) (y : V) :
    SetPost H r bl (delE key (ents bl)) c y H' [] c := by
  have hi : i < bl.length := (List.getElem?_eq_some_iff.1 hb).1
  have hj : j < b.es.length := (List.getElem?_eq_some_iff.1 he).1
  obtain ⟨hd1, _, hd3⟩ := at_hit h hb he hk
  have hsm := h.small
  refine root_repl2 h (nbs := []) (i := i) 1 hlen (fun o ho h1 h2 => hkp o ho h1) bs' hr' (by rw [List.append_nil]; exact hbs) (fun o n cp e => (hBf o n cp e).imp (fun e => (isB_iff hr o).2 e) id) (fun x hx => by cases hx) (sep_out hb h.good.sep) ?_ (ord_del h.good.ord) (by omega) y
  rw [hd1]
  have h0 : j = 0 := by omega
  have h1 : b.es.drop (j + 1) = [] := List.drop_eq_nil_of_le (by omega)
  rw [h1, h0]
  simp [ents]
end
end Go.VS.S
