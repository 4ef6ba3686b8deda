/- set. -/
import Derived.Test.YtgjnkppjfbcicaaSvK
namespace Go.VS.S
open Go.Proofs

structure Good (bl : List Blk) : Prop where
  ne : ∀ b ∈ bl, b.es ≠ []
  few : ∀ b ∈ bl, b.es.length ≤ 16
  ord : Ord (ents bl)
  sep : bl.Pairwise fun a b => a.vo = b.vo → a.voff + a.es.length ≤ b.voff

structure RootAt (H : List (List V)) (r : Nat) (bl : List Blk) : Prop where
  root : ∃ bs, H[r]? = some [bs, .sc (.int .i64 (ents bl).length)] ∧ BsAt H bl bs
  blk : ∀ b ∈ bl, BlkAt H b
  good : Good bl
  small : (ents bl).length ≤ 900000

def Foot (H : List (List V)) (r : Nat) (bl : List Blk) (o : Nat) : Prop := o = r ∨ (∃ b ∈ bl, o = b.vo) ∨ ∃ n cap cnt, H[r]? = some [.osl o 0 n 2 cap, cnt]
structure Frame (H : List (List V)) (r : Nat) (bl : List Blk) (H' : List (List V)) (bl' : List Blk) : Prop where
  len : H.length ≤ H'.length
  keep : ∀ o, o < H.length → ¬ Foot H r bl o → H'[o]? = H[o]?
  foot : ∀ o, Foot H' r bl' o → Foot H r bl o ∨ H.length ≤ o

theorem ents_len {bl : List Blk} (hne : ∀ b ∈ bl, b.es ≠ []) : bl.length ≤ (ents bl).length := by
  induction bl with
  | nil => simp
  | cons b bl ih =>
    have h1 := ih fun x hx => hne x (by simp [hx])
    have h2 := List.length_pos_iff.2 (hne b (by simp))
    simp only [ents, List.flatMap_cons, List.length_append, List.length_cons] at h1 ⊢
    omega
theorem RootAt.atOk {H : List (List V)} {r : Nat} {bl : List Blk} (h : RootAt H r bl) (key : ByteArray) : AtOk H r bl key := by
  obtain ⟨bs, h1, h2⟩ := h.root
  exact ⟨⟨bs, _, h1, h2⟩, h.blk, h.good.ne, fun b hb => Nat.le_trans (h.good.few b hb) (by omega), Nat.le_trans (ents_len h.good.ne) (Nat.le_trans h.small (by omega)), blocks_mono h.good.ne h.good.ord key, fun b hb => ord_mono (ord_blk h.good.ord hb) key⟩

section
variable {H : List (List V)} {r : Nat} {bl : List Blk} {b : Blk}
theorem not_str_int {k : IntKind} {n : Int} : ¬ isStr (.sc (.int k n)) := fun h => h
theorem RootAt.r_ko (h : RootAt H r bl) (hb : b ∈ bl) : r ≠ b.ko := by
  intro e
  obtain ⟨bs, h1, _⟩ := h.root
  obtain ⟨kc, h2, h3, _⟩ := (h.blk b hb).kc
  rw [e, h2] at h1
  injection h1 with h1
  subst h1
  exact h3 (.sc (.int .i64 (ents bl).length)) (by simp)
theorem RootAt.r_vo (h : RootAt H r bl) (hb : b ∈ bl) : r ≠ b.vo := by
  intro e
  obtain ⟨bs, h1, _⟩ := h.root
  obtain ⟨kc, h2, h3, _⟩ := (h.blk b hb).vc
  rw [e, h2] at h1
  injection h1 with h1
  subst h1
  exact h3 (.sc (.int .i64 (ents bl).length)) (by simp)
theorem str_ne {o o' : Nat} {p q : V → Prop} {xs ys : List V} (h1 : H[o]? = some xs) (h2 : ∀ x ∈ xs, p x) (k1 : H[o']? = some ys) (k2 : ∀ x ∈ ys, q x) (hx : 0 < xs.length) (hpq : ∀ x, p x → q x → False) : o ≠ o' := by
  intro e
  subst e
  rw [h1] at k1
  injection k1 with k1
  subst k1
  have : xs[0] ∈ xs := List.getElem_mem hx
  exact hpq _ (h2 _ this) (k2 _ this)
theorem str_dat (x : V) (h : isStr x) (k : isDat x) : False := by
  cases x <;> simp only [isStr, isDat] at h k
theorem str_osl (x : V) (h : isStr x) (k : isOsl x) : False := by
  cases x <;> simp only [isStr, isOsl] at h k
theorem dat_osl (x : V) (h : isDat x) (k : isOsl x) : False := by
  cases x <;> simp only [isDat, isOsl] at h k
theorem RootAt.ko_vo (h : RootAt H r bl) (hb : b ∈ bl) {b' : Blk} (hb' : b' ∈ bl) : b.ko ≠ b'.vo := by
  obtain ⟨kc, h2, h3, h4, _⟩ := (h.blk b hb).kc
  obtain ⟨vc, k2, k3, _⟩ := (h.blk b' hb').vc
  have := List.length_pos_iff.2 (h.good.ne b hb)
  exact str_ne h2 h3 k2 k3 (by omega) str_dat
theorem RootAt.ko_B (h : RootAt H r bl) (hb : b ∈ bl) {B : Nat} {bc : List V} (hB : H[B]? = some bc) (ho : ∀ x ∈ bc, isOsl x) : b.ko ≠ B := by
  obtain ⟨kc, h2, h3, h4, _⟩ := (h.blk b hb).kc
  have := List.length_pos_iff.2 (h.good.ne b hb)
  exact str_ne h2 h3 hB ho (by omega) str_osl
theorem RootAt.vo_B (h : RootAt H r bl) (hb : b ∈ bl) {B : Nat} {bc : List V} (hB : H[B]? = some bc) (ho : ∀ x ∈ bc, isOsl x) : b.vo ≠ B := by
  obtain ⟨kc, h2, h3, h4, _⟩ := (h.blk b hb).vc
  have := List.length_pos_iff.2 (h.good.ne b hb)
  exact str_ne h2 h3 hB ho (by omega) dat_osl
theorem RootAt.r_B (h : RootAt H r bl) {B : Nat} {bc : List V} (hB : H[B]? = some bc) (ho : ∀ x ∈ bc, isOsl x) : r ≠ B := by
  intro e
  obtain ⟨bs, h1, _⟩ := h.root
  rw [e, hB] at h1
  injection h1 with h1
  subst h1
  exact ho (.sc (.int .i64 (ents bl).length)) (by simp)
theorem BlkAt.set (h : BlkAt H b) {o : Nat} {x : List V} (hk : o ≠ b.ko) (hv : o ≠ b.vo) : BlkAt (H.set o x) b := by
  obtain ⟨⟨kc, h1, h2⟩, ⟨vc, h3, h4⟩⟩ := h
  exact ⟨⟨kc, by rw [List.getElem?_set_ne hk]; exact h1, h2⟩, ⟨vc, by rw [List.getElem?_set_ne hv]; exact h3, h4⟩⟩
end

theorem ents_set {bl : List Blk} {i : Nat} {b b' : Blk} (h : bl[i]? = some b) : ents (bl.set i b') = ents (bl.take i) ++ (b'.es ++ ents (bl.drop (i + 1))) := by
  have hi : i < bl.length := (List.getElem?_eq_some_iff.1 h).1
  rw [List.set_eq_take_append_cons_drop, if_pos hi]
  simp only [ents, List.flatMap_append, List.flatMap_cons]

theorem mem_set {α : Type} {l : List α} {i : Nat} {x y : α} (h : y ∈ l.set i x) : y = x ∨ ∃ j, j ≠ i ∧ l[j]? = some y := by
  obtain ⟨j, hj⟩ := List.getElem?_of_mem h
  by_cases hij : j = i
  · subst hij
    rw [List.getElem?_set] at hj
    simp at hj
    exact .inl hj.2.symm
  · rw [List.getElem?_set_ne (fun e => hij e.symm)] at hj
    exact .inr ⟨j, hij, hj⟩

/-- The key is there: its value is put. -/
theorem ins_hit {bl : List Blk} {key : ByteArray} {v : List Cell} (g : Good bl) {b : Blk} (hb : bl[atI bl key]? = some b) {e : Ent} (he : b.es[atJ b key]? = some e) (hk : e.1 = key) :
    insE key v (ents bl) = ents (bl.take (atI bl key)) ++ (b.es.set (atJ b key) (key, v) ++ ents (bl.drop (atI bl key + 1))) := by
  have hbm := List.mem_of_getElem? hb
  obtain ⟨hj, hej⟩ := List.getElem?_eq_some_iff.1 he
  rw [(ents_split hb).2, insE_app (ahead g.ne g.ord key (Nat.le_refl _))]
  congr 1
  have h1 : b.es = b.es.take (atJ b key) ++ e :: b.es.drop (atJ b key + 1) := by
    rw [← hej, ← List.drop_eq_getElem_cons hj, List.take_append_drop]
  have h2 : b.es ++ ents (bl.drop (atI bl key + 1)) = b.es.take (atJ b key) ++ (e :: (b.es.drop (atJ b key + 1) ++ ents (bl.drop (atI bl key + 1)))) := by
    conv => lhs; rw [h1]
    simp
  rw [h2, insE_app (ahead_in (ord_blk g.ord hbm) key), insE_hit hk, List.set_eq_take_append_cons_drop, if_pos hj]
  simp
/-- The key is not there: it goes in ahead of those behind it. -/
theorem ins_miss {bl : List Blk} {key : ByteArray} {v : List Cell} (g : Good bl) {b : Blk} (hb : bl[atI bl key]? = some b) {e : Ent} (he : b.es[atJ b key]? = some e) (hk : e.1 ≠ key) :
    insE key v (ents bl) = ents (bl.take (atI bl key)) ++ ((b.es.take (atJ b key) ++ (key, v) :: b.es.drop (atJ b key)) ++ ents (bl.drop (atI bl key + 1))) := by
  have hbm := List.mem_of_getElem? hb
  obtain ⟨hj, hej⟩ := List.getElem?_eq_some_iff.1 he
  have hge : slt e.1 key = false := by
    have := (ord_mono (ord_blk g.ord hbm) key).find _ e he
    simpa using this.trans (decide_eq_true (Nat.le_refl _))
  rw [(ents_split hb).2, insE_app (ahead g.ne g.ord key (Nat.le_refl _))]
  congr 1
  have h1 : b.es = b.es.take (atJ b key) ++ e :: b.es.drop (atJ b key + 1) := by
    rw [← hej, ← List.drop_eq_getElem_cons hj, List.take_append_drop]
  have h2 : b.es ++ ents (bl.drop (atI bl key + 1)) = b.es.take (atJ b key) ++ (e :: (b.es.drop (atJ b key + 1) ++ ents (bl.drop (atI bl key + 1)))) := by
    conv => lhs; rw [h1]
    simp
  have h3 : b.es.drop (atJ b key) = e :: b.es.drop (atJ b key + 1) := by rw [List.drop_eq_getElem_cons hj, hej]
  rw [h2, insE_app (ahead_in (ord_blk g.ord hbm) key), insE_miss hge hk, h3]
  simp
/-- Behind all. -/
theorem ins_last {bl : List Blk} {key : ByteArray} {v : List Cell} (g : Good bl) (hi : atI bl key = bl.length) : insE key v (ents bl) = ents bl ++ [(key, v)] := by
  have h := ahead g.ne g.ord key (i := bl.length) (by omega)
  rw [List.take_length] at h
  have := insE_app (k := key) (v := v) h []
  rw [List.append_nil] at this
  exact this

def SetPost (H : List (List V)) (r : Nat) (bl : List Blk) (es : List Ent) (c : Nat) (_ : V) (H' : List (List V)) (lv' : List (Nat × TypeId)) (c' : Nat) : Prop :=
  ∃ bl', RootAt H' r bl' ∧ ents bl' = es ∧ Frame H r bl H' bl' ∧ lv' = [] ∧ c' = c

def IsB (H : List (List V)) (r o : Nat) : Prop := ∃ n cap cnt, H[r]? = some [.osl o 0 n 2 cap, cnt]
theorem RootAt.isB {H : List (List V)} {r : Nat} {bl : List Blk} (h : RootAt H r bl) {o : Nat} (ho : IsB H r o) : ∃ bc, H[o]? = some bc ∧ ∀ x ∈ bc, isOsl x := by
  obtain ⟨bs, h1, h2⟩ := h.root
  obtain ⟨n, cap, cnt, h3⟩ := ho
  rw [h1] at h3
  injection h3 with h3
  injection h3 with h3 h4
  subst h3
  rcases bsAt_cases h2 with ⟨e, _⟩ | ⟨B, cap, bc, e, h5, h6, _⟩
  · cases e
  · cases e
    exact ⟨bc, h5, h6⟩

/-- A block gives way to others, whose rows are new. -/
theorem root_repl {H H' : List (List V)} {r c : Nat} {bl nbs : List Blk} {es : List Ent} (h : RootAt H r bl) {i : Nat} (hi : i ≤ bl.length) (d : Nat) (hlen : H.length ≤ H'.length) (hkeep : ∀ o, o < H.length → o ≠ r → ¬ IsB H r o → H'[o]? = H[o]?) (bs' : V)
    (hr' : H'[r]? = some [bs', .sc (.int .i64 es.length)]) (hbs' : BsAt H' (bl.take i ++ nbs ++ bl.drop (i + d)) bs') (hBf : ∀ o n cap, bs' = .osl o 0 n 2 cap → IsB H r o ∨ H.length ≤ o)
    (hnb : ∀ x ∈ nbs, BlkAt H' x ∧ x.es ≠ [] ∧ x.es.length ≤ 16 ∧ H.length ≤ x.vo) (hns : nbs.Pairwise fun a b => a.vo = b.vo → a.voff + a.es.length ≤ b.voff) (hents : ents (bl.take i) ++ (ents nbs ++ ents (bl.drop (i + d))) = es) (ho : Ord es) (hsm : es.length ≤ 900000) :
    SetPost H r bl es c (.tup []) H' [] c := by
  have hmem : ∀ x, x ∈ bl.take i ++ nbs ++ bl.drop (i + d) → x ∈ bl ∨ x ∈ nbs := fun x hx => by
    rcases List.mem_append.1 hx with hx | hx
    · rcases List.mem_append.1 hx with hx | hx
      · exact .inl (List.mem_of_mem_take hx)
      · exact .inr hx
    · exact .inl (List.mem_of_mem_drop hx)
  have he : ents (bl.take i ++ nbs ++ bl.drop (i + d)) = es := by
    rw [← hents]
    simp only [ents, List.flatMap_append, List.append_assoc]
  have hvl : ∀ x ∈ bl, x.vo < H.length := fun x hx => by
    obtain ⟨vc, hvc, _⟩ := (h.blk x hx).vc
    exact (List.getElem?_eq_some_iff.1 hvc).1
  refine ⟨bl.take i ++ nbs ++ bl.drop (i + d), ⟨⟨bs', by rw [he]; exact hr', hbs'⟩, ?_, ⟨?_, ?_, by rw [he]; exact ho, ?_⟩, by rw [he]; exact hsm⟩, he, ⟨hlen, fun o hol hf => hkeep o hol (fun e => hf (.inl e)) (fun e => hf (.inr (.inr e))), ?_⟩, rfl, rfl⟩
  · intro x hx
    rcases hmem x hx with hx | hx
    · obtain ⟨⟨kc, k1, k2⟩, ⟨vc, v1, v2⟩⟩ := h.blk x hx
      have hkl := (List.getElem?_eq_some_iff.1 k1).1
      refine ⟨⟨kc, ?_, k2⟩, ⟨vc, ?_, v2⟩⟩
      · rw [hkeep x.ko hkl (h.r_ko hx).symm (fun e => by obtain ⟨bc, e1, e2⟩ := h.isB e; exact h.ko_B hx e1 e2 rfl)]; exact k1
      · rw [hkeep x.vo (hvl x hx) (h.r_vo hx).symm (fun e => by obtain ⟨bc, e1, e2⟩ := h.isB e; exact h.vo_B hx e1 e2 rfl)]; exact v1
    · exact (hnb x hx).1
  · intro x hx
    rcases hmem x hx with hx | hx
    · exact h.good.ne x hx
    · exact (hnb x hx).2.1
  · intro x hx
    rcases hmem x hx with hx | hx
    · exact h.good.few x hx
    · exact (hnb x hx).2.2.1
  · have hs := h.good.sep
    have hsub : (bl.take i ++ bl.drop (i + d)).Sublist bl := by
      conv => rhs; rw [← List.take_append_drop i bl]
      refine List.Sublist.append (List.Sublist.refl _) ?_
      rw [← List.drop_drop]
      exact List.drop_sublist d _
    have hs2 := List.pairwise_append.1 (hs.sublist hsub)
    refine List.pairwise_append.2 ⟨List.pairwise_append.2 ⟨hs2.1, hns, fun a ha b hb e => ?_⟩, hs2.2.1, fun a ha b hb => ?_⟩
    · have h1 := hvl a (List.mem_of_mem_take ha)
      have h2 := (hnb b hb).2.2.2
      omega
    · rcases List.mem_append.1 ha with ha | ha
      · exact hs2.2.2 a ha b hb
      · intro e
        have h1 := hvl b (List.mem_of_mem_drop hb)
        have h2 := (hnb a ha).2.2.2
        omega
  · rintro o (rfl | ⟨x, hx, rfl⟩ | ⟨n, cap, cnt, hn⟩)
    · exact .inl (.inl rfl)
    · rcases hmem x hx with hx | hx
      · exact .inl (.inr (.inl ⟨x, hx, rfl⟩))
      · exact .inr (hnb x hx).2.2.2
    · rw [hr'] at hn
      injection hn with hn
      injection hn with hn _
      rcases hBf o n cap hn with h1 | h1
      · exact .inl (.inr (.inr h1))
      · exact .inr h1

theorem part_take {α : Type} {l m : List α} {off n j : Nat} (h : (l.drop off).take n = m) (hj : j ≤ n) : (l.drop off).take j = m.take j ∧ (l.drop (off + j)).take (n - j) = m.drop j := by
  subst h
  refine ⟨?_, ?_⟩
  · rw [List.take_take, Nat.min_eq_left hj]
  · rw [List.drop_take, List.drop_drop]
theorem blV_len (bl : List Blk) : (blV bl).length = bl.length * 2 := by
  induction bl with
  | nil => rfl
  | cons b bl ih =>
    simp only [blV, List.flatMap_cons, List.length_append, List.length_cons] at ih ⊢
    rw [ih]
    simp [Blk.cs]
    omega
theorem blV_app (a b : List Blk) : blV (a ++ b) = blV a ++ blV b := by simp [blV]
theorem blV_part {bl : List Blk} {bc : List V} (h : bc.take (bl.length * 2) = blV bl) {i : Nat} (hi : i ≤ bl.length) : bc.take (i * 2) = blV (bl.take i) ∧ (bc.drop (i * 2)).take ((bl.length - i) * 2) = blV (bl.drop i) := by
  have h0 : blV bl = blV (bl.take i) ++ blV (bl.drop i) := by rw [← blV_app, List.take_append_drop]
  have hl : (blV (bl.take i)).length = i * 2 := by rw [blV_len, List.length_take, Nat.min_eq_left hi]
  obtain ⟨h1, h2⟩ := part_take (l := bc) (off := 0) (n := bl.length * 2) (j := i * 2) (m := blV bl) (by simpa using h) (by omega)
  rw [List.drop_zero] at h1
  rw [Nat.zero_add, show bl.length * 2 - i * 2 = (bl.length - i) * 2 by omega] at h2
  rw [h1, h2, h0]
  exact ⟨List.take_left' hl, List.drop_left' hl⟩

theorem app3_take {α : Type} {A M D : List α} {a m d : Nat} (hA : A.length = a) (hM : M.length = m) : (A ++ (M ++ D)).take (a + (m + d)) = A ++ (M ++ D.take d) := by
  subst hA; subst hM
  rw [List.take_append, List.take_of_length_le (by omega), Nat.add_sub_cancel_left, List.take_append, List.take_of_length_le (l := M) (by omega), Nat.add_sub_cancel_left]

/-- The rows with one more. -/
def addE (es : List Ent) (j : Nat) (key : ByteArray) (v : List Cell) : List Ent := es.take j ++ (key, v) :: es.drop j
theorem addE_len {es : List Ent} {j : Nat} {key : ByteArray} {v : List Cell} : (addE es j key v).length = es.length + 1 := by
  simp [addE]; omega
theorem keys_add {kc : List V} {es : List Ent} {off j : Nat} {key : ByteArray} (v : List Cell) (h : (kc.drop off).take es.length = ksV es) (hj : j ≤ es.length) : (kc.drop off).take j ++ [.sc (.string key)] ++ (kc.drop (off + j)).take (es.length - j) = ksV (addE es j key v) := by
  obtain ⟨h1, h2⟩ := part_take h hj
  rw [h1, h2]
  simp [ksV, addE, List.map_take, List.map_drop]
theorem vals_add {kc : List V} {es : List Ent} {off j : Nat} (key : ByteArray) {v : List Cell} (h : (kc.drop off).take es.length = vsV es) (hj : j ≤ es.length) : (kc.drop off).take j ++ [.data v.length 8 (cellsV v) none] ++ (kc.drop (off + j)).take (es.length - j) = vsV (addE es j key v) := by
  obtain ⟨h1, h2⟩ := part_take h hj
  rw [h1, h2]
  simp [vsV, addE, List.map_take, List.map_drop, cvV]
theorem ksV_str (es : List Ent) : ∀ x ∈ ksV es, isStr x := fun x hx => by
  simp only [ksV, List.mem_map] at hx
  obtain ⟨e, _, rfl⟩ := hx
  trivial
theorem vsV_dat (es : List Ent) : ∀ x ∈ vsV es, isDat x := fun x hx => by
  simp only [vsV, List.mem_map] at hx
  obtain ⟨e, _, rfl⟩ := hx
  trivial
theorem ksV_len (es : List Ent) : (ksV es).length = es.length := by simp [ksV]
theorem vsV_len (es : List Ent) : (vsV es).length = es.length := by simp [vsV]
theorem osl_blV (bl : List Blk) : ∀ x ∈ blV bl, isOsl x := fun x hx => by
  simp only [blV, List.mem_flatMap, Blk.cs] at hx
  obtain ⟨b, _, hx⟩ := hx
  simp only [List.mem_cons, List.not_mem_nil, or_false] at hx
  rcases hx with rfl | rfl <;> trivial
theorem isB_iff {H : List (List V)} {r B : Nat} {n : Nat} {cap : Option Nat} {cnt : V} (hr : H[r]? = some [.osl B 0 n 2 cap, cnt]) (o : Nat) : IsB H r o ↔ o = B := by
  constructor
  · rintro ⟨n', cap', cnt', h⟩
    rw [hr] at h
    injection h with h
    injection h with h _
    injection h with h
    exact h.symm
  · rintro rfl
    exact ⟨_, _, _, hr⟩

theorem fin_empty {H : List (List V)} {r c : Nat} {key : ByteArray} {v : List Cell} (h : RootAt H r []) :
    SetPost H r [] (insE key v (ents [])) c (.tup []) ((H ++ [[.sc (.string key)], [cvV v], [.osl H.length 0 1 1 (some 1), .osl (H.length + 1) 0 1 1 (some 1)]]).set r [.osl (H.length + 2) 0 1 2 (some 1), .sc (.int .i64 1)]) [] c := by
  obtain ⟨bs, hr, hbs⟩ := h.root
  have hrl : r < H.length := (List.getElem?_eq_some_iff.1 hr).1
  have e0 : ∀ (L : List (List V)) (x : List V) k, ((H ++ L).set r x)[H.length + k]? = L[k]? := fun L x k => by rw [List.getElem?_set_ne (by omega), List.getElem?_append_right (by omega), Nat.add_sub_cancel_left]
  refine root_repl h (nbs := [⟨H.length, 0, some 1, H.length + 1, 0, some 1, [(key, v)]⟩]) (i := 0) (by simp) 0 (by simp) (fun o ho h1 h2 => ?_) (.osl (H.length + 2) 0 1 2 (some 1)) ?_ ?_ (fun o n cp e => ?_) (fun x hx => ?_) (List.pairwise_singleton _ _) ?_ (ord_insE h.good.ord) (by simp [ents, insE])
  · rw [List.getElem?_set_ne (fun e => h1 e.symm), List.getElem?_append_left ho]
  · rw [List.getElem?_set, if_pos rfl, if_pos (by simp; omega)]
    simp [ents, insE]
  · refine ⟨rfl, by simp, rfl, _, e0 _ _ 2, ?_, by simp, ?_⟩
    · intro x hx
      simp only [List.mem_cons, List.not_mem_nil, or_false] at hx
      rcases hx with rfl | rfl <;> trivial
    · simp [blV, Blk.cs]
  · cases e
    exact .inr (by omega)
  · simp only [List.mem_cons, List.not_mem_nil, or_false] at hx
    subst hx
    refine ⟨⟨⟨_, e0 _ _ 0, ?_, by simp, by simp [ksV]⟩, ⟨_, e0 _ _ 1, ?_, by simp, by simp [vsV]⟩⟩, by simp, by simp, by simp⟩
    · intro x hx
      simp only [List.getElem?_cons_zero, List.mem_cons, List.not_mem_nil, or_false] at hx
      subst hx
      trivial
    · intro x hx
      simp only [List.mem_cons, List.not_mem_nil, or_false] at hx
      subst hx
      trivial
  · simp [ents, insE]

section
variable {H HA : List (List V)} {r c : Nat} {bl : List Blk} {key : ByteArray} {v : List Cell} (h : RootAt H r bl) {i j : Nat} {b : Blk} (hb : bl[i]? = some b) {B : Nat} {cap : Option Nat} {bc : List V} {cnt : V}
  (hr : H[r]? = some [.osl B 0 bl.length 2 cap, cnt]) (hB : H[B]? = some bc) (hosl : ∀ x ∈ bc, isOsl x) (hl : bl.length * 2 ≤ bc.length) (htk : bc.take (bl.length * 2) = blV bl)
  (hins : insE key v (ents bl) = ents (bl.take i) ++ (addE b.es j key v ++ ents (bl.drop (i + 1)))) (hsm : (ents bl).length ≤ 800000)
  (hlA : HA.length = H.length) (hkA : ∀ o, o ≠ r → o ≠ B → HA[o]? = H[o]?)
include hb hins in
theorem add_count : (insE key v (ents bl)).length = (ents bl).length + 1 := by
  rw [hins, (ents_split hb).2]
  simp [addE_len]
  omega
include h hb hr hB hosl hl htk hins hsm hlA hkA

theorem fin_plain (hrA : HA[r]? = some [.osl B 0 bl.length 2 cap, .sc (.int .i64 ((ents bl).length + 1))])
    (hBA : HA[B]? = some (bc.take (i * 2) ++ [.osl H.length 0 (b.es.length + 1) 1 none, .osl (H.length + 1) 0 (b.es.length + 1) 1 none] ++ bc.drop (i * 2 + 2))) (hn : b.es.length + 1 ≤ 16) :
    SetPost H r bl (insE key v (ents bl)) c (.tup []) (HA ++ [ksV (addE b.es j key v), vsV (addE b.es j key v)]) [] c := by
  have hi : i < bl.length := (List.getElem?_eq_some_iff.1 hb).1
  have hcount := add_count hb hins
  have hBl : B < H.length := (List.getElem?_eq_some_iff.1 hB).1
  have hrl : r < H.length := (List.getElem?_eq_some_iff.1 hr).1
  refine root_repl h (nbs := [⟨H.length, 0, none, H.length + 1, 0, none, addE b.es j key v⟩]) (i := i) (by omega) 1 (by simp; omega) (fun o ho h1 h2 => ?_) (.osl B 0 bl.length 2 cap) ?_ ?_ (fun o n cp e => ?_) (fun x hx => ?_) (List.pairwise_singleton _ _) ?_ (ord_insE h.good.ord) (by omega)
  · rw [List.getElem?_append_left (by omega)]
    exact hkA o h1 (fun e => h2 ((isB_iff hr o).2 e))
  · rw [List.getElem?_append_left (by omega), hrA, hcount]
    simp
  · have h0 : bl.length = i + (1 + (bl.length - (i + 1))) := by omega
    obtain ⟨p1, _⟩ := blV_part htk (i := i) (by omega)
    obtain ⟨_, p2⟩ := blV_part htk (i := i + 1) (by omega)
    refine ⟨rfl, by simp; omega, rfl, _, by rw [List.getElem?_append_left (by omega)]; exact hBA, ?_, ?_, ?_⟩
    · intro x hx
      simp only [List.mem_append, List.mem_cons, List.not_mem_nil, or_false] at hx
      rcases hx with (hx | rfl | rfl) | hx
      · exact hosl x (List.mem_of_mem_take hx)
      · trivial
      · trivial
      · exact hosl x (List.mem_of_mem_drop hx)
    · simp; omega
    · have hlen : (bl.take i ++ [(⟨H.length, 0, none, H.length + 1, 0, none, addE b.es j key v⟩ : Blk)] ++ bl.drop (i + 1)).length * 2 = i * 2 + (2 + (bl.length - (i + 1)) * 2) := by simp; omega
      rw [hlen, List.append_assoc, app3_take (by simp; omega) (by simp), show i * 2 + 2 = (i + 1) * 2 by omega, p1, p2, blV_app, blV_app]
      simp [blV, Blk.cs, addE_len]
  · cases e
    exact .inl ((isB_iff hr B).2 rfl)
  · simp only [List.mem_cons, List.not_mem_nil, or_false] at hx
    subst hx
    have e0 : ∀ k, (HA ++ [ksV (addE b.es j key v), vsV (addE b.es j key v)])[H.length + k]? = [ksV (addE b.es j key v), vsV (addE b.es j key v)][k]? := fun k => by rw [← hlA, List.getElem?_append_right (by omega), Nat.add_sub_cancel_left]
    refine ⟨⟨⟨_, e0 0, ksV_str _, by simp [ksV_len], ?_⟩, ⟨_, e0 1, vsV_dat _, by simp [vsV_len], ?_⟩⟩, ?_, by simp only [addE_len]; omega, by simp⟩
    · rw [List.drop_zero, List.take_of_length_le (by simp [ksV_len])]
    · rw [List.drop_zero, List.take_of_length_le (by simp [vsV_len])]
    · intro e
      have := congrArg List.length e
      simp [addE_len] at this
  · rw [hins]
    simp [ents]

omit hosl in
theorem fin_split {hf : Nat} {lo hi : List V} {B3 : List V} (hBB : B3 = bc.take (i * 2) ++ [V.osl H.length 0 hf 1 (some hf), V.osl (H.length + 1) 0 hf 1 (some hf)] ++ bc.drop (i * 2 + 2)) (hn : 16 < b.es.length + 1) (hfew : b.es.length ≤ 16) (hhf : (b.es.length + 1) / 2 = hf) :
    SetPost H r bl (insE key v (ents bl)) c (.tup []) ((HA ++ ([ksV (addE b.es j key v), vsV (addE b.es j key v), lo, hi] ++ [B3.take ((i + 1) * 2) ++ [V.osl H.length hf (b.es.length + 1 - hf) 1 (some (b.es.length + 1 - hf)), V.osl (H.length + 1) hf (b.es.length + 1 - hf) 1 (some (b.es.length + 1 - hf))] ++ (B3.drop ((i + 1) * 2)).take ((bl.length - (i + 1)) * 2)])).set r
      [V.osl (H.length + 4) 0 (bl.length + 1) 2 none, .sc (.int .i64 ((ents bl).length + 1))]) [] c := by
  have hi' : i < bl.length := (List.getElem?_eq_some_iff.1 hb).1
  have hcount := add_count hb hins
  have hBl : B < H.length := (List.getElem?_eq_some_iff.1 hB).1
  have hrl : r < H.length := (List.getElem?_eq_some_iff.1 hr).1
  obtain ⟨p1, _⟩ := blV_part htk (i := i) (by omega)
  obtain ⟨_, p2⟩ := blV_part htk (i := i + 1) (by omega)
  let lob : Blk := ⟨H.length, 0, some hf, H.length + 1, 0, some hf, (addE b.es j key v).take hf⟩
  let hib : Blk := ⟨H.length, hf, some (b.es.length + 1 - hf), H.length + 1, hf, some (b.es.length + 1 - hf), (addE b.es j key v).drop hf⟩
  have hll : lob.es.length = hf := by simp [lob, addE_len]; omega
  have hhl : hib.es.length = b.es.length + 1 - hf := by simp [hib, addE_len]
  have hlc : lob.cs = [V.osl H.length 0 hf 1 (some hf), V.osl (H.length + 1) 0 hf 1 (some hf)] := by unfold Blk.cs; rw [hll]
  have hhc : hib.cs = [V.osl H.length hf (b.es.length + 1 - hf) 1 (some (b.es.length + 1 - hf)), V.osl (H.length + 1) hf (b.es.length + 1 - hf) 1 (some (b.es.length + 1 - hf))] := by unfold Blk.cs; rw [hhl]
  have e0 : ∀ (L : List (List V)) (x : List V) k, ((HA ++ L).set r x)[H.length + k]? = L[k]? := fun L x k => by rw [List.getElem?_set_ne (by omega), ← hlA, List.getElem?_append_right (by omega), Nat.add_sub_cancel_left]
  have hB3a : B3.take ((i + 1) * 2) = blV (bl.take i) ++ lob.cs := by
    rw [hBB, ← hlc, p1, show (i + 1) * 2 = i * 2 + 2 by omega]
    exact List.take_left' (by simp [blV_len, hlc]; omega)
  have hB3b : (B3.drop ((i + 1) * 2)).take ((bl.length - (i + 1)) * 2) = blV (bl.drop (i + 1)) := by
    rw [hBB, ← p2, show i * 2 + 2 = (i + 1) * 2 by omega, List.drop_left' (by simp; omega)]
  have hBC : B3.take ((i + 1) * 2) ++ [V.osl H.length hf (b.es.length + 1 - hf) 1 (some (b.es.length + 1 - hf)), V.osl (H.length + 1) hf (b.es.length + 1 - hf) 1 (some (b.es.length + 1 - hf))] ++ (B3.drop ((i + 1) * 2)).take ((bl.length - (i + 1)) * 2) = blV (bl.take i ++ [lob, hib] ++ bl.drop (i + 1)) := by
    rw [hB3a, hB3b, ← hhc, blV_app, blV_app]
    simp [blV]
  rw [hBC]
  refine root_repl h (nbs := [lob, hib]) (i := i) (by omega) 1 (by simp; omega) (fun o ho h1 h2 => ?_) (V.osl (H.length + 4) 0 (bl.length + 1) 2 none) ?_ ?_ (fun o n cp e => ?_) (fun x hx => ?_) ?_ ?_ (ord_insE h.good.ord) (by omega)
  · rw [List.getElem?_set_ne (fun e => h1 e.symm), List.getElem?_append_left (by omega)]
    exact hkA o h1 (fun e => h2 ((isB_iff hr o).2 e))
  · rw [List.getElem?_set, if_pos rfl, if_pos (by simp; omega), hcount]
    simp
  · refine ⟨rfl, by simp; omega, rfl, _, e0 _ _ 4, osl_blV _, by rw [blV_len]; exact Nat.le_refl _, by rw [List.take_of_length_le (by rw [blV_len]; exact Nat.le_refl _)]⟩
  · cases e
    exact .inr (by omega)
  · simp only [List.mem_cons, List.not_mem_nil, or_false] at hx
    rcases hx with rfl | rfl
    · refine ⟨⟨⟨_, e0 _ _ 0, ksV_str _, by simp [lob, ksV_len, addE_len]; omega, ?_⟩, ⟨_, e0 _ _ 1, vsV_dat _, by simp [lob, vsV_len, addE_len]; omega, ?_⟩⟩, ?_, by omega, by simp [lob]⟩
      · rw [hll]; simp [lob, ksV, List.map_take]
      · rw [hll]; simp [lob, vsV, List.map_take]
      · intro e
        rw [e] at hll
        simp at hll
        omega
    · refine ⟨⟨⟨_, e0 _ _ 0, ksV_str _, by simp [hib, ksV_len, addE_len]; omega, ?_⟩, ⟨_, e0 _ _ 1, vsV_dat _, by simp [hib, vsV_len, addE_len]; omega, ?_⟩⟩, ?_, by omega, by simp [hib]⟩
      · rw [hhl, List.take_of_length_le (by simp [hib, ksV_len, addE_len])]; simp [hib, ksV, List.map_drop]
      · rw [hhl, List.take_of_length_le (by simp [hib, vsV_len, addE_len])]; simp [hib, vsV, List.map_drop]
      · intro e
        rw [e] at hhl
        simp at hhl
        omega
  · refine List.pairwise_cons.2 ⟨fun x hx _ => ?_, List.pairwise_singleton _ _⟩
    simp only [List.mem_cons, List.not_mem_nil, or_false] at hx
    subst hx
    rw [hll]
    show 0 + hf ≤ hf
    omega
  · rw [hins]
    simp [ents, lob, hib]
end

/-! ### The map -/
structure MapAt (H : List (List V)) (m r : Nat) (bl : List Blk) : Prop where
  top : H[m]? = some [.ref r 0]
  root : RootAt H r bl
theorem RootAt.app {H : List (List V)} {r : Nat} {bl : List Blk} (h : RootAt H r bl) (L : List (List V)) : RootAt (H ++ L) r bl := by
  obtain ⟨bs, h1, h2⟩ := h.root
  exact ⟨⟨bs, getElem?_app h1, h2.app⟩, fun b hb => (h.blk b hb).app, h.good, h.small⟩
theorem MapAt.app {H : List (List V)} {m r : Nat} {bl : List Blk} (h : MapAt H m r bl) (L : List (List V)) : MapAt (H ++ L) m r bl := ⟨getElem?_app h.top, h.root.app L⟩
theorem Frame.app {H : List (List V)} {r : Nat} {bl : List Blk} (h : RootAt H r bl) (L : List (List V)) : Frame H r bl (H ++ L) bl := by
  obtain ⟨bs, h1, h2⟩ := h.root
  refine ⟨by simp, fun o ho _ => List.getElem?_append_left ho, fun o ho => .inl ?_⟩
  rcases ho with h3 | h3 | ⟨n, cap, cnt, h3⟩
  · exact .inl h3
  · exact .inr (.inl h3)
  · rw [getElem?_app h1] at h3
    exact .inr (.inr ⟨n, cap, cnt, by rw [h1]; exact h3⟩)
theorem Frame.trans {H H1 H2 : List (List V)} {r : Nat} {bl bl1 bl2 : List Blk} (h : Frame H r bl H1 bl1) (k : Frame H1 r bl1 H2 bl2) : Frame H r bl H2 bl2 := by
  refine ⟨Nat.le_trans h.len k.len, fun o ho hf => ?_, fun o ho => ?_⟩
  · rw [k.keep o (Nat.lt_of_lt_of_le ho h.len) (fun h1 => by
      rcases h.foot o h1 with h2 | h2
      · exact hf h2
      · omega)]
    exact h.keep o ho hf
  · rcases k.foot o ho with h1 | h1
    · exact h.foot o h1
    · exact .inr (Nat.le_trans h.len h1)
theorem MapAt.top_not {H : List (List V)} {m r : Nat} {bl : List Blk} (h : MapAt H m r bl) : ¬ Foot H r bl m := by
  have ht := h.top
  rintro (rfl | ⟨b, hb, rfl⟩ | hB)
  · obtain ⟨bs, h1, _⟩ := h.root.root
    rw [h1] at ht
    injection ht with ht
    simp at ht
  · obtain ⟨vc, h1, h2, _⟩ := (h.root.blk b hb).vc
    rw [h1] at ht
    injection ht with ht
    subst ht
    exact h2 (.ref r 0) (by simp)
  · obtain ⟨bc, h1, h2⟩ := h.root.isB hB
    rw [h1] at ht
    injection ht with ht
    subst ht
    exact h2 (.ref r 0) (by simp)
theorem MapAt.next {H H' : List (List V)} {m r : Nat} {bl bl' : List Blk} (h : MapAt H m r bl) (hr : RootAt H' r bl') (hf : Frame H r bl H' bl') : MapAt H' m r bl' :=
  ⟨by rw [hf.keep m (List.getElem?_eq_some_iff.1 h.top).1 h.top_not]; exact h.top, hr⟩

/-- What a call that works on a map brings. -/
def MapPost (H : List (List V)) (m r : Nat) (bl : List Blk) (es : List Ent) (x : V) (y : V) (H' : List (List V)) (_ : List (Nat × TypeId)) (_ : Nat) : Prop :=
  y = x ∧ ∃ bl', MapAt H' m r bl' ∧ ents bl' = es ∧ Frame H r bl H' bl'
end Go.VS.S
