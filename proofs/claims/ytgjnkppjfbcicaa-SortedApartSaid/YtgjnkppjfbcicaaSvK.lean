/- The order of keys; lists in order. Plain: no program. -/
import Derived.Test.YtgjnkppjfbcicaaSvJ
namespace Go.VS.S
open Go.Proofs

theorem bl_irrefl : ∀ x : List UInt8, Op.bytesLess x x = false
  | [] => rfl
  | a :: x => by rw [Op.bytesLess, bl_irrefl x]; simp
theorem bl_trans : ∀ x y z : List UInt8, Op.bytesLess x y = true → Op.bytesLess y z = true → Op.bytesLess x z = true
  | [], [], _, h, _ => by simp [Op.bytesLess] at h
  | [], _ :: _, [], _, h => by simp [Op.bytesLess] at h
  | [], _ :: _, _ :: _, _, _ => by simp [Op.bytesLess]
  | _ :: _, [], _, h, _ => by simp [Op.bytesLess] at h
  | _ :: _, _ :: _, [], _, h => by simp [Op.bytesLess] at h
  | a :: x, b :: y, c :: z, h, k => by
    simp only [Op.bytesLess, Bool.or_eq_true, Bool.and_eq_true, decide_eq_true_eq, beq_iff_eq] at h k ⊢
    rcases h with h | ⟨rfl, h⟩ <;> rcases k with k | ⟨rfl, k⟩
    · exact .inl (UInt8.lt_trans h k)
    · exact .inl h
    · exact .inl k
    · exact .inr ⟨rfl, bl_trans x y z h k⟩
theorem bl_total : ∀ x y : List UInt8, Op.bytesLess x y = true ∨ x = y ∨ Op.bytesLess y x = true
  | [], [] => .inr (.inl rfl)
  | [], _ :: _ => .inl (by simp [Op.bytesLess])
  | _ :: _, [] => .inr (.inr (by simp [Op.bytesLess]))
  | a :: x, b :: y => by
    simp only [Op.bytesLess, Bool.or_eq_true, Bool.and_eq_true, decide_eq_true_eq, beq_iff_eq]
    rcases Nat.lt_trichotomy a.toNat b.toNat with h | h | h
    · exact .inl (.inl (UInt8.lt_iff_toNat_lt.2 h))
    · have hab : a = b := UInt8.toNat_inj.1 h
      subst hab
      rcases bl_total x y with h | rfl | h
      · exact .inl (.inr ⟨rfl, h⟩)
      · exact .inr (.inl rfl)
      · exact .inr (.inr (.inr ⟨rfl, h⟩))
    · exact .inr (.inr (.inl (UInt8.lt_iff_toNat_lt.2 h)))

theorem slt_irrefl (a : ByteArray) : slt a a = false := bl_irrefl _
theorem slt_trans {a b c : ByteArray} : slt a b = true → slt b c = true → slt a c = true := bl_trans _ _ _
theorem slt_total (a b : ByteArray) : slt a b = true ∨ a = b ∨ slt b a = true := by
  rcases bl_total a.data.toList b.data.toList with h | h | h
  · exact .inl h
  · refine .inr (.inl ?_)
    obtain ⟨⟨a⟩⟩ := a
    obtain ⟨⟨b⟩⟩ := b
    simp at h
    subst h
    rfl
  · exact .inr (.inr h)
theorem slt_asymm {a b : ByteArray} (h : slt a b = true) : slt b a = false := by
  cases hb : slt b a with
  | false => rfl
  | true => rw [← slt_irrefl a, slt_trans h hb]
theorem slt_le_trans {a b c : ByteArray} (h : slt a b = true) (k : slt c b = false) : slt a c = true := by
  rcases slt_total b c with h1 | rfl | h1
  · exact slt_trans h h1
  · exact h
  · rw [h1] at k; cases k
theorem le_slt_trans {a b c : ByteArray} (h : slt b a = false) (k : slt b c = true) : slt a c = true := by
  rcases slt_total a b with h1 | rfl | h1
  · exact slt_trans h1 k
  · exact k
  · rw [h1] at h; cases h

/-- In order, each key once. -/
def Ord (l : List Ent) : Prop := l.Pairwise fun a b => slt a.1 b.1 = true

/-- Put under a key. -/
def insE (k : ByteArray) (v : List Cell) : List Ent → List Ent
  | [] => [(k, v)]
  | e :: l => if slt e.1 k then e :: insE k v l else if e.1 = k then (k, v) :: l else (k, v) :: e :: l
/-- Take away a key. -/
def delE (k : ByteArray) (l : List Ent) : List Ent := l.filter fun e => !decide (e.1 = k)
def getE (k : ByteArray) (l : List Ent) : Option (List Cell) := (l.find? fun e => decide (e.1 = k)).map (·.2)

theorem insE_app {k : ByteArray} {v : List Cell} : ∀ {A : List Ent} (_ : ∀ e ∈ A, slt e.1 k = true) (B : List Ent), insE k v (A ++ B) = A ++ insE k v B
  | [], _, _ => rfl
  | a :: A, h, B => by
    rw [List.cons_append, insE, if_pos (h a (by simp)), insE_app (fun e he => h e (by simp [he])) B]
    rfl
theorem insE_hit {k : ByteArray} {v : List Cell} {e : Ent} {B : List Ent} (h : e.1 = k) : insE k v (e :: B) = (k, v) :: B := by
  subst h
  rw [insE, slt_irrefl]
  simp
theorem insE_miss {k : ByteArray} {v : List Cell} {e : Ent} {B : List Ent} (h : slt e.1 k = false) (h2 : e.1 ≠ k) : insE k v (e :: B) = (k, v) :: e :: B := by
  rw [insE, h]
  simp [h2]
theorem mem_insE {k : ByteArray} {v : List Cell} : ∀ {l : List Ent} {x : Ent}, x ∈ insE k v l → x = (k, v) ∨ x ∈ l
  | [], x, h => by simp [insE] at h; exact .inl h
  | e :: l, x, h => by
    rw [insE] at h
    split at h
    · rcases List.mem_cons.1 h with h | h
      · exact .inr (by simp [h])
      · rcases mem_insE h with h | h
        · exact .inl h
        · exact .inr (by simp [h])
    · split at h
      · rcases List.mem_cons.1 h with h | h
        · exact .inl h
        · exact .inr (by simp [h])
      · rcases List.mem_cons.1 h with h | h
        · exact .inl h
        · exact .inr h
theorem ord_insE {k : ByteArray} {v : List Cell} : ∀ {l : List Ent}, Ord l → Ord (insE k v l)
  | [], _ => List.pairwise_singleton _ _
  | e :: l, h => by
    have h1 := List.pairwise_cons.1 h
    rw [insE]
    split
    · rename_i hlt
      refine List.pairwise_cons.2 ⟨fun x hx => ?_, ord_insE h1.2⟩
      rcases mem_insE hx with rfl | hx
      · exact hlt
      · exact h1.1 x hx
    · split
      · rename_i heq
        exact List.pairwise_cons.2 ⟨fun x hx => heq ▸ h1.1 x hx, h1.2⟩
      · rename_i hn hne
        have hke : slt k e.1 = true := by
          rcases slt_total e.1 k with h2 | h2 | h2
          · exact absurd h2 hn
          · exact absurd h2 hne
          · exact h2
        refine List.pairwise_cons.2 ⟨fun x hx => ?_, h⟩
        rcases List.mem_cons.1 hx with rfl | hx
        · exact hke
        · exact slt_trans hke (h1.1 x hx)
theorem len_insE {k : ByteArray} {v : List Cell} : ∀ {l : List Ent}, (insE k v l).length ≤ l.length + 1
  | [] => by simp [insE]
  | e :: l => by
    rw [insE]
    split
    · have := len_insE (k := k) (v := v) (l := l); simp; omega
    · split <;> simp

theorem ord_mono {l : List Ent} (h : Ord l) (key : ByteArray) : Mono l fun e => !slt e.1 key := by
  refine h.imp fun {a b} hab ha => ?_
  simp only [Bool.not_eq_true'] at ha ⊢
  cases hb : slt b.1 key with
  | false => rfl
  | true => rw [← ha, slt_trans hab hb]

/-- All entries of a list of blocks. -/
def ents (bl : List Blk) : List Ent := bl.flatMap Blk.es
theorem ord_app {A B : List Ent} : Ord (A ++ B) ↔ Ord A ∧ Ord B ∧ ∀ a ∈ A, ∀ b ∈ B, slt a.1 b.1 = true := List.pairwise_append
theorem ents_split {bl : List Blk} {i : Nat} {b : Blk} (h : bl[i]? = some b) : bl = bl.take i ++ b :: bl.drop (i + 1) ∧ ents bl = ents (bl.take i) ++ (b.es ++ ents (bl.drop (i + 1))) := by
  obtain ⟨hi, rfl⟩ := List.getElem?_eq_some_iff.1 h
  have h1 : bl = bl.take i ++ bl[i] :: bl.drop (i + 1) := by
    rw [← List.drop_eq_getElem_cons hi, List.take_append_drop]
  refine ⟨h1, (congrArg ents h1).trans ?_⟩
  simp only [ents, List.flatMap_append, List.flatMap_cons]
theorem lastKey_mem {b : Blk} (hne : b.es ≠ []) : ∃ e ∈ b.es, lastKey b = e.1 := by
  obtain ⟨e, he, h⟩ := last_get hne
  exact ⟨e, List.mem_of_getElem? he, h⟩
theorem last_max {b : Blk} (hne : b.es ≠ []) (ho : Ord b.es) : ∀ e ∈ b.es, slt (lastKey b) e.1 = false := by
  intro e he
  obtain ⟨x, hx, h⟩ := last_get hne
  obtain ⟨j, hj⟩ := List.getElem?_of_mem he
  obtain ⟨hj1, rfl⟩ := List.getElem?_eq_some_iff.1 hj
  obtain ⟨hx1, rfl⟩ := List.getElem?_eq_some_iff.1 hx
  rw [h]
  by_cases hjl : j = b.es.length - 1
  · subst hjl; exact slt_irrefl _
  · exact slt_asymm (List.pairwise_iff_getElem.1 ho j (b.es.length - 1) hj1 hx1 (by omega))
theorem blocks_mono {bl : List Blk} (hne : ∀ b ∈ bl, b.es ≠ []) (ho : Ord (ents bl)) (key : ByteArray) : Mono bl fun b => !slt (lastKey b) key := by
  refine List.pairwise_iff_getElem.2 fun i j hi hj hij ha => ?_
  have hbi : bl[i]? = some bl[i] := List.getElem?_eq_getElem hi
  obtain ⟨_, h2⟩ := ents_split hbi
  rw [h2, ord_app] at ho
  obtain ⟨_, ho2, _⟩ := ho
  obtain ⟨_, _, ho3⟩ := ord_app.1 ho2
  obtain ⟨e, he, hle⟩ := lastKey_mem (hne bl[i] (List.getElem_mem hi))
  obtain ⟨e', he', hle'⟩ := lastKey_mem (hne bl[j] (List.getElem_mem hj))
  have h3 : slt e.1 e'.1 = true := ho3 e he e' (by
    simp only [ents, List.mem_flatMap]
    refine ⟨bl[j], ?_, he'⟩
    have : (bl.drop (i + 1))[j - (i + 1)]? = some bl[j] := by
      rw [List.getElem?_drop, show i + 1 + (j - (i + 1)) = j by omega]; exact List.getElem?_eq_getElem hj
    exact List.mem_of_getElem? this)
  simp only [hle, hle', Bool.not_eq_true'] at ha ⊢
  cases hb : slt e'.1 key with
  | false => rfl
  | true => rw [← ha, slt_trans h3 hb]
theorem ord_blk {bl : List Blk} (ho : Ord (ents bl)) {b : Blk} (hb : b ∈ bl) : Ord b.es := by
  obtain ⟨i, hi⟩ := List.getElem?_of_mem hb
  obtain ⟨_, h2⟩ := ents_split hi
  rw [h2, ord_app] at ho
  exact (ord_app.1 ho.2.1).1
/-- Whoever stands ahead of the block that is found is ahead of the key. -/
theorem ahead {bl : List Blk} (hne : ∀ b ∈ bl, b.es ≠ []) (ho : Ord (ents bl)) (key : ByteArray) {i : Nat} (hi : i ≤ atI bl key) : ∀ e ∈ ents (bl.take i), slt e.1 key = true := by
  intro e he
  simp only [ents, List.mem_flatMap] at he
  obtain ⟨b, hb, heb⟩ := he
  obtain ⟨k, hk⟩ := List.getElem?_of_mem hb
  rw [List.getElem?_take] at hk
  split at hk
  · rename_i hki
    have hbm := List.mem_of_getElem? hk
    have hlt := (blocks_mono hne ho key).find k b hk
    simp only [show decide (List.findIdx (fun b => !slt (lastKey b) key) bl ≤ k) = false from decide_eq_false (by have : atI bl key = List.findIdx (fun b => !slt (lastKey b) key) bl := rfl; omega), Bool.not_eq_false'] at hlt
    exact le_slt_trans (last_max (hne b hbm) (ord_blk ho hbm) e heb) hlt
  · cases hk
theorem ahead_in {b : Blk} (ho : Ord b.es) (key : ByteArray) : ∀ e ∈ b.es.take (atJ b key), slt e.1 key = true := by
  intro e he
  obtain ⟨k, hk⟩ := List.getElem?_of_mem he
  rw [List.getElem?_take] at hk
  split at hk
  · rename_i hki
    have hlt := (ord_mono ho key).find k e hk
    simp only [show decide (List.findIdx (fun e => !slt e.1 key) b.es ≤ k) = false from decide_eq_false (by have : atJ b key = List.findIdx (fun e => !slt e.1 key) b.es := rfl; omega), Bool.not_eq_false'] at hlt
    exact hlt
  · cases hk
end Go.VS.S
