/- A scan in parts tells what one tells at once. Plain. -/
import Derived.Test.YtgjnkppjfbcicaaSvR
namespace Go.VS.S
open Go.Proofs

def goesOn (u : ByteArray) (e : Ent) : Bool := decide (u = ⟨#[]⟩) || slt e.1 u
theorem scanL_eq (u : ByteArray) (n : Int) : ∀ (l out : List Ent), scanL u n l out = out ++ (l.takeWhile (goesOn u)).take (n - out.length).toNat
  | [], out => by simp [scanL]
  | e :: l, out => by
    rw [scanL]
    by_cases h1 : n ≤ out.length
    · rw [if_pos (.inl h1), show (n - out.length).toNat = 0 by omega]
      simp
    · by_cases h2 : u ≠ ⟨#[]⟩ ∧ slt e.1 u = false
      · have hg : goesOn u e = false := by simp [goesOn, h2.1, h2.2]
        rw [if_pos (.inr h2), List.takeWhile_cons, hg]
        simp
      · have hg : goesOn u e = true := by
          unfold goesOn
          by_cases h3 : u = ⟨#[]⟩
          · simp [h3]
          · cases h4 : slt e.1 u with
            | true => simp
            | false => exact absurd ⟨h3, h4⟩ h2
        rw [if_neg (by rintro (h | h); exact h1 h; exact h2 h), scanL_eq u n l (out ++ [e]), List.takeWhile_cons, hg]
        have h5 : (n - out.length).toNat = (n - (out ++ [e]).length).toNat + 1 := by simp; omega
        rw [h5]
        simp
def wholeE (k u : ByteArray) (l : List Ent) : List Ent := (fromE k l).takeWhile (goesOn u)
theorem scanE_eq (k u : ByteArray) (n : Int) (l : List Ent) : scanE k u n l = (wholeE k u l).take n.toNat := by
  unfold scanE wholeE
  rw [scanL_eq]
  simp

theorem bl_empty : ∀ x : List UInt8, Op.bytesLess x [] = false
  | [] => rfl
  | _ :: _ => rfl
theorem fromE_empty (l : List Ent) : fromE ⟨#[]⟩ l = l := by
  unfold fromE
  rw [List.filter_eq_self]
  intro e _
  have : slt e.1 ⟨#[]⟩ = false := bl_empty _
  simp [this]
theorem bl_succ : ∀ x y : List UInt8, Op.bytesLess x y = true → Op.bytesLess y (x ++ [0]) = false
  | [], [], h => by simp [Op.bytesLess] at h
  | [], b :: y, _ => by
    simp only [List.nil_append, Op.bytesLess, bl_empty, Bool.and_false, Bool.or_false, decide_eq_false_iff_not]
    intro h
    have := UInt8.lt_iff_toNat_lt.1 h
    simp at this
  | _ :: _, [], h => by simp [Op.bytesLess] at h
  | a :: x, b :: y, h => by
    simp only [Op.bytesLess, Bool.or_eq_true, Bool.and_eq_true, decide_eq_true_eq, beq_iff_eq, List.cons_append] at h ⊢
    rcases h with h | ⟨rfl, h⟩
    · have h1 : ¬ b < a := fun k => by
        have h2 := UInt8.lt_iff_toNat_lt.1 h
        have h3 := UInt8.lt_iff_toNat_lt.1 k
        omega
      have h2 : b ≠ a := fun k => by
        subst k
        have h2 := UInt8.lt_iff_toNat_lt.1 h
        omega
      simp [h1, h2]
    · have h1 : ¬ a < a := fun k => by
        have h3 := UInt8.lt_iff_toNat_lt.1 k
        omega
      simp [h1, bl_succ x y h]
theorem bl_snoc : ∀ x : List UInt8, Op.bytesLess x (x ++ [0]) = true
  | [] => rfl
  | a :: x => by simp [Op.bytesLess, bl_snoc x]
def zero1 : ByteArray := ⟨#[0]⟩
theorem app_list (a : ByteArray) : (a ++ zero1).data.toList = a.data.toList ++ [0] := by
  rw [ByteArray.data_append]
  simp [zero1]
theorem slt_succ {a b : ByteArray} (h : slt a b = true) : slt b (a ++ zero1) = false := by
  unfold slt at h ⊢
  rw [app_list]
  exact bl_succ _ _ h
theorem slt_snoc (a : ByteArray) : slt a (a ++ zero1) = true := by
  unfold slt
  rw [app_list]
  exact bl_snoc _

theorem takeWhile_app {α : Type} {p : α → Bool} : ∀ {a : List α} (_ : ∀ x ∈ a, p x = true) (b : List α), (a ++ b).takeWhile p = a ++ b.takeWhile p
  | [], _, _ => rfl
  | x :: a, h, b => by
    rw [List.cons_append, List.takeWhile_cons, h x (by simp), takeWhile_app (fun y hy => h y (by simp [hy]))]
    rfl

theorem takeWhile_all {α : Type} {p : α → Bool} : ∀ {l : List α}, ∀ x ∈ l.takeWhile p, p x = true
  | [], x, h => by simp at h
  | a :: l, x, h => by
    rw [List.takeWhile_cons] at h
    split at h
    · rename_i ha
      rcases List.mem_cons.1 h with rfl | h
      · exact ha
      · exact takeWhile_all x h
    · simp at h

/-- From behind the last key on: the rest. -/
theorem whole_next {l : List Ent} (ho : Ord l) {k u : ByteArray} {x rest : List Ent} {e : Ent} (h : wholeE k u l = (x ++ [e]) ++ rest) : wholeE (e.1 ++ zero1) u l = rest := by
  unfold wholeE at h ⊢
  have hD : ∃ D2, fromE k l = (x ++ [e]) ++ D2 := by
    have h1 : fromE k l = (fromE k l).takeWhile (goesOn u) ++ (fromE k l).dropWhile (goesOn u) := List.takeWhile_append_dropWhile.symm
    rw [h] at h1
    exact ⟨_, by rw [List.append_assoc] at h1; exact h1⟩
  obtain ⟨D2, hD⟩ := hD
  have hoD : Ord (fromE k l) := List.Pairwise.filter _ ho
  have hek : slt e.1 k = false := by
    have : e ∈ fromE k l := by rw [hD]; simp
    unfold fromE at this
    rw [List.mem_filter] at this
    simpa using this.2
  have hkk : slt (e.1 ++ zero1) k = false := by
    cases hs : slt (e.1 ++ zero1) k with
    | false => rfl
    | true => rw [← hek, slt_trans (slt_snoc e.1) hs]
  have hff : fromE (e.1 ++ zero1) l = fromE (e.1 ++ zero1) (fromE k l) := by
    unfold fromE
    rw [List.filter_filter]
    refine List.filter_congr fun y _ => ?_
    cases h1 : slt y.1 (e.1 ++ zero1) with
    | true => simp
    | false =>
      have : slt y.1 k = false := by
        cases h2 : slt y.1 k with
        | false => rfl
        | true =>
          have := slt_le_trans h2 hkk
          rw [h1] at this
          cases this
      simp [this]
  have ho2 := hoD
  rw [hD, ord_app] at ho2
  have hxe := ho2.1
  rw [ord_app] at hxe
  have hlow : fromE (e.1 ++ zero1) (x ++ [e]) = [] := by
    unfold fromE
    rw [List.filter_eq_nil_iff]
    intro y hy
    rcases List.mem_append.1 hy with hy | hy
    · have := slt_trans (hxe.2.2 y hy e (by simp)) (slt_snoc e.1)
      simp [this]
    · simp only [List.mem_cons, List.not_mem_nil, or_false] at hy
      subst hy
      simp [slt_snoc]
  have hhigh : fromE (e.1 ++ zero1) D2 = D2 := by
    unfold fromE
    rw [List.filter_eq_self]
    intro y hy
    have := slt_succ (ho2.2.2 e (by simp) y hy)
    simp [this]
  have happ : ∀ a b : List Ent, fromE (e.1 ++ zero1) (a ++ b) = fromE (e.1 ++ zero1) a ++ fromE (e.1 ++ zero1) b := fun a b => by simp [fromE]
  rw [hff, hD, happ, hlow, hhigh, List.nil_append]
  have hall : ∀ y ∈ x ++ [e], goesOn u y = true := fun y hy => by
    have h1 : y ∈ (fromE k l).takeWhile (goesOn u) := by rw [h]; exact List.mem_append_left _ hy
    exact takeWhile_all y h1
  rw [hD, takeWhile_app hall] at h
  exact List.append_cancel_left h
theorem whole_len {k u : ByteArray} {l : List Ent} : (wholeE k u l).length ≤ l.length :=
  Nat.le_trans (List.takeWhile_sublist _).length_le (List.length_filter_le _ _)
end Go.VS.S
