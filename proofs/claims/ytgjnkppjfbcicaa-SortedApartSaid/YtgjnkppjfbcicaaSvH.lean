/- insert. -/
import Derived.Test.YtgjnkppjfbcicaaSvG
import Derived.Test.YtgjnkppjfbcicaaGvV
namespace Go.VS.S
open Go.Proofs

/-- What insert does: a list of its own, the old objects as they were. -/
def InsP (H : List (List V)) (c n sz : Nat) (cs : List V) (r : V) (H' : List (List V)) (lv : List (Nat × TypeId)) (c' : Nat) : Prop :=
  ∃ o cap L, r = .osl o 0 n sz cap ∧ H' = H ++ L ∧ H.length ≤ o ∧ H'[o]? = some cs ∧ lv = [] ∧ c' = c

theorem InsP.does {f : FuncId} {xs : List V} {H : List (List V)} {c n sz : Nat} {cs : List V} (h : ACall X f xs H c (InsP H c n sz cs)) (hn : ∀ x ∈ cs, NR H.length x) : Does X f xs H c (.osl H.length 0 n sz none) (H ++ [cs]) [] := ACall.newobj h hn

theorem insert31 (H : List (List V)) (c : Nat) (ko koff kn : Nat) (kcap : Option Nat) (kc : List V) (i : Nat) (x : ByteArray) (h3 : H[ko]? = some kc) (hi : i ≤ kn) (hkn : kn ≤ 1000000) (hoff : koff + kn ≤ kc.length) :
    ACall X 31 [.osl ko koff kn 1 kcap, .sc (.int .i64 i), .sc (.string x)] H c (InsP H c (kn + 1) 1 ((kc.drop koff).take i ++ [.sc (.string x)] ++ (kc.drop (koff + i)).take (kn - i))) := by
  have hko : ko < H.length := (List.getElem?_eq_some_iff.1 h3).1
  have h3' : ∀ L : List (List V), (H ++ L)[ko]? = some kc := fun L => by rw [List.getElem?_append_left hko]; exact h3
  refine (ACall.of_awp hP hm Try.func31 rfl rfl (by simp [Try.ntmps31]) (by kernel_rfl) fun hb => ?_)
  simp (dsimp := false) (implicitDefEqProofs := false) only [go_sem, h3]
  refine ⟨by omega, appOut_osl (h3' _) rfl (by simp; omega) (by simp) (fun _ => by simp; omega) (fun _ h => ?_) (fun _ h => ?_)⟩
  · have := h _ rfl
    omega
  · simp (dsimp := false) (implicitDefEqProofs := false) only [go_sem, h3', Nat.mul_one]
    rw [if_pos (by omega)]
    refine ⟨by omega, ?_⟩
    simp (dsimp := false) (implicitDefEqProofs := false) only [go_sem, Nat.mul_one]
    generalize hds : List.take (kn - i) (List.drop (koff + i) kc) = ds
    have hdl : ds.length = kn - i := by rw [← hds]; simp; omega
    have hsm : i + (1 + (kn - i)) = kn + 1 := by omega
    have hbl : ((kc.drop koff).take i).length = i := by simp; omega
    have hbd : ∀ d : List V, ((kc.drop koff).take i ++ [V.sc (.string x)]).take (i + 1) ++ d = (kc.drop koff).take i ++ V.sc (.string x) :: d := fun d => by rw [List.take_of_length_le (by simp [hbl])]; simp
    refine appOut_osl (by simp (dsimp := false) (implicitDefEqProofs := false) only [go_sem]; rfl) rfl ?_ (fun h0 => ?_) (fun _ => ?_) (fun h0 _ => ?_) (fun h0 _ => ?_)
    · simp; omega
    · simp (dsimp := false) (implicitDefEqProofs := false) only [go_sem]
      have : ds = [] := List.eq_nil_of_length_eq_zero (by omega)
      subst this
      exact ⟨_, _, _, by rw [show kn = i by omega], rfl, by omega, by simp (dsimp := false) (implicitDefEqProofs := false) only [go_sem], rfl, rfl⟩
    · omega
    · simp (dsimp := false) (implicitDefEqProofs := false) only [go_sem]
      exact ⟨_, _, _, by rw [hsm], rfl, by omega, by simp (dsimp := false) (implicitDefEqProofs := false) only [go_sem]; simp [hbl, hdl, hbd], rfl, rfl⟩
    · simp (dsimp := false) (implicitDefEqProofs := false) only [go_sem]
      exact ⟨_, _, _, by rw [hsm], rfl, by omega, by simp (dsimp := false) (implicitDefEqProofs := false) only [go_sem]; simp [hbl, hdl, hbd], rfl, rfl⟩
theorem insert32 (H : List (List V)) (c : Nat) (ko koff kn : Nat) (kcap : Option Nat) (kc : List V) (i : Nat) (m : Nat) (xs : List V) (h3 : H[ko]? = some kc) (hi : i ≤ kn) (hkn : kn ≤ 1000000) (hoff : koff + kn ≤ kc.length) :
    ACall X 32 [.osl ko koff kn 1 kcap, .sc (.int .i64 i), V.data m 8 xs none] H c (InsP H c (kn + 1) 1 ((kc.drop koff).take i ++ [V.data m 8 xs none] ++ (kc.drop (koff + i)).take (kn - i))) := by
  have hko : ko < H.length := (List.getElem?_eq_some_iff.1 h3).1
  have h3' : ∀ L : List (List V), (H ++ L)[ko]? = some kc := fun L => by rw [List.getElem?_append_left hko]; exact h3
  refine (ACall.of_awp hP hm Try.func32 rfl rfl (by simp [Try.ntmps32]) (by kernel_rfl) fun hb => ?_)
  simp (dsimp := false) (implicitDefEqProofs := false) only [go_sem, h3]
  refine ⟨by omega, appOut_osl (h3' _) rfl (by simp; omega) (by simp) (fun _ => by simp; omega) (fun _ h => ?_) (fun _ h => ?_)⟩
  · have := h _ rfl
    omega
  · simp (dsimp := false) (implicitDefEqProofs := false) only [go_sem, h3', Nat.mul_one]
    rw [if_pos (by omega)]
    refine ⟨by omega, ?_⟩
    simp (dsimp := false) (implicitDefEqProofs := false) only [go_sem, Nat.mul_one]
    generalize hds : List.take (kn - i) (List.drop (koff + i) kc) = ds
    have hdl : ds.length = kn - i := by rw [← hds]; simp; omega
    have hsm : i + (1 + (kn - i)) = kn + 1 := by omega
    have hbl : ((kc.drop koff).take i).length = i := by simp; omega
    have hbd : ∀ d : List V, ((kc.drop koff).take i ++ [V.data m 8 xs none]).take (i + 1) ++ d = (kc.drop koff).take i ++ V.data m 8 xs none :: d := fun d => by rw [List.take_of_length_le (by simp [hbl])]; simp
    refine appOut_osl (by simp (dsimp := false) (implicitDefEqProofs := false) only [go_sem]; rfl) rfl ?_ (fun h0 => ?_) (fun _ => ?_) (fun h0 _ => ?_) (fun h0 _ => ?_)
    · simp; omega
    · simp (dsimp := false) (implicitDefEqProofs := false) only [go_sem]
      have : ds = [] := List.eq_nil_of_length_eq_zero (by omega)
      subst this
      exact ⟨_, _, _, by rw [show kn = i by omega], rfl, by omega, by simp (dsimp := false) (implicitDefEqProofs := false) only [go_sem], rfl, rfl⟩
    · omega
    · simp (dsimp := false) (implicitDefEqProofs := false) only [go_sem]
      exact ⟨_, _, _, by rw [hsm], rfl, by omega, by simp (dsimp := false) (implicitDefEqProofs := false) only [go_sem]; simp [hbl, hdl, hbd], rfl, rfl⟩
    · simp (dsimp := false) (implicitDefEqProofs := false) only [go_sem]
      exact ⟨_, _, _, by rw [hsm], rfl, by omega, by simp (dsimp := false) (implicitDefEqProofs := false) only [go_sem]; simp [hbl, hdl, hbd], rfl, rfl⟩

theorem insert33 (H : List (List V)) (c : Nat) (ko koff kn : Nat) (kcap : Option Nat) (kc : List V) (i : Nat) (x y : V) (h3 : H[ko]? = some kc) (hi : i ≤ kn) (hkn : kn ≤ 1000000) (hoff : koff + kn * 2 ≤ kc.length) :
    ACall X 33 [.osl ko koff kn 2 kcap, .sc (.int .i64 i), .agg [x, y]] H c (InsP H c (kn + 1) 2 ((kc.drop koff).take (i * 2) ++ [x, y] ++ (kc.drop (koff + i * 2)).take ((kn - i) * 2))) := by
  have hko : ko < H.length := (List.getElem?_eq_some_iff.1 h3).1
  have h3' : ∀ L : List (List V), (H ++ L)[ko]? = some kc := fun L => by rw [List.getElem?_append_left hko]; exact h3
  refine (ACall.of_awp hP hm Try.func33 rfl rfl (by simp [Try.ntmps33]) (by kernel_rfl) fun hb => ?_)
  simp (dsimp := false) (implicitDefEqProofs := false) only [go_sem, h3']
  refine onDraw_all (by kernel_rfl) ?_
  simp (dsimp := false) (implicitDefEqProofs := false) only [go_sem, h3']
  refine ⟨?_, appOutD_moved (h3' _) rfl (by omega) (by omega) (by omega) (by omega) ?_⟩
  · omega
  simp (dsimp := false) (implicitDefEqProofs := false) only [go_sem, h3']
  rw [if_pos (by omega)]
  refine ⟨by omega, ?_⟩
  simp (dsimp := false) (implicitDefEqProofs := false) only [go_sem]
  generalize hds : List.take ((kn - i) * 2) (List.drop (koff + i * 2) kc) = ds
  have hdl : ds.length = (kn - i) * 2 := by rw [← hds]; simp; omega
  have hsm : i + (1 + (kn - i)) = kn + 1 := by omega
  have hbl : ((kc.drop koff).take (i * 2)).length = i * 2 := by simp; omega
  have hbd : ∀ d : List V, ((kc.drop koff).take (i * 2) ++ [x, y]).take ((i + 1) * 2) ++ d = (kc.drop koff).take (i * 2) ++ x :: y :: d := fun d => by rw [List.take_of_length_le (by simp [hbl]; omega)]; simp
  refine appOut_osl (by simp (dsimp := false) (implicitDefEqProofs := false) only [go_sem]; rfl) rfl ?_ (fun h0 => ?_) (fun _ => ?_) (fun h0 _ => ?_) (fun h0 _ => ?_)
  · simp; omega
  · simp (dsimp := false) (implicitDefEqProofs := false) only [go_sem]
    have : ds = [] := List.eq_nil_of_length_eq_zero (by omega)
    subst this
    exact ⟨_, _, _, by rw [show kn = i by omega], rfl, by omega, by simp (dsimp := false) (implicitDefEqProofs := false) only [go_sem], rfl, rfl⟩
  · omega
  · simp (dsimp := false) (implicitDefEqProofs := false) only [go_sem]
    exact ⟨_, _, _, by rw [hsm], rfl, by omega, (by simp (dsimp := false) (implicitDefEqProofs := false) only [go_sem]; simp [hbl, hdl, hbd]; try omega), rfl, rfl⟩
  · simp (dsimp := false) (implicitDefEqProofs := false) only [go_sem]
    exact ⟨_, _, _, by rw [hsm], rfl, by omega, (by simp (dsimp := false) (implicitDefEqProofs := false) only [go_sem]; simp [hbl, hdl, hbd]; try omega), rfl, rfl⟩
end Go.VS.S
