/- sort.Search. -/
import Derived.Test.YtgjnkppjfbcicaaSvE
namespace Go.VS.S
open Go.Proofs

theorem EndH.same {H : List (List V)} {c : Nat} {r : V} {H' : List (List V)} {lv : List (Nat × TypeId)} {c' : Nat} (hH : H' = H) (hr : Bd H.length c r) : EndH H c r H [] r H' lv c' := by
  subst hH
  exact ⟨rfl, Nat.le_refl _, [], rfl, fun i τ e h => by simp at h, List.nodup_nil, .keep hr, fun o ho => .inl ⟨rfl, rfl⟩⟩

theorem search_ok (n : Nat) (hn : n ≤ 4611686018427387904) (g : FuncId) (caps : List V) (H : List (List V)) (c : Nat) (f : Nat → Bool) (r : Nat) (hr : r ≤ n) (hlo : ∀ x, x < r → f x = false) (hhi : ∀ x, r ≤ x → x < n → f x = true)
    (hcaps : ∀ x ∈ caps, NR H.length x) (hg : ∀ i, i < n → Does X g ([.sc (.int .i64 i)] ++ caps) H c (.sc (.bool (f i))) H []) :
    Does X 34 [.sc (.int .i64 n), .clo g caps] H c (.sc (.int .i64 r)) H [] := by
  refine Does.of (ACall.of_awp hP hm Try.func34 rfl rfl (by simp [Try.ntmps34]) (by kernel_rfl) fun hb => ?_)
  have hnr : ∀ cs ∈ H, ∀ x ∈ cs, NR H.length x := fun cs hcs x hx => (hb cs hcs x hx).nr
  simp (dsimp := false) (implicitDefEqProofs := false) only [go_sem]
  refine onLoop_inv (α := Nat × Nat) (fun a => a.2 - a.1) (fun a => a.1 ≤ r ∧ r ≤ a.2 ∧ a.2 ≤ n)
    (fun a => ⟨[(1, .clo g caps), (5, .sc (.int .i64 a.1)), (6, .sc (.int .i64 a.2))], H, [], c⟩) (0, n) ⟨by omega, hr, Nat.le_refl _⟩ (by simp (dsimp := false) (implicitDefEqProofs := false) only [go_sem]) (.inl (by simp (dsimp := false) (implicitDefEqProofs := false) only [go_sem])) ?_
  rintro ⟨i, j⟩ ⟨hi, hj, hjn⟩ _ back
  dsimp only at hi hj hjn
  simp (dsimp := false) (implicitDefEqProofs := false) only [go_sem]
  refine ifG_dec (fun h => ?_) (fun h => ?_)
  · simp (dsimp := false) (implicitDefEqProofs := false) only [go_sem, h]
    have hmid : IntKind.i64.wrap ((IntKind.u64.wrap (IntKind.i64.wrap ((i : Int) + j))).fdiv (2 ^ min 1 64)) = (((i + j) / 2 : Nat) : Int) := by
      rw [IntWalk.i64_in ((i : Int) + j) (by omega), IntKind.wrap_u64, show (2 : Int) ^ min 1 64 = 2 from rfl, Int.emod_eq_of_lt (by omega) (by omega), Int.fdiv_eq_ediv_of_nonneg _ (by omega), IntWalk.i64_in (((i : Int) + j) / 2) (by omega)]
      omega
    rw [hmid]
    have h1 : i ≤ (i + j) / 2 := by omega
    have h2 : (i + j) / 2 < j := by omega
    generalize (i + j) / 2 = md at *
    refine awpCall_does (hg md (by omega)) rfl rfl ?_
    simp (dsimp := false) (implicitDefEqProofs := false) only [go_sem]
    cases hf : f md with
    | false =>
      simp (dsimp := false) (implicitDefEqProofs := false) only [go_sem, hf]
      rw [IntWalk.i64_in ((md : Int) + 1) (by omega)]
      have hlt : md < r := by
        rcases Nat.lt_or_ge md r with h | h
        · exact h
        · rw [hhi md h (by omega)] at hf; cases hf
      exact back _ (md + 1, j) ⟨hlt, hj, hjn⟩ (by dsimp only; omega) (by simp (dsimp := false) (implicitDefEqProofs := false) only [go_sem]) (.inl (by simp (dsimp := false) (implicitDefEqProofs := false) only [go_sem]))
    | true =>
      simp (dsimp := false) (implicitDefEqProofs := false) only [go_sem, hf]
      have hge : r ≤ md := by
        rcases Nat.lt_or_ge md r with h | h
        · rw [hlo md h] at hf; cases hf
        · exact h
      exact back _ (i, md) ⟨hi, hge, by dsimp only; omega⟩ (by dsimp only; omega) (by simp (dsimp := false) (implicitDefEqProofs := false) only [go_sem]) (.inl (by simp (dsimp := false) (implicitDefEqProofs := false) only [go_sem]))
  · simp (dsimp := false) (implicitDefEqProofs := false) only [go_sem, h]
    have : i = r := by omega
    subst this
    exact EndH.same rfl (.sc _)
end Go.VS.S
