/- New. -/
import Derived.Test.YtgjnkppjfbcicaaSvG
import Derived.Test.YtgjnkppjfbcicaaGvV
namespace Go.VS.S
open Go.Proofs

theorem new_ok (H : List (List V)) (c : Nat) : ACall X 8 [] H c (fun r H' lv c' => r = .ref (H.length + 1) 0 ∧ H' = H ++ [[.sc (.slice none 0 0), .sc (.int .i64 0)], [.ref H.length 0]] ∧ lv = [] ∧ c' = c) := by
  refine (ACall.of_awp hP hm Try.func8 rfl rfl (by simp [Try.ntmps8]) (by kernel_rfl) fun hb => ?_)
  simp (dsimp := false) (implicitDefEqProofs := false) only [go_sem]

/-- An act's row, when it is of the fourth kind. -/
theorem row4_ok (key : ByteArray) (n : Nat) (cs : List V) (u : ByteArray) (m : Int) (hn : n ≤ 1000000) (hf : Flat cs) :
    Pure X 10 [.agg [.sc (.int .i64 4), .sc (.string key), .data n 8 cs none, .sc (.string u), .sc (.int .i64 m)]] (fun c => .agg [.sc (.string key), .data 1 8 (Cell.vs ⟨0, 0, 0, 0, false, u, 0, 0⟩) (some c)]) [57] := by
  refine Pure.of1 fun H k => ACall.of_awp hP hm Try.func10 rfl rfl (by simp [Try.ntmps10]) (by kernel_rfl) fun _ => ?_
  simp (dsimp := false) (implicitDefEqProofs := false) only [go_sem]
  refine awpCall_pure (copy_ok key n cs hn hf) ?_
  simp (dsimp := false) (implicitDefEqProofs := false) only [go_sem]
  exact ⟨k + 1, .inl rfl, .aggL (.cons (.keep (by simp)) (.cons (.dataO (Flat.keep (flat_cells [⟨0, 0, 0, 0, false, u, 0, 0⟩])) (renTok_one _ _)) (.nil _ _ _)))⟩
end Go.VS.S
