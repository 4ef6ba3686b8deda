/- The closures of at. -/
import Derived.Test.YtgjnkppjfbcicaaSvF
namespace Go.VS.S
open Go.Proofs

/-- at$2: keys in object o. -/
theorem at2_ok (H : List (List V)) (c : Nat) (o1 o2 ko koff kn : Nat) (kcap : Option Nat) (key kk : ByteArray) (kc : List V) (j : Nat) (h1 : H[o1]? = some [.osl ko koff kn 1 kcap]) (h2 : H[o2]? = some [.sc (.string key)]) (h3 : H[ko]? = some kc) (hj : j < kn) (hk : kc[koff + j]? = some (.sc (.string kk))) :
    Does X 36 [.sc (.int .i64 j), .ref o1 0, .ref o2 0] H c (.sc (.bool (!slt kk key))) H [] := by
  refine Does.of (ACall.of_awp hP hm Try.func36 rfl rfl (by simp [Try.ntmps36]) (by kernel_rfl) fun hb => ?_)
  simp (dsimp := false) (implicitDefEqProofs := false) only [go_sem, h1, h2, h3]
  refine onDraw_all (by kernel_rfl) ?_
  simp (dsimp := false) (implicitDefEqProofs := false) only [go_sem, h1, h2, h3]
  refine ⟨⟨by omega, by omega⟩, ?_⟩
  simp (dsimp := false) (implicitDefEqProofs := false) only [go_sem, h1, h2, h3, Nat.mul_one, hk]
  exact EndH.same rfl (.sc _)

/-- at$1: the last key of a block. -/
theorem at1_ok (H : List (List V)) (c : Nat) (o1 o2 bl bo boff bn : Nat) (bcap : Option Nat) (cnt : V) (bc : List V) (ko koff kn : Nat) (kcap : Option Nat) (key kk : ByteArray) (kc : List V) (j : Nat) (h1 : H[o1]? = some [.ref bl 0]) (h2 : H[o2]? = some [.sc (.string key)])
    (hbl : H[bl]? = some [.osl bo boff bn 2 bcap, cnt]) (hbo : H[bo]? = some bc) (hj : j < bn) (hbc : bc[boff + j * 2]? = some (.osl ko koff kn 1 kcap)) (h3 : H[ko]? = some kc) (hkn : 0 < kn) (hkn2 : kn ≤ 9223372036854775807) (hk : kc[koff + (kn - 1)]? = some (.sc (.string kk))) :
    Does X 35 [.sc (.int .i64 j), .ref o1 0, .ref o2 0] H c (.sc (.bool (!slt kk key))) H [] := by
  refine Does.of (ACall.of_awp hP hm Try.func35 rfl rfl (by simp [Try.ntmps35]) (by kernel_rfl) fun hb => ?_)
  simp (dsimp := false) (implicitDefEqProofs := false) only [go_sem, h1, h2, h3, hbl, hbo]
  refine ⟨⟨by omega, by omega⟩, ?_⟩
  simp (dsimp := false) (implicitDefEqProofs := false) only [go_sem, h1, h2, h3, hbl, hbo, hbc]
  refine onDraw_all (by kernel_rfl) ?_
  simp (dsimp := false) (implicitDefEqProofs := false) only [go_sem, h1, h2, h3, hbl, hbo, hbc]
  rw [IntWalk.i64_in _ (by omega)]
  have hkt : ((kn : Int) - 1).toNat = kn - 1 := by omega
  refine ⟨⟨by omega, by omega⟩, ?_⟩
  simp (dsimp := false) (implicitDefEqProofs := false) only [go_sem, h1, h2, h3, hkt, Nat.mul_one, hk]
  exact EndH.same rfl (.sc _)
end Go.VS.S
