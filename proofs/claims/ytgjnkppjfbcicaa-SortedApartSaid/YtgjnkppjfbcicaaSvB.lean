/- The context; the first contracts. -/
import Derived.Test.YtgjnkppjfbcicaaSvQ
import Derived.Test.YtgjnkppjfbcicaaGvU
namespace Go.VS.S
open Go.Proofs

/-- Slices whose rows are objects: keys, values and blocks of a map. -/
def mt (t : TypeId) : Bool := t == 58 || t == 60 || t == 70 || t == 1000031 || t == 1000032 || t == 1000033 || t == 2000058 || t == 2000070
noncomputable def X : Ctx := ⟨Try.prog, tabOf Try.prog, Q, fun _ => none, mt⟩

theorem hP : ProgOk X.P X.T X.Q := ⟨tabOk _, eqOk⟩
theorem hm : X.P.follows .mixedOrders = true := by kernel_rfl

def add (n m most : Int) : Int := if n > most ∨ m > most ∨ n > most - m then most + 1 else n + m

@[go_sem] theorem X_T : X.T = tabOf Try.prog := rfl
@[go_sem] theorem X_Q : X.Q = Q := rfl
attribute [go_sem] Q53 Q55
@[go_sem] theorem X_G : X.G = fun _ => none := rfl
@[go_sem] theorem X_mt {t : TypeId} : X.mt t = (t == 58 || t == 60 || t == 70 || t == 1000031 || t == 1000032 || t == 1000033 || t == 2000058 || t == 2000070) := rfl
attribute [go_sem] Nat.reduceBEq Bool.or_true Bool.or_false Bool.true_or Bool.false_or
attribute [go_sem] T2 T3 T4 T5 T9 T22 T25 T27 T28 T29 T30 T31 T32 T35 T36 T52 T53 T54 T55 T56 T57 T58 T59 T60 T61 T62 T63 T64 T70 T71 T72 T74

theorem add_ok (a b c : Int) (ha : 0 ≤ a) (hb : 0 ≤ b) (hc : 0 ≤ c) (hc' : c < 1000000) : Pure X 23 [.sc (.int .i64 a), .sc (.int .i64 b), .sc (.int .i64 c)] (fun _ => .sc (.int .i64 (add a b c))) [] := by
  refine Pure.of0 fun H k => ACall.of_awp hP hm Try.func23 rfl rfl (by simp [Try.ntmps23]) (by kernel_rfl) fun _ => ?_
  simp (dsimp := false) (implicitDefEqProofs := false) only [go_sem]
  refine ifG_dec (fun h1 => ?_) (fun h1 => ?_)
  · simp (dsimp := false) (implicitDefEqProofs := false) only [go_sem, h1]
    rw [IntWalk.i64_in _ (by omega), show add a b c = c + 1 from if_pos (.inl h1)]
    simp (dsimp := false) (implicitDefEqProofs := false) only [go_sem]
  · simp (dsimp := false) (implicitDefEqProofs := false) only [go_sem, h1]
    refine ifG_dec (fun h2 => ?_) (fun h2 => ?_)
    · simp (dsimp := false) (implicitDefEqProofs := false) only [go_sem, h2]
      rw [IntWalk.i64_in _ (by omega), show add a b c = c + 1 from if_pos (.inr (.inl h2))]
      simp (dsimp := false) (implicitDefEqProofs := false) only [go_sem]
    · simp (dsimp := false) (implicitDefEqProofs := false) only [go_sem, h2]
      rw [IntWalk.i64_in (c - b) (by omega)]
      refine ifG_dec (fun h3 => ?_) (fun h3 => ?_)
      · simp (dsimp := false) (implicitDefEqProofs := false) only [go_sem, h3]
        rw [IntWalk.i64_in _ (by omega), show add a b c = c + 1 from if_pos (.inr (.inr h3))]
        simp (dsimp := false) (implicitDefEqProofs := false) only [go_sem]
      · simp (dsimp := false) (implicitDefEqProofs := false) only [go_sem, h3]
        rw [IntWalk.i64_in _ (by omega), show add a b c = a + b from if_neg (by omega)]
        simp (dsimp := false) (implicitDefEqProofs := false) only [go_sem]

theorem cells_ok (n : Nat) (cs : List V) (hn : n ≤ 1000000) (hf : Flat cs) : Pure X 26 [.data n 8 cs none] (fun c => .data n 8 cs (some c)) [57] := by
  refine Pure.of1 fun H k => ACall.of_awp hP hm Try.func26 rfl rfl (by simp [Try.ntmps26]) (by kernel_rfl) fun _ => ?_
  simp (dsimp := false) (implicitDefEqProofs := false) only [go_sem]
  exact ⟨⟨by omega, by omega⟩, k + 1, .inl rfl, .dataO hf.keep (renTok_one _ _)⟩

theorem copy_ok (key : ByteArray) (n : Nat) (cs : List V) (hn : n ≤ 1000000) (hf : Flat cs) : Pure X 27 [.agg [.sc (.string key), .data n 8 cs none]] (fun c => .agg [.sc (.string key), .data n 8 cs (some c)]) [57] := by
  refine Pure.of1 fun H k => ACall.of_awp hP hm Try.func27 rfl rfl (by simp [Try.ntmps27]) (by kernel_rfl) fun _ => ?_
  simp (dsimp := false) (implicitDefEqProofs := false) only [go_sem]
  exact ⟨⟨by omega, by omega⟩, k, rfl, .aggL (.cons (.keep (by simp)) (.cons (.dataO hf.keep (renTok_one _ _)) (.nil _ _ _)))⟩

theorem none_ok (o : Nat) (H : List (List V)) (r c : Nat) (ho : H[o]? = some [.ref r 0]) : Does X 24 [.ref o 0] H c (.sc (.bool false)) H [] := by
  refine Does.of (ACall.of_awp hP hm Try.func24 rfl rfl (by simp [Try.ntmps24]) (by kernel_rfl) fun _ => ?_)
  simp (dsimp := false) (implicitDefEqProofs := false) only [go_sem, ho]
  exact ⟨rfl, Nat.le_refl _, [], rfl, fun i τ e h => by simp at h, List.nodup_nil, .keep (by simp), fun o ho => .inl ⟨rfl, rfl⟩⟩

theorem row_ok (kind : Int) (key : ByteArray) (n : Nat) (cs : List V) (u : ByteArray) (m : Int) (hn : n ≤ 1000000) (hf : Flat cs) (hk : kind ≠ 4) :
    Pure X 10 [.agg [.sc (.int .i64 kind), .sc (.string key), .data n 8 cs none, .sc (.string u), .sc (.int .i64 m)]] (fun c => .agg [.sc (.string key), .data n 8 cs (some c)]) [57] := by
  refine Pure.of1 fun H k => ACall.of_awp hP hm Try.func10 rfl rfl (by simp [Try.ntmps10]) (by kernel_rfl) fun _ => ?_
  simp (dsimp := false) (implicitDefEqProofs := false) only [go_sem]
  refine awpCall_pure (copy_ok key n cs hn hf) ?_
  simp (dsimp := false) (implicitDefEqProofs := false) only [go_sem, hk]
  exact ⟨k, rfl, .aggL (.cons (.keep (by simp)) (.cons (.dataO hf.keep (renTok_one _ _)) (.nil _ _ _)))⟩
end Go.VS.S
