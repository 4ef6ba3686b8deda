/- Cells and rows compared. -/
import Derived.Test.YtgjnkppjfbcicaaSvC
namespace Go.VS.S
open Go.Proofs

def cellSame (a b : Cell) : Bool := (decide (a.n = b.n) && decide (a.site = b.site)) && ((decide (a.v0 = b.v0) && decide (a.v1 = b.v1)) && (decide (a.gone = b.gone) && (decide (a.value = b.value) && (decide (a.d0 = b.d0) && decide (a.d1 = b.d1)))))

theorem same_cell (a b : Cell) : Pure X 30 [.agg a.vs, .agg b.vs] (fun _ => .sc (.bool (cellSame a b))) [] := by
  refine Pure.of0 fun H k => ACall.of_awp hP hm Try.func30 rfl rfl (by simp [Try.ntmps30]) (by kernel_rfl) fun hb => ?_
  simp (dsimp := false) (implicitDefEqProofs := false) only [go_sem, Cell.vs]
  refine ⟨fun h => ?_, fun h => ?_⟩
  · simp (dsimp := false) (implicitDefEqProofs := false) only [go_sem, h]
    refine ⟨fun h2 => ?_, fun h2 => ?_⟩
    · simp (dsimp := false) (implicitDefEqProofs := false) only [go_sem, h2]
      refine ⟨fun h3 => ?_, fun h3 => ?_⟩
      · simp (dsimp := false) (implicitDefEqProofs := false) only [go_sem, h3]
        refine ⟨fun h4 => ?_, fun h4 => ?_⟩
        · simp (dsimp := false) (implicitDefEqProofs := false) only [go_sem, h4]
          rw [show cellSame a b = (decide (a.d0 = b.d0) && decide (a.d1 = b.d1)) by simp only [cellSame, h, h2, h3, h4, Bool.true_and]]
          simp (dsimp := false) (implicitDefEqProofs := false) only [go_sem]
        · simp (dsimp := false) (implicitDefEqProofs := false) only [go_sem, h4]
          rw [show cellSame a b = false by simp only [cellSame, h, h2, h3, h4, Bool.true_and, Bool.false_and]]
          simp (dsimp := false) (implicitDefEqProofs := false) only [go_sem]
      · simp (dsimp := false) (implicitDefEqProofs := false) only [go_sem, h3]
        rw [show cellSame a b = false by simp only [cellSame, h, h2, h3, Bool.true_and, Bool.false_and]]
        simp (dsimp := false) (implicitDefEqProofs := false) only [go_sem]
    · simp (dsimp := false) (implicitDefEqProofs := false) only [go_sem, h2]
      rw [show cellSame a b = false by simp only [cellSame, h, h2, Bool.true_and, Bool.false_and]]
      simp (dsimp := false) (implicitDefEqProofs := false) only [go_sem]
  · simp (dsimp := false) (implicitDefEqProofs := false) only [go_sem, h]
    rw [show cellSame a b = false by simp only [cellSame, h, Bool.false_and]]
    simp (dsimp := false) (implicitDefEqProofs := false) only [go_sem]

def listSame {α : Type} (f : α → α → Bool) : List α → List α → Bool
  | x :: xs, y :: ys => f x y && listSame f xs ys
  | _, _ => true
def rowSame (a b : Row) : Bool := decide (a.key = b.key) && (decide (a.cells.length = b.cells.length) && listSame cellSame a.cells b.cells)

theorem same_row (a b : Row) (hA : a.cells.length ≤ 9223372036854775807) (hB : b.cells.length ≤ 9223372036854775807) : Pure X 19 [.agg a.vs, .agg b.vs] (fun _ => .sc (.bool (rowSame a b))) [] := by
  refine Pure.of0 fun H k => ACall.of_awp hP hm Try.func19 rfl rfl (by simp [Try.ntmps19]) (by kernel_rfl) fun hb => ?_
  simp (dsimp := false) (implicitDefEqProofs := false) only [go_sem, Row.vs]
  refine ifG_dec (fun h => ?_) (fun h => ?_)
  · simp (dsimp := false) (implicitDefEqProofs := false) only [go_sem, h]
    rw [show rowSame a b = false by simp only [rowSame, decide_eq_false h, Bool.false_and]]
    simp (dsimp := false) (implicitDefEqProofs := false) only [go_sem]
  · simp (dsimp := false) (implicitDefEqProofs := false) only [go_sem, h]
    refine ifG_dec (fun h2 => ?_) (fun h2 => ?_)
    · simp (dsimp := false) (implicitDefEqProofs := false) only [go_sem, h2]
      rw [show rowSame a b = false by simp only [rowSame, decide_eq_false (show ¬ a.cells.length = b.cells.length by omega), Bool.false_and, Bool.and_false]]
      simp (dsimp := false) (implicitDefEqProofs := false) only [go_sem]
    · have hle : a.cells.length = b.cells.length := by omega
      have hres : rowSame a b = listSame cellSame a.cells b.cells := by simp only [rowSame, decide_eq_true (Decidable.not_not.1 h), decide_eq_true hle, Bool.true_and]
      simp (dsimp := false) (implicitDefEqProofs := false) only [go_sem, h2]
      refine onLoop_inv (α := Nat) (fun i => a.cells.length - i) (fun i => i ≤ a.cells.length ∧ rowSame a b = listSame cellSame (a.cells.drop i) (b.cells.drop i))
        (fun i => ⟨[(2, .ref H.length 0), (3, .ref (H.length + 1) 0), (4, .sc (.bool false)), (5, .sc (.int .i64 i))], H ++ [a.vs, b.vs], [], k⟩) 0 ⟨by omega, hres⟩ (by simp (dsimp := false) (implicitDefEqProofs := false) only [go_sem, Row.vs]) (.inl (by simp (dsimp := false) (implicitDefEqProofs := false) only [go_sem])) ?_
      rintro i ⟨hi, hl⟩ _ back
      simp (dsimp := false) (implicitDefEqProofs := false) only [go_sem, Row.vs]
      refine ifG_dec (fun h3 => ?_) (fun h3 => ?_)
      · have hi' : i < a.cells.length := by omega
        have hi2 : i < b.cells.length := by omega
        have hda := flat_drop Cell.vs 8 (fun _ => rfl) a.cells i _ (List.getElem?_eq_getElem hi')
        have hdb := flat_drop Cell.vs 8 (fun _ => rfl) b.cells i _ (List.getElem?_eq_getElem hi2)
        have hstep : rowSame a b = (cellSame a.cells[i] b.cells[i] && listSame cellSame (a.cells.drop (i + 1)) (b.cells.drop (i + 1))) := by
          rw [hl, List.drop_eq_getElem_cons hi', List.drop_eq_getElem_cons hi2]
          rfl
        generalize a.cells[i] = ca at *
        generalize b.cells[i] = cb at *
        simp (dsimp := false) (implicitDefEqProofs := false) only [go_sem, h3]
        refine onDraw_all (by kernel_rfl) ?_
        simp (dsimp := false) (implicitDefEqProofs := false) only [go_sem, h3]
        refine ⟨by omega, ?_⟩
        rw [show cellsV a.cells = a.cells.flatMap Cell.vs from rfl, show cellsV b.cells = b.cells.flatMap Cell.vs from rfl]
        simp (dsimp := false) (implicitDefEqProofs := false) only [go_sem, hda, Cell.vs]
        refine ⟨⟨by omega, by omega⟩, ?_⟩
        simp (dsimp := false) (implicitDefEqProofs := false) only [go_sem, hdb, Cell.vs]
        refine calleeD_pure (same_cell ca cb) ?_
        simp (dsimp := false) (implicitDefEqProofs := false) only [go_sem]
        cases hcs : cellSame ca cb with
        | false =>
          simp (dsimp := false) (implicitDefEqProofs := false) only [go_sem, hcs]
          rw [hstep, hcs, Bool.false_and]
          simp (dsimp := false) (implicitDefEqProofs := false) only [go_sem]
        | true =>
          simp (dsimp := false) (implicitDefEqProofs := false) only [go_sem, hcs]
          rw [IntWalk.i64_in _ (by omega)]
          exact back _ (i + 1) ⟨by omega, by rw [hstep, hcs, Bool.true_and]⟩ (by omega) (by simp (dsimp := false) (implicitDefEqProofs := false) only [go_sem, Row.vs, cellsV]) (.inl (by simp (dsimp := false) (implicitDefEqProofs := false) only [go_sem]))
      · simp (dsimp := false) (implicitDefEqProofs := false) only [go_sem, h3]
        rw [hl, List.drop_eq_nil_of_le (by omega)]
        exact .keep (.sc _)
end Go.VS.S
