/- Lists of rows compared. -/
import Derived.Test.YtgjnkppjfbcicaaSvD
namespace Go.VS.S
open Go.Proofs

def allSame (l m : List Row) : Bool := decide (l.length = m.length) && listSame rowSame l m

theorem flat_rows (l : List Row) : Flat (rowsV l) := by
  intro x hx
  simp only [rowsV, List.mem_flatMap, Row.vs] at hx
  obtain ⟨c, _, hx⟩ := hx
  simp only [List.mem_cons, List.not_mem_nil, or_false] at hx
  rcases hx with h | h <;> subst h <;> first | exact .sc _ | exact bd_row _

theorem all_ok (a b : List Row) (hA : a.length ≤ 9223372036854775807) (hB : b.length ≤ 9223372036854775807) (hca : ∀ r ∈ a, r.cells.length ≤ 9223372036854775807) (hcb : ∀ r ∈ b, r.cells.length ≤ 9223372036854775807) :
    Pure X 12 [.data a.length 2 (rowsV a) none, .data b.length 2 (rowsV b) none] (fun _ => .sc (.bool (allSame a b))) [] := by
  refine Pure.of0 fun H k => ACall.of_awp hP hm Try.func12 rfl rfl (by simp [Try.ntmps12]) (by kernel_rfl) fun hb => ?_
  have hnr : ∀ cs ∈ H, ∀ x ∈ cs, NR H.length x := fun cs hcs x hx => (hb cs hcs x hx).nr
  simp (dsimp := false) (implicitDefEqProofs := false) only [go_sem]
  refine ifG_dec (fun h2 => ?_) (fun h2 => ?_)
  · simp (dsimp := false) (implicitDefEqProofs := false) only [go_sem, h2]
    rw [show allSame a b = false by simp only [allSame, decide_eq_false (show ¬ a.length = b.length by omega), Bool.false_and]]
    simp (dsimp := false) (implicitDefEqProofs := false) only [go_sem]
  · have hle : a.length = b.length := by omega
    have hres : allSame a b = listSame rowSame a b := by simp only [allSame, decide_eq_true hle, Bool.true_and]
    simp (dsimp := false) (implicitDefEqProofs := false) only [go_sem, h2]
    refine onLoop_inv (α := Nat) (fun i => a.length - i) (fun i => i ≤ a.length ∧ allSame a b = listSame rowSame (a.drop i) (b.drop i))
      (fun i => ⟨[(0, .data a.length 2 (rowsV a) none), (1, .data b.length 2 (rowsV b) none), (4, .sc (.bool false)), (5, .sc (.int .i64 i))], H, [], k⟩) 0 ⟨by omega, hres⟩ (by simp (dsimp := false) (implicitDefEqProofs := false) only [go_sem]) (.inl (by simp (dsimp := false) (implicitDefEqProofs := false) only [go_sem])) ?_
    rintro i ⟨hi, hl⟩ _ back
    simp (dsimp := false) (implicitDefEqProofs := false) only [go_sem]
    refine ifG_dec (fun h3 => ?_) (fun h3 => ?_)
    · have hi' : i < a.length := by omega
      have hi2 : i < b.length := by omega
      have hda := flat_drop Row.vs 2 (fun _ => rfl) a i _ (List.getElem?_eq_getElem hi')
      have hdb := flat_drop Row.vs 2 (fun _ => rfl) b i _ (List.getElem?_eq_getElem hi2)
      have hstep : allSame a b = (rowSame a[i] b[i] && listSame rowSame (a.drop (i + 1)) (b.drop (i + 1))) := by
        rw [hl, List.drop_eq_getElem_cons hi', List.drop_eq_getElem_cons hi2]
        rfl
      have hra := hca a[i] (List.getElem_mem hi')
      have hrb := hcb b[i] (List.getElem_mem hi2)
      generalize a[i] = ra at *
      generalize b[i] = rb at *
      simp (dsimp := false) (implicitDefEqProofs := false) only [go_sem, h3]
      refine onDraw_all (by kernel_rfl) ?_
      simp (dsimp := false) (implicitDefEqProofs := false) only [go_sem, h3]
      refine ⟨by omega, ?_⟩
      rw [show rowsV a = a.flatMap Row.vs from rfl, show rowsV b = b.flatMap Row.vs from rfl]
      simp (dsimp := false) (implicitDefEqProofs := false) only [go_sem, hda, Row.vs]
      refine ⟨⟨by omega, by omega⟩, ?_⟩
      simp (dsimp := false) (implicitDefEqProofs := false) only [go_sem, hdb, Row.vs]
      refine calleeD_pure (same_row ra rb hra hrb) ?_
      simp (dsimp := false) (implicitDefEqProofs := false) only [go_sem]
      cases hcs : rowSame ra rb with
      | false =>
        simp (dsimp := false) (implicitDefEqProofs := false) only [go_sem, hcs]
        rw [hstep, hcs, Bool.false_and]
        simp (dsimp := false) (implicitDefEqProofs := false) only [go_sem]
      | true =>
        simp (dsimp := false) (implicitDefEqProofs := false) only [go_sem, hcs]
        rw [IntWalk.i64_in _ (by omega)]
        exact back _ (i + 1) ⟨by omega, by rw [hstep, hcs, Bool.true_and]⟩ (by omega) (by simp (dsimp := false) (implicitDefEqProofs := false) only [go_sem, rowsV]) (.inl (by simp (dsimp := false) (implicitDefEqProofs := false) only [go_sem]))
    · simp (dsimp := false) (implicitDefEqProofs := false) only [go_sem, h3]
      rw [hl, List.drop_eq_nil_of_le (by omega)]
      exact .keep (.sc _)
end Go.VS.S
