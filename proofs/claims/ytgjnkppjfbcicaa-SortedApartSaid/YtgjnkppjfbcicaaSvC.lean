/- The data; light. -/
import Derived.Test.YtgjnkppjfbcicaaSvB
namespace Go.VS.S
open Go.Proofs

structure Cell where
  n : Int
  site : Int
  v0 : Int
  v1 : Int
  gone : Bool
  value : ByteArray
  d0 : Int
  d1 : Int
structure Row where
  key : ByteArray
  cells : List Cell
structure Act where
  kind : Int
  row : Row
  til : ByteArray
  n : Int

def Cell.vs (c : Cell) : List V := [.sc (.int .i64 c.n), .sc (.int .i64 c.site), .sc (.int .i64 c.v0), .sc (.int .i64 c.v1), .sc (.bool c.gone), .sc (.string c.value), .sc (.int .i64 c.d0), .sc (.int .i64 c.d1)]
def cellsV (l : List Cell) : List V := l.flatMap Cell.vs
def Row.vs (r : Row) : List V := [.sc (.string r.key), .data r.cells.length 8 (cellsV r.cells) none]
def rowsV (l : List Row) : List V := l.flatMap Row.vs
def Act.vs (a : Act) : List V := [.sc (.int .i64 a.kind), .sc (.string a.row.key), .data a.row.cells.length 8 (cellsV a.row.cells) none, .sc (.string a.til), .sc (.int .i64 a.n)]
def actsV (l : List Act) : List V := l.flatMap Act.vs

theorem flat_cells (l : List Cell) : Flat (cellsV l) := by
  intro x hx
  simp only [cellsV, List.mem_flatMap, Cell.vs] at hx
  obtain ⟨c, _, hx⟩ := hx
  simp only [List.mem_cons, List.not_mem_nil, or_false] at hx
  rcases hx with h | h | h | h | h | h | h | h <;> subst h <;> exact .sc _
theorem bd_row (l : List Cell) : Bd 0 0 (.data l.length 8 (cellsV l) none) := .data (fun τ e => by cases e) (flat_cells l)
theorem flat_acts (l : List Act) : Flat (actsV l) := by
  intro x hx
  simp only [actsV, List.mem_flatMap, Act.vs] at hx
  obtain ⟨c, _, hx⟩ := hx
  simp only [List.mem_cons, List.not_mem_nil, or_false] at hx
  rcases hx with h | h | h | h | h <;> subst h <;> first | exact .sc _ | exact bd_row _

theorem size_le (b : ByteArray) : (0 : Int) ≤ (b.size : Int) := Int.natCast_nonneg _
theorem add_range {a b c : Int} (ha : 0 ≤ a) (hb : 0 ≤ b) (hc : 0 ≤ c) : 0 ≤ add a b c ∧ add a b c ≤ c + 1 := by
  unfold add
  split <;> omega

def lightCells (n : Int) : List Cell → Int
  | [] => n
  | c :: l => if n ≤ 20000 then lightCells (add (add n 10 20000) c.value.size 20000) l else n
def lightActs (n : Int) : List Act → Int
  | [] => n
  | a :: l => if n ≤ 20000 then lightActs (lightCells (add (add (add n 20 20000) a.row.key.size 20000) a.til.size 20000) a.row.cells) l else n

theorem lightCells_range : ∀ (l : List Cell) (n : Int), 0 ≤ n → n ≤ 20001 → 0 ≤ lightCells n l ∧ lightCells n l ≤ 20001
  | [], n, h0, h1 => ⟨h0, h1⟩
  | c :: l, n, h0, h1 => by
    unfold lightCells
    split
    · have a1 := add_range h0 (show (0 : Int) ≤ 10 by omega) (show (0 : Int) ≤ 20000 by omega)
      have a2 := add_range a1.1 (size_le c.value) (show (0 : Int) ≤ 20000 by omega)
      exact lightCells_range l _ a2.1 (by omega)
    · exact ⟨h0, h1⟩

theorem lightCells_stop (l : List Cell) (n : Int) (h : ¬ n ≤ 20000) : lightCells n l = n := by
  cases l with
  | nil => rfl
  | cons c l => simp only [lightCells, if_neg h]
theorem lightActs_stop (l : List Act) (n : Int) (h : ¬ n ≤ 20000) : lightActs n l = n := by
  cases l with
  | nil => rfl
  | cons c l => simp only [lightActs, if_neg h]

theorem add20 (a : Int) (b : Int) (ha : 0 ≤ a) (hb : 0 ≤ b) : Pure X 23 [.sc (.int .i64 a), .sc (.int .i64 b), .sc (.int .i64 20000)] (fun _ => .sc (.int .i64 (add a b 20000))) [] := add_ok a b 20000 ha hb (by omega) (by omega)

theorem light_ok (acts : List Act) (hA : acts.length ≤ 9223372036854775807) (hC : ∀ a ∈ acts, a.row.cells.length ≤ 9223372036854775807) : Pure X 6 [.data acts.length 5 (actsV acts) none] (fun _ => .sc (.bool (decide (lightActs 0 acts ≤ 20000)))) [] := by
  refine Pure.of0 fun H k => ACall.of_awp hP hm Try.func6 rfl rfl (by simp [Try.ntmps6]) (by kernel_rfl) fun hb => ?_
  simp (dsimp := false) (implicitDefEqProofs := false) only [go_sem]
  refine onLoop_inv (α := Nat × Int) (fun a => acts.length - a.1) (fun a => a.1 ≤ acts.length ∧ lightActs 0 acts = lightActs a.2 (acts.drop a.1) ∧ 0 ≤ a.2 ∧ a.2 ≤ 20001)
    (fun a => ⟨[(0, .data acts.length 5 (actsV acts) none), (2, .sc (.bool false)), (3, .sc (.int .i64 a.2)), (4, .sc (.int .i64 a.1))], H, [], k⟩) (0, 0) ⟨by omega, rfl, by omega, by omega⟩ (by simp (dsimp := false) (implicitDefEqProofs := false) only [go_sem]) (.inl (by simp (dsimp := false) (implicitDefEqProofs := false) only [go_sem])) ?_
  rintro ⟨i, n⟩ ⟨hi, hl, h0, h1⟩ _ back
  dsimp only at hi hl h0 h1
  simp (dsimp := false) (implicitDefEqProofs := false) only [go_sem]
  refine ifG_dec (fun h2 => ?_) (fun h2 => ?_)
  · have hi' : i < acts.length := by omega
    obtain ⟨a, ha⟩ : ∃ a, acts[i]? = some a := ⟨_, List.getElem?_eq_getElem hi'⟩
    simp (dsimp := false) (implicitDefEqProofs := false) only [go_sem, h2]
    refine ifG_dec (fun h3 => ?_) (fun h3 => ?_)
    · have hd : (actsV acts).drop (i * 5) = a.vs ++ actsV (acts.drop (i + 1)) := flat_drop Act.vs 5 (fun _ => rfl) acts i a ha
      simp (dsimp := false) (implicitDefEqProofs := false) only [go_sem, h3, hd, Act.vs]
      refine ⟨⟨by omega, by omega⟩, onDraw_all (by kernel_rfl) ?_⟩
      simp (dsimp := false) (implicitDefEqProofs := false) only [go_sem, h3, hd, Act.vs]
      have r1 := add_range h0 (show (0 : Int) ≤ 20 by omega) (show (0 : Int) ≤ 20000 by omega)
      have r2 := add_range r1.1 (size_le a.row.key) (show (0 : Int) ≤ 20000 by omega)
      have r3 := add_range r2.1 (size_le a.til) (show (0 : Int) ≤ 20000 by omega)
      have hca := hC a (List.mem_of_getElem? ha)
      have hstep : lightActs 0 acts = lightActs (lightCells (add (add (add n 20 20000) a.row.key.size 20000) a.til.size 20000) a.row.cells) (acts.drop (i + 1)) := by
        rw [hl, List.drop_eq_getElem_cons hi', show acts[i] = a by rw [List.getElem?_eq_getElem hi'] at ha; exact Option.some.inj ha]
        simp only [lightActs, if_pos h3]
      refine calleeD_pure (add20 n 20 h0 (by omega)) ?_
      simp (dsimp := false) (implicitDefEqProofs := false) only [go_sem]
      refine calleeD_pure (add20 _ _ r1.1 (size_le _)) ?_
      simp (dsimp := false) (implicitDefEqProofs := false) only [go_sem]
      refine calleeD_pure (add20 _ _ r2.1 (size_le _)) ?_
      simp (dsimp := false) (implicitDefEqProofs := false) only [go_sem]
      generalize add (add (add n 20 20000) a.row.key.size 20000) a.til.size 20000 = n1 at *
      refine onLoop_inv (α := Nat × Int) (fun b => a.row.cells.length - b.1) (fun b => b.1 ≤ a.row.cells.length ∧ lightCells n1 a.row.cells = lightCells b.2 (a.row.cells.drop b.1) ∧ 0 ≤ b.2 ∧ b.2 ≤ 20001)
        (fun b => ⟨[(0, .data acts.length 5 (actsV acts) none), (2, .sc (.bool false)), (3, .sc (.int .i64 b.2)), (4, .sc (.int .i64 i)), (5, .ref H.length 0), (6, .sc (.int .i64 b.1))], H ++ [a.vs], [], k⟩) (0, n1) ⟨by omega, rfl, r3.1, r3.2⟩ (by simp (dsimp := false) (implicitDefEqProofs := false) only [go_sem, Act.vs]) (.inl (by simp (dsimp := false) (implicitDefEqProofs := false) only [go_sem])) ?_
      rintro ⟨j, n'⟩ ⟨hj, hlc, k0, k1⟩ hB2 back2
      dsimp only at hj hlc k0 k1
      simp (dsimp := false) (implicitDefEqProofs := false) only [go_sem, Act.vs]
      refine ifG_dec (fun h4 => ?_) (fun h4 => ?_)
      · have hj' : j < a.row.cells.length := by omega
        obtain ⟨c, hc⟩ : ∃ c, a.row.cells[j]? = some c := ⟨_, List.getElem?_eq_getElem hj'⟩
        simp (dsimp := false) (implicitDefEqProofs := false) only [go_sem, h4]
        refine ifG_dec (fun h5 => ?_) (fun h5 => ?_)
        · have hdc : (cellsV a.row.cells).drop (j * 8) = c.vs ++ cellsV (a.row.cells.drop (j + 1)) := flat_drop Cell.vs 8 (fun _ => rfl) a.row.cells j c hc
          have q1 := add_range k0 (show (0 : Int) ≤ 10 by omega) (show (0 : Int) ≤ 20000 by omega)
          have q2 := add_range q1.1 (size_le c.value) (show (0 : Int) ≤ 20000 by omega)
          have hstep2 : lightCells n1 a.row.cells = lightCells (add (add n' 10 20000) c.value.size 20000) (a.row.cells.drop (j + 1)) := by
            rw [hlc, List.drop_eq_getElem_cons hj', show a.row.cells[j] = c by rw [List.getElem?_eq_getElem hj'] at hc; exact Option.some.inj hc]
            simp only [lightCells, if_pos h5]
          simp (dsimp := false) (implicitDefEqProofs := false) only [go_sem, h5, hdc, Cell.vs]
          refine onDraw_all (by kernel_rfl) ?_
          simp (dsimp := false) (implicitDefEqProofs := false) only [go_sem, h5, hdc, Cell.vs]
          refine calleeD_pure (add20 n' 10 k0 (by omega)) ?_
          simp (dsimp := false) (implicitDefEqProofs := false) only [go_sem, hdc, Cell.vs]
          refine ⟨⟨by omega, by omega⟩, ?_⟩
          refine calleeD_pure (add20 _ _ q1.1 (size_le _)) ?_
          simp (dsimp := false) (implicitDefEqProofs := false) only [go_sem]
          rw [IntWalk.i64_in _ (by omega)]
          exact back2 _ (j + 1, add (add n' 10 20000) c.value.size 20000) ⟨by dsimp only; omega, hstep2, q2.1, q2.2⟩ (by dsimp only; omega) (by simp (dsimp := false) (implicitDefEqProofs := false) only [go_sem, Act.vs]) (.inl (by simp (dsimp := false) (implicitDefEqProofs := false) only [go_sem]))
        · simp (dsimp := false) (implicitDefEqProofs := false) only [go_sem, h5]
          rw [IntWalk.i64_in _ (by omega)]
          exact back _ (i + 1, n') ⟨by dsimp only; omega, by rw [hstep, hlc, lightCells_stop _ _ h5], k0, k1⟩ (by dsimp only; omega) (by simp (dsimp := false) (implicitDefEqProofs := false) only [go_sem]) (.back hb rfl (Nat.le_refl _) (by simp (dsimp := false) (implicitDefEqProofs := false) only [go_sem]; exact nr_flat (flat_acts acts)))
      · simp (dsimp := false) (implicitDefEqProofs := false) only [go_sem, h4]
        rw [IntWalk.i64_in _ (by omega)]
        exact back _ (i + 1, n') ⟨by dsimp only; omega, by rw [hstep, hlc, List.drop_eq_nil_of_le (by omega)]; rfl, k0, k1⟩ (by dsimp only; omega) (by simp (dsimp := false) (implicitDefEqProofs := false) only [go_sem]) (.back hb rfl (Nat.le_refl _) (by simp (dsimp := false) (implicitDefEqProofs := false) only [go_sem]; exact nr_flat (flat_acts acts)))
    · simp (dsimp := false) (implicitDefEqProofs := false) only [go_sem, h3]
      rw [hl, lightActs_stop _ _ h3, decide_eq_false h3]
      simp (dsimp := false) (implicitDefEqProofs := false) only [go_sem]
  · simp (dsimp := false) (implicitDefEqProofs := false) only [go_sem, h2]
    rw [hl, List.drop_eq_nil_of_le (by omega)]
    exact .keep (.sc _)
end Go.VS.S
