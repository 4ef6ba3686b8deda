/- What light bounds; the rows of acts. -/
import Derived.Test.YtgjnkppjfbcicaaSvS
namespace Go.VS.S
open Go.Proofs

theorem add_le {a b c : Int} (h : add a b c ≤ c) : add a b c = a + b ∧ a ≤ c := by
  unfold add at h ⊢
  split at h
  · omega
  · rename_i hh
    rw [if_neg hh]
    omega
theorem lightCells_le : ∀ (l : List Cell) (n : Int), 0 ≤ n → lightCells n l ≤ 20000 → n + 10 * l.length ≤ lightCells n l ∧ ∀ c ∈ l, c.value.size ≤ 20000
  | [], n, _, _ => ⟨by simp [lightCells], fun c h => by simp at h⟩
  | c :: l, n, h0, h => by
    by_cases hn : n ≤ 20000
    · have e : lightCells n (c :: l) = lightCells (add (add n 10 20000) c.value.size 20000) l := by rw [lightCells, if_pos hn]
      rw [e] at h ⊢
      have a1 := add_range h0 (show (0 : Int) ≤ 10 by omega) (show (0 : Int) ≤ 20000 by omega)
      have a2 := add_range a1.1 (size_le c.value) (show (0 : Int) ≤ 20000 by omega)
      obtain ⟨i1, i2⟩ := lightCells_le l _ a2.1 h
      have b1 := add_le (a := add n 10 20000) (b := c.value.size) (c := 20000) (by omega)
      have b2 := add_le (a := n) (b := 10) (c := 20000) (by omega)
      refine ⟨by simp only [List.length_cons]; omega, fun x hx => ?_⟩
      rcases List.mem_cons.1 hx with rfl | hx
      · omega
      · exact i2 x hx
    · rw [lightCells_stop _ _ hn] at h
      omega
structure ActOk (a : Act) : Prop where
  key : a.row.key.size ≤ 20000
  til : a.til.size ≤ 20000
  cells : a.row.cells.length ≤ 20000
  vals : ∀ c ∈ a.row.cells, c.value.size ≤ 20000
theorem lightActs_le : ∀ (l : List Act) (n : Int), 0 ≤ n → lightActs n l ≤ 20000 → n + 20 * l.length ≤ 20000 ∧ ∀ a ∈ l, ActOk a
  | [], n, _, h => ⟨by simpa [lightActs] using h, fun c h => by simp at h⟩
  | a :: l, n, h0, h => by
    by_cases hn : n ≤ 20000
    · have e : lightActs n (a :: l) = lightActs (lightCells (add (add (add n 20 20000) a.row.key.size 20000) a.til.size 20000) a.row.cells) l := by rw [lightActs, if_pos hn]
      rw [e] at h
      have a1 := add_range h0 (show (0 : Int) ≤ 20 by omega) (show (0 : Int) ≤ 20000 by omega)
      have a2 := add_range a1.1 (size_le a.row.key) (show (0 : Int) ≤ 20000 by omega)
      have a3 := add_range a2.1 (size_le a.til) (show (0 : Int) ≤ 20000 by omega)
      have a4 := lightCells_range a.row.cells _ a3.1 (by omega)
      obtain ⟨i1, i2⟩ := lightActs_le l _ a4.1 h
      obtain ⟨c1, c2⟩ := lightCells_le a.row.cells _ a3.1 (by omega)
      have b1 := add_le (a := add (add n 20 20000) a.row.key.size 20000) (b := a.til.size) (c := 20000) (by omega)
      have b2 := add_le (a := add n 20 20000) (b := a.row.key.size) (c := 20000) (by omega)
      have b3 := add_le (a := n) (b := 20) (c := 20000) (by omega)
      refine ⟨by simp only [List.length_cons]; omega, fun x hx => ?_⟩
      rcases List.mem_cons.1 hx with rfl | hx
      · exact ⟨by omega, by omega, by omega, c2⟩
      · exact i2 x hx
    · rw [lightActs_stop _ _ hn] at h
      omega

def rowCells (a : Act) : List Cell := if a.kind = 4 then [⟨0, 0, 0, 0, false, a.til, 0, 0⟩] else a.row.cells
theorem row_any (a : Act) (hn : a.row.cells.length ≤ 1000000) : Pure X 10 [.agg a.vs] (fun c => .agg [.sc (.string a.row.key), .data (rowCells a).length 8 (cellsV (rowCells a)) (some c)]) [57] := by
  by_cases hk : a.kind = 4
  · have h := row4_ok a.row.key a.row.cells.length (cellsV a.row.cells) a.til a.n hn (flat_cells _)
    unfold rowCells
    rw [if_pos hk]
    unfold Act.vs
    rw [hk]
    exact h
  · have h := row_ok a.kind a.row.key a.row.cells.length (cellsV a.row.cells) a.til a.n hn (flat_cells _) hk
    unfold rowCells
    rw [if_neg hk]
    exact h
def actE (es : List Ent) (a : Act) : List Ent := setEnts a.row.key (rowCells a) es
/-- Bounds on what a map holds. -/
structure EntsOk (n : Nat) (es : List Ent) : Prop where
  len : es.length ≤ n
  ent : ∀ e ∈ es, e.1.size ≤ 20000 ∧ e.2.length ≤ 20000
theorem rowCells_len {a : Act} (h : ActOk a) : (rowCells a).length ≤ 20000 := by
  unfold rowCells
  split
  · simp
  · exact h.cells
theorem EntsOk.act {n : Nat} {es : List Ent} {a : Act} (h : EntsOk n es) (ha : ActOk a) : EntsOk (n + 1) (actE es a) := by
  unfold actE setEnts
  split
  · exact ⟨by have := h.len; omega, h.ent⟩
  · refine ⟨by have := h.len; have := len_insE (k := a.row.key) (v := rowCells a) (l := es); omega, fun e he => ?_⟩
    rcases mem_insE he with rfl | he
    · exact ⟨ha.key, rowCells_len ha⟩
    · exact h.ent e he

theorem all_same (l : List Row) : allSame l l = true := by
  have hc : ∀ c : Cell, cellSame c c = true := fun c => by simp [cellSame]
  have hl : ∀ l : List Cell, listSame cellSame l l = true := fun l => by
    induction l with
    | nil => rfl
    | cons c l ih => simp [listSame, hc, ih]
  have hr : ∀ r : Row, rowSame r r = true := fun r => by simp [rowSame, hl]
  have hrs : ∀ l : List Row, listSame rowSame l l = true := fun l => by
    induction l with
    | nil => rfl
    | cons c l ih => simp [listSame, hr, ih]
  simp [allSame, hrs]
end Go.VS.S
