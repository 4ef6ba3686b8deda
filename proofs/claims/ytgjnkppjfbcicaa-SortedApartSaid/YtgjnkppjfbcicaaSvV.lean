/- The arguments of the laws, read. -/
import Derived.Test.YtgjnkppjfbcicaaSvU
import Derived.Test.YtgjnkppjfbcicaaGvX
namespace Go.VS.S
open Go.Proofs

def stampSh : Sh := .cons (.int .i64) (.cons (.int .i64) .nil)
def vecSh : Sh := Sh.rep 2 (.int .i64)
def cellSh : Sh := .cons stampSh (.cons vecSh (.cons .bool (.cons .str (.cons vecSh .nil))))
def rowSh : Sh := .cons .str (.cons (.slice cellSh) .nil)
def actSh : Sh := .cons (.int .i64) (.cons rowSh (.cons .str (.cons (.int .i64) .nil)))

theorem cells_of {t : TypeId} {ti : TI} (h : tabOf Try.prog t = some ti) : Try.prog.cellsOf t = ti.size := (tabOk Try.prog).cellsOf h
theorem sh3 : ShOk Try.prog 3 (.int .i64) := .int Try.underlying3
theorem sh53 : ShOk Try.prog 53 stampSh := .struct Try.underlying53 (.cons rfl sh3 (cells_of T3) (.cons rfl sh3 (cells_of T3) .nil)) (cells_of T53)
theorem sh55 : ShOk Try.prog 55 vecSh := .array Try.underlying55 sh3 (cells_of T3) (cells_of T55)
theorem sh4 : ShOk Try.prog 4 .bool := .bool Try.underlying4
theorem sh9 : ShOk Try.prog 9 .str := .str Try.underlying9
theorem sh57 : ShOk Try.prog 57 cellSh := .struct Try.underlying57 (.cons rfl sh53 (cells_of T53) (.cons rfl sh55 (cells_of T55) (.cons rfl sh4 (cells_of T4) (.cons rfl sh9 (cells_of T9) (.cons rfl sh55 (cells_of T55) .nil))))) (cells_of T57)
theorem sh27 : ShOk Try.prog 27 (.slice cellSh) := .slice Try.underlying27 sh57 (cells_of T57) (by decide)
theorem sh29 : ShOk Try.prog 29 rowSh := .struct Try.underlying29 (.cons rfl sh9 (cells_of T9) (.cons rfl sh27 (cells_of T27) .nil)) (cells_of T29)
theorem sh31 : ShOk Try.prog 31 actSh := .struct Try.underlying31 (.cons rfl sh3 (cells_of T3) (.cons rfl sh29 (cells_of T29) (.cons rfl sh9 (cells_of T9) (.cons rfl sh3 (cells_of T3) .nil)))) (cells_of T31)
theorem sh22 : ShOk Try.prog 22 (.slice actSh) := .slice Try.underlying22 sh31 (cells_of T31) (by decide)

theorem all_of {α : Type} {f : α → List V} {q : α → Prop} : ∀ {bs : List (List V)}, (∀ b ∈ bs, ∃ a, b = f a ∧ q a) → ∃ ms : List α, bs = ms.map f ∧ ∀ a ∈ ms, q a
  | [], _ => ⟨[], rfl, fun a h => by simp at h⟩
  | b :: bs, h => by
    obtain ⟨a, hb, ha⟩ := h b (by simp)
    obtain ⟨ms, hbs, hs⟩ := all_of fun x hx => h x (List.mem_cons_of_mem _ hx)
    exact ⟨a :: ms, by rw [hb, hbs]; rfl, fun x hx => by
      rcases List.mem_cons.1 hx with rfl | hx
      · exact ha
      · exact hs x hx⟩
theorem cell_of {b : List V} (h : Typed cellSh b) : ∃ c : Cell, b = c.vs ∧ True := by
  obtain ⟨_, _, rfl, ⟨_, _, rfl, ⟨n, rfl, _⟩, ⟨_, _, rfl, ⟨s, rfl, _⟩, rfl⟩⟩, ⟨_, _, rfl, ⟨_, _, rfl, ⟨v0, rfl, _⟩, ⟨_, _, rfl, ⟨v1, rfl, _⟩, rfl⟩⟩, ⟨_, _, rfl, ⟨g, rfl⟩, ⟨_, _, rfl, ⟨v, rfl, _⟩, ⟨_, _, rfl, ⟨_, _, rfl, ⟨d0, rfl, _⟩, ⟨_, _, rfl, ⟨d1, rfl, _⟩, rfl⟩⟩, rfl⟩⟩⟩⟩⟩ := h
  exact ⟨⟨n, s, v0, v1, g, v, d0, d1⟩, rfl, trivial⟩
theorem cells_list {b : List V} (h : Typed (.slice cellSh) b) : ∃ l : List Cell, b = [.data l.length 8 (cellsV l) none] ∧ l.length ≤ maxLen := by
  obtain ⟨bs, rfl, hb, hl⟩ := h
  obtain ⟨ms, rfl, _⟩ := all_of fun x hx => cell_of (hb x hx)
  refine ⟨ms, ?_, by simpa using hl⟩
  rw [List.length_map, ← List.flatMap_def]
  rfl
theorem row_of {b : List V} (h : Typed rowSh b) : ∃ r : Row, b = r.vs ∧ r.cells.length ≤ maxLen ∧ r.key.size ≤ maxLen := by
  obtain ⟨_, _, rfl, ⟨k, rfl, hk⟩, ⟨_, _, rfl, hc, rfl⟩⟩ := h
  obtain ⟨l, rfl, hl⟩ := cells_list hc
  exact ⟨⟨k, l⟩, rfl, hl, hk⟩
theorem act_of {b : List V} (h : Typed actSh b) : ∃ a : Act, b = a.vs ∧ a.row.cells.length ≤ maxLen := by
  obtain ⟨_, _, rfl, ⟨kd, rfl, _⟩, ⟨_, _, rfl, hr, ⟨_, _, rfl, ⟨u, rfl, _⟩, ⟨_, _, rfl, ⟨n, rfl, _⟩, rfl⟩⟩⟩⟩ := h
  obtain ⟨r, rfl, hl, _⟩ := row_of hr
  exact ⟨⟨kd, r, u, n⟩, rfl, hl⟩
theorem acts_of {b : List V} (h : Typed (.slice actSh) b) : ∃ l : List Act, b = [.data l.length 5 (actsV l) none] ∧ l.length ≤ maxLen ∧ ∀ a ∈ l, a.row.cells.length ≤ maxLen := by
  obtain ⟨bs, rfl, hb, hl⟩ := h
  obtain ⟨ms, rfl, ha⟩ := all_of fun x hx => act_of (hb x hx)
  refine ⟨ms, ?_, by simpa using hl, ha⟩
  rw [List.length_map, ← List.flatMap_def]
  rfl

/-- One argument. -/
theorem arg_of {H : Type} {enc : TypeId × Value → H} {W : World} {t : TypeId} {s : Sh} {v : Value} {d : DataW H} {p : List MemPlace} (hs : ShOk Try.prog t s) (h1 : s.size = 1) (ha : v.cells = #[v]) (h : DataW.Trod enc Try.prog W 0 (fun _ => true) true t v d p) :
    ∃ x, Typed s [x] ∧ Rel (Env.start Try.prog W) x v := by
  obtain ⟨fuel, hf⟩ := h
  rw [ha] at hf
  obtain ⟨vs, ht, hr, _, _⟩ := trod_typed (E := Env.start Try.prog W) (Env.start_I Try.prog W) fuel t s _ _ hs hf
  have hl := hr.1
  match vs, hl with
  | [x], _ => exact ⟨x, ht, hr.2 0 x v rfl rfl⟩

theorem one_slice {W : World} {r : Reach} {base : Nat} {t e : TypeId} {v : Value} (ht : Try.prog.underlying t = some (.slice e)) (h : Value.okWide Try.prog W r base t v) : v.cells = #[v] := by
  cases v <;> simp [Value.okWide, Cell.okWide, Cell.ok, ht] at h <;> rfl
theorem one_string {W : World} {r : Reach} {base : Nat} {t : TypeId} {v : Value} (ht : Try.prog.underlying t = some .string) (h : Value.okWide Try.prog W r base t v) : v.cells = #[v] := by
  cases v <;> simp [Value.okWide, Cell.okWide, Cell.ok, ht] at h <;> rfl
theorem one_int {W : World} {r : Reach} {base : Nat} {t : TypeId} {k : IntKind} {v : Value} (ht : Try.prog.underlying t = some (.int k)) (h : Value.okWide Try.prog W r base t v) : v.cells = #[v] := by
  cases v <;> simp [Value.okWide, Cell.okWide, Cell.ok, ht] at h <;> rfl
theorem no_globs (W : World) : GlobOk X.G (Env.start X.P W) := fun g cs h => by cases h
end Go.VS.S
