/- How stamps and vectors are compared. -/
import Derived.Test.YtgjnkppjfbcicaaSvA
import Derived.Laws.StructEq
import Derived.ChangeKeysEq
namespace Go.VS.S
open Go.Proofs

theorem eqs_cons {k : IntKind} {ks : List Ty} {us vs : List Value} {r : Bool} (h : eqs (.int k :: ks) us vs = some r) : ∃ a c us' vs' r', us = .int k a :: us' ∧ vs = .int k c :: vs' ∧ eqs ks us' vs' = some r' ∧ r = (decide (a = c) && r') := by
  cases us with
  | nil => simp [eqs] at h
  | cons u us =>
    cases vs with
    | nil => cases u <;> simp [eqs] at h
    | cons v vs =>
      cases u <;> try (simp [eqs] at h; done)
      cases v <;> try (simp [eqs] at h; done)
      rename_i k1 a k2 c
      simp only [eqs] at h
      split at h <;> try cases h
      rename_i hh
      obtain ⟨rfl, rfl⟩ := hh
      simp only [Option.map_eq_some_iff] at h
      obtain ⟨r', h, rfl⟩ := h
      exact ⟨a, c, us, vs, r', rfl, rfl, h, rfl⟩
theorem eqs_two {k : IntKind} {us vs : List Value} {r : Bool} (h : eqs [.int k, .int k] us vs = some r) : ∃ a b c d, us = [.int k a, .int k b] ∧ vs = [.int k c, .int k d] ∧ r = (decide (a = c) && decide (b = d)) := by
  obtain ⟨a, c, us1, vs1, r1, rfl, rfl, h1, rfl⟩ := eqs_cons h
  obtain ⟨b, d, us2, vs2, r2, rfl, rfl, h2, rfl⟩ := eqs_cons h1
  cases us2 <;> cases vs2 <;> simp [eqs] at h2
  exact ⟨a, b, c, d, rfl, rfl, by simp_all⟩

theorem part3 (w : World) (xs : Array Value) (off : Nat) (v : Value) (h : xs[off]? = some v) : (part 3 xs off).run Try.prog w = .ok v w := by
  simp [part, (tabOk Try.prog).agg w T3, Ty.isAgg, h]
theorem int3 (w : World) (a c : Int) : (Op.equalIn 9999 3 (.int .i64 a) (.int .i64 c)).run Try.prog w = .ok (a == c) w := run_equalIn_int w 9998 3 .i64 .i64 a c Try.underlying3

section
variable {d : Nat} {xs ys : Array Value} {f : Field} {fs : List Field} {a b : Value} {r s : Bool} {w : World}
theorem fld_nil : (Op.eqFields d xs ys []).run Try.prog w = .ok true w := by simp [Op.eqFields]
theorem fld_cons (hn : (f.name == "_") = false) (ha : (part f.type xs f.offset).run Try.prog w = .ok a w) (hb : (part f.type ys f.offset).run Try.prog w = .ok b w) (he : (Op.equalIn d f.type a b).run Try.prog w = .ok r w)
    (hr : (Op.eqFields d xs ys fs).run Try.prog w = .ok s w) : (Op.eqFields d xs ys (f :: fs)).run Try.prog w = .ok (r && s) w := by
  have hn' : f.name ≠ "_" := by simpa using hn
  rw [Op.eqFields]
  simp only [if_pos hn', Sem.run_bind, ha, hb, he, Result.andThen_ok]
  cases r
  · simp
  · simpa using hr
variable {e n : Nat} {is : List Nat} {j : Nat}
theorem itm_nil : (Op.eqItems d e n xs ys []).run Try.prog w = .ok true w := by simp [Op.eqItems]
theorem itm_cons (ha : (part e xs (j * n)).run Try.prog w = .ok a w) (hb : (part e ys (j * n)).run Try.prog w = .ok b w) (he : (Op.equalIn d e a b).run Try.prog w = .ok r w)
    (hr : (Op.eqItems d e n xs ys is).run Try.prog w = .ok s w) : (Op.eqItems d e n xs ys (j :: is)).run Try.prog w = .ok (r && s) w := by
  rw [Op.eqItems]
  simp only [Sem.run_bind, ha, hb, he, Result.andThen_ok]
  cases r
  · simp
  · simpa using hr
end

theorem eq53 (a b c d : Int) (w : World) : (Op.equal 53 (.agg #[.int .i64 a, .int .i64 b]) (.agg #[.int .i64 c, .int .i64 d])).run Try.prog w = .ok (decide (a = c) && decide (b = d)) w := by
  have hf : Try.prog.fieldsOf 53 = #[{ name := "N", type := 3, offset := 0, embedded := false, tag := "", pkgPath := "", byteOffset := 0 }, { name := "Site", type := 3, offset := 1, embedded := false, tag := "", pkgPath := "", byteOffset := 8 }] := by simp [Program.fieldsOf, Try.underlying53]
  have h := run_equalIn_struct (P := Try.prog) w 9999 53 #[.int .i64 a, .int .i64 b] #[.int .i64 c, .int .i64 d] (by rw [hf]; exact Try.underlying53) Try.stoodInHeld53
  rw [hf] at h
  refine Eq.trans h ((fld_cons rfl (part3 w _ 0 (.int .i64 a) rfl) (part3 w _ 0 (.int .i64 c) rfl) (int3 w a c) (fld_cons rfl (part3 w _ 1 (.int .i64 b) rfl) (part3 w _ 1 (.int .i64 d) rfl) (int3 w b d) fld_nil)).trans ?_)
  by_cases h1 : a = c <;> by_cases h2 : b = d <;> simp [h1, h2]

theorem eq55 (a b c d : Int) (w : World) : (Op.equal 55 (.agg #[.int .i64 a, .int .i64 b]) (.agg #[.int .i64 c, .int .i64 d])).run Try.prog w = .ok (decide (a = c) && decide (b = d)) w := by
  obtain ⟨_, i, z, hi, _⟩ := (tabOk Try.prog).ok 3 _ T3
  have h := run_equalIn_array (P := Try.prog) w 9999 (t := 55) (e := 3) (n := 2) #[.int .i64 a, .int .i64 b] #[.int .i64 c, .int .i64 d] Try.underlying55 hi
  have hc : Try.prog.cellsOf 3 = 1 := (tabOk Try.prog).cellsOf T3
  rw [hc] at h
  refine Eq.trans h ((itm_cons (is := [1]) (part3 w _ 0 (.int .i64 a) rfl) (part3 w _ 0 (.int .i64 c) rfl) (int3 w a c) (itm_cons (is := []) (part3 w _ 1 (.int .i64 b) rfl) (part3 w _ 1 (.int .i64 d) rfl) (int3 w b d) itm_nil)).trans ?_)
  by_cases h1 : a = c <;> by_cases h2 : b = d <;> simp [h1, h2]

def Q : EqTab := fun t => if t = 53 ∨ t = 55 then some [.int .i64, .int .i64] else none
theorem Q53 : Q 53 = some [.int .i64, .int .i64] := rfl
theorem Q55 : Q 55 = some [.int .i64, .int .i64] := rfl
theorem eqOk : EqOk Try.prog Q := by
  refine ⟨fun t ks us vs r w h he => ?_⟩
  unfold Q at h
  split at h <;> cases h
  rename_i ht
  obtain ⟨a, b, c, d, rfl, rfl, rfl⟩ := eqs_two he
  rcases ht with rfl | rfl
  · exact ⟨fun op x y => run_eqGuard_agg w op 53 x y _ _ Try.eqGuardType53, eq53 a b c d w⟩
  · exact ⟨fun op x y => run_eqGuard_agg w op 55 x y _ _ Try.eqGuardType55, eq55 a b c d w⟩
end Go.VS.S
