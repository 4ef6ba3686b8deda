/- SortedApart: for every input the call returns true, and each argument reads behind it as it read before. No condition. -/
import Derived.Test.YtgjnkppjfbcicaaSvV
import Derived.Test.YtgjnkppjfbcicaaSvZ
import Derived.Test.YtgjnkppjfbcicaaRows
namespace Go.Proofs.Ytgjnkppjfbcicaa
open Go.ChangeShapes Go.WideShapes Go.ChangeAt Go.RowKit

theorem ownA : ownKnob Try.prog.godebug = none := by kernel_rfl
theorem laidOutA : laidOutB Try.prog = true := by kernel_rfl

theorem apart_calls (W : World) {base : Nat} {H : Type} {enc : TypeId × Value → H} {args : Array Value} {ds : List (DataW H)} {p : List MemPlace} (hval : ∀ (j : Nat) t v, Try.f5.params[j]? = some t → args[j]? = some v → Value.okWide Try.prog W .any base t v)
    (hA : DataW.TrodAll enc Try.prog W 0 (fun _ => true) true Try.f5.params.toList args.toList ds p) :
    Calls Try.prog 5 args W fun e W' => e = .returned (.bool true) ∧ W'.os = W.os ∧ W'.output = W.output ∧ W.heap.size ≤ W'.heap.size ∧ ∀ b, b < W.heap.size → W'.heap[b]? = W.heap[b]? := by
  rw [Try.params5] at hA hval
  obtain ⟨v0, v1, d0, d1, p0, p1, rfl, rfl, rfl, h0, h1⟩ := trodAll_two hA
  obtain ⟨x0, t0, r0⟩ := Go.VS.S.arg_of Go.VS.S.sh22 rfl (Go.VS.S.one_slice Try.underlying22 (hval 0 22 v0 rfl rfl)) h0
  obtain ⟨x1, t1, r1⟩ := Go.VS.S.arg_of Go.VS.S.sh22 rfl (Go.VS.S.one_slice Try.underlying22 (hval 1 22 v1 rfl rfl)) h1
  obtain ⟨acts, e0, hl, hc⟩ := Go.VS.S.acts_of t0
  obtain ⟨thens, e1, hl2, hc2⟩ := Go.VS.S.acts_of t1
  cases e0
  cases e1
  exact Go.VS.law_calls (Go.VS.S.apart_ok acts thens (by simpa [maxLen] using hl) (fun a ha => by simpa [maxLen] using hc a ha) (by simpa [maxLen] using hl2) (fun a ha => by simpa [maxLen] using hc2 a ha)) (.cons r0 (.cons r1 .nil)) (Go.VS.S.no_globs W)

set_option maxRecDepth 100000 in
theorem apart_lifted (os : Os) (started : os.Started) (H : Type) (enc : TypeId × Value → H) :
    ReturnsInHanded {} Try.checked os 5 .any (Rows.sortedApartSpec.pre6 enc Try.prog Try.f5 Rows.sortedApartRow.domain false) (Rows.sortedApartSpec.post enc Try.prog Try.f5 false true false false) := by
  refine returnsInHanded_of_change (C := Try.checked) ownA started (by kernel_rfl) Try.func5
    (ChangeSpec.witness6 (enc := enc) (C := Try.checked) false ⟨#[], #[.slice none 0 0, .slice none 0 0], []⟩ 8 (by kernel_rfl) (by kernel_rfl) (by kernel_rfl) (by kernel_rfl)) ?_
  intro W base args ds gs before hval0 hW hcnd _
  have hval : ∀ (j : Nat) t v, Try.f5.params[j]? = some t → args[j]? = some v → Value.okWide Try.prog W .any base t v := hval0
  have hW2 := hW
  obtain ⟨p, q, hA, hV, _, _, _⟩ := hW2
  obtain ⟨rfl, rfl⟩ := trodVars_none hV
  refine (apart_calls W hval hA).mono fun e W' ⟨he, h1, h2, h3, h4⟩ => ?_
  subst he
  refine ⟨_, rfl, Go.VS.law_post laidOutA rfl hW (fun t ht => ?_) Try.underlying4 (by kernel_rfl) ?_ h1 h2 h4⟩
  · have ht' : t ∈ Try.f5.params.toList := ht
    rw [Try.params5] at ht'
    simp only [List.mem_cons, List.not_mem_nil, or_false] at ht'
    rcases ht' with rfl | rfl <;> exact ⟨by kernel_rfl, of_decide_eq_true (by kernel_rfl)⟩
  · have hA' : DataW.TrodAll enc Try.prog W 0 (fun _ => true) true Try.f5.params.toList args.toList ds p := hA
    rw [Try.params5] at hA'
    obtain ⟨v0, v1, d0, d1, p0, p1, rfl, rfl, rfl, _, _⟩ := trodAll_two hA'
    rfl

theorem apart_holds : Rows.SortedApartSaid :=
  OpenClaim.holds_of_wide 5 Try.f5 rfl rfl rfl rfl rfl rfl rfl ⟨rfl, rfl, rfl, rfl, rfl⟩ rfl rfl rfl rfl rfl (by kernel_rfl) Try.func5 (by kernel_rfl)
    (of_decide_eq_true (by kernel_rfl)) (by unfold Func.isWrapper; first | (rw [if_pos (by decide +kernel)]; kernel_rfl) | (rw [if_neg (by decide +kernel)]; exact ⟨rfl, rfl⟩))
    (fun os started H enc _ => apart_lifted os started H enc)
#print axioms apart_holds
end Go.Proofs.Ytgjnkppjfbcicaa
