/- A law: from the contract of its function to what its row says of a call. -/
import Derived.Test.YtgjnkppjfbcicaaGvU
import Derived.Test.YtgjnkppjfbcicaaGvW
import Derived.ProofKit
namespace Go.VS
open Go.ChangeShapes Go.WideShapes Go.ChangeAt Go.RowKit

/-- What is known at the entry: all memory stays as it is. -/
def Env.start (P : Program) (W : World) : Env := ⟨fun _ => 0, fun _ => 0, 0, fun _ => none, fun b o => ∃ u, W.cell? ⟨b, o, none⟩ = some u, 0, W.heap.size, P.cellsOf, W⟩

theorem Env.start_I (P : Program) (W : World) : ∀ b o u, (Env.start P W).w.cell? ⟨b, o, none⟩ = some u → (Env.start P W).I b o := fun _ _ u h => ⟨u, h⟩

theorem start_objs (P : Program) (W : World) : Objs (Env.start P W) [] := by
  refine ⟨rfl, fun o cs h => by simp at h, fun o off h => by simp at h, fun o o' h => by simp at h, fun b o hb => ?_⟩
  obtain ⟨u, hu⟩ := hb
  show b < W.heap.size
  unfold World.cell? at hu
  split at hu
  · rename_i h
    exact (Array.getElem?_eq_some_iff.1 h).1
  · cases hu

/-- A call that brings a constant: it returns that, and what was there is as it was. -/
theorem law_calls {X : Ctx} {f : FuncId} {xs : List V} {x : Value} {args : Array Value} {W : World} (hp : Pure X f xs (fun _ => .sc x) []) (hr : RelL (Env.start X.P W) xs args.toList) (hG : GlobOk X.G (Env.start X.P W)) :
    Calls X.P f args W fun e W' => e = .returned x ∧ W'.os = W.os ∧ W'.output = W.output ∧ W.heap.size ≤ W'.heap.size ∧ ∀ b, b < W.heap.size → W'.heap[b]? = W.heap[b]? := by
  have h := (hp [] 0).2 (Env.start X.P W) args.toList rfl rfl rfl (start_objs X.P W) hG hr
  rw [Array.toArray_toList] at h
  refine h.mono ?_
  rintro e w' ⟨rv, r, H', lv', E', rfl, rfl, hrel, _, _, hext, rfl, _⟩
  have := hrel.sc_inv
  subst this
  exact ⟨rfl, hext.os, hext.output, hext.size, fun b hb => hext.keep b hb (fun o ho => absurd ho (Nat.not_lt_zero o))⟩

section
variable {H : Type} {enc : TypeId × Value → H} {P : Program}
theorem trodAll_stays (hl : laidOutB P = true) {W W' : World} {sp : Nat → Bool} (hk : ∀ b, b < W.heap.size → W'.heap[b]? = W.heap[b]?) : ∀ {ts : List TypeId} {vs : List Value} {ds : List (DataW H)} {ps : List MemPlace}, (∀ t ∈ ts, P.readableRec t = true ∧ t < P.types.size) →
    DataW.TrodAll enc P W 0 (fun _ => true) true ts vs ds ps → (∀ p ∈ ps, p.block < W.heap.size ∧ sp p.block = true) → DataW.TrodAll enc P W' 0 sp true ts vs ds ps
  | [], [], [], ps, _, h, _ => h
  | t :: ts, v :: vs, d :: ds, ps, ht, ⟨p, q, h1, h2, e⟩, hp => by
    subst e
    refine ⟨p, q, WideElems.Trod_stays hl (ht t (by simp)).1 (ht t (by simp)).2 h1 (fun x hx => ?_) (fun x hx => (hp x (List.mem_append_left _ hx)).2), trodAll_stays hl hk (fun u hu => ht u (by simp [hu])) h2 (fun x hx => hp x (List.mem_append_right _ hx)), rfl⟩
    have hx2 := (hp x (List.mem_append_left _ hx)).1
    cases x with
    | cell b o => exact World.cell?_of_block (w := W) (hk b hx2)
    | map b => exact hk b hx2
  | [], [], _ :: _, _, _, h, _ => h.elim
  | [], _ :: _, _, _, _, h, _ => h.elim
  | _ :: _, [], _, _, _, h, _ => h.elim
  | _ :: _, _ :: _, [], _, _, h, _ => h.elim

/-- What a law's row wants of a call. -/
theorem law_post {f : Func} {s : ChangeSpec} {apart fresh handsOn : Bool} {W W' : World} {args : Array Value} {tb : TypeId} {ds : List (DataW H)} {before : List MemPlace} (hl : laidOutB P = true) (hvars : s.vars = [])
    (hW : DataW.Whole enc P f.params.toList s.vars apart W args.toList ds [] before) (hts : ∀ t ∈ f.params.toList, P.readableRec t = true ∧ t < P.types.size) (htb : P.underlying tb = some .bool) (hres : f.resultTypes = #[tb])
    (hs : s.fn H (ds ++ []) = { results := [.lit (.bool true)], args := ds }) (ho : W'.os = W.os) (hout : W'.output = W.output) (hk : ∀ b, b < W.heap.size → W'.heap[b]? = W.heap[b]?) :
    s.post enc P f apart fresh handsOn false W args (.bool true) W' := by
  have hlt := hW.lt
  have hW0 := hW
  obtain ⟨p, q, hA, hV, rfl, hfz, hnd⟩ := hW
  rw [hvars] at hV
  obtain ⟨_, rfl⟩ := trodVars_none hV
  rw [List.append_nil] at hlt hW0
  refine ⟨ds, [], p, [], p, [], hW0, ?_, ?_, ?_, ?_, fun h => by cases h⟩
  · rw [hs, hres]
    exact trodAll_mk1 (shut_bool htb true)
  · rw [hs]
    exact trodAll_stays hl hk hts hA fun x hx => ⟨hlt x hx, by simpa using hlt x hx⟩
  · rw [hvars, hs]
    rfl
  · refine ⟨ho, hout, fun i hi => ?_⟩
    have := (World.keptBut_refl W (fun q => q ∈ p ∧ (q ∈ ([] : List MemPlace) ∨ q ∈ p ∨ q ∈ ([] : List MemPlace)))).2.2 i hi
    rw [hk i hi]
    exact this
end
end Go.VS
