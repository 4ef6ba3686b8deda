/- SortedParts, walked. -/
import Derived.Test.YtgjnkppjfbcicaaSvT
namespace Go.VS.S
open Go.Proofs

theorem all_ents (a b : List Ent) (ha : a.length ≤ 1000000) (hb : b.length ≤ 1000000) (hca : ∀ e ∈ a, e.2.length ≤ 1000000) (hcb : ∀ e ∈ b, e.2.length ≤ 1000000) :
    Pure X 12 [.data a.length 2 (rowsV (rowsE a)) none, .data b.length 2 (rowsV (rowsE b)) none] (fun _ => .sc (.bool (allSame (rowsE a) (rowsE b)))) [] := by
  have hl : ∀ l : List Ent, (rowsE l).length = l.length := fun l => by simp [rowsE]
  have hm : ∀ l : List Ent, (∀ e ∈ l, e.2.length ≤ 1000000) → ∀ r ∈ rowsE l, r.cells.length ≤ 9223372036854775807 := fun l h r hr => by
    simp only [rowsE, List.mem_map] at hr
    obtain ⟨e, he, rfl⟩ := hr
    have := h e he
    show e.2.length ≤ _
    omega
  have := all_ok (rowsE a) (rowsE b) (by rw [hl]; omega) (by rw [hl]; omega) (hm a hca) (hm b hcb)
  rw [hl, hl] at this
  exact this

theorem parts_ok (acts : List Act) (u : ByteArray) (size : Int) (hA : acts.length ≤ 9223372036854775807) (hC : ∀ a ∈ acts, a.row.cells.length ≤ 9223372036854775807) :
    Pure X 3 [.data acts.length 5 (actsV acts) none, .sc (.string u), .sc (.int .i64 size)] (fun _ => .sc (.bool true)) [] := by
  refine Pure.of0 fun H c => ACall.of_awp hP hm Try.func3 rfl rfl (by simp [Try.ntmps3]) (by kernel_rfl) fun hbd => ?_
  simp (dsimp := false) (implicitDefEqProofs := false) only [go_sem]
  refine awpCall_pure (light_ok acts hA hC) ?_
  simp (dsimp := false) (implicitDefEqProofs := false) only [go_sem]
  by_cases hl : lightActs 0 acts ≤ 20000
  case neg =>
    rw [decide_eq_false hl]
    simp (dsimp := false) (implicitDefEqProofs := false) only [go_sem]
    refine awpCall_pure lives_ok ?_
    simp (dsimp := false) (implicitDefEqProofs := false) only [go_sem]
  rw [decide_eq_true hl]
  simp (dsimp := false) (implicitDefEqProofs := false) only [go_sem]
  refine ifG_dec (fun hu => ?_) (fun hu => ?_)
  · simp (dsimp := false) (implicitDefEqProofs := false) only [go_sem, hu]
    refine awpCall_pure lives_ok ?_
    simp (dsimp := false) (implicitDefEqProofs := false) only [go_sem]
  simp (dsimp := false) (implicitDefEqProofs := false) only [go_sem, hu]
  refine onCall_post (new_ok H c) rfl rfl ?_
  rintro y H' lv' c' ⟨rfl, rfl, rfl, rfl⟩ _ _
  simp (dsimp := false) (implicitDefEqProofs := false) only [go_sem]
  obtain ⟨hlen, hact⟩ := lightActs_le acts 0 (by omega) hl
  refine onLoop_inv (α := Nat × List (List V) × Nat × List Blk) (fun a => acts.length - a.1) (fun a => a.1 ≤ acts.length ∧ MapAt a.2.1 (H.length + 1) H.length a.2.2.2 ∧ Own H a.2.1 H.length a.2.2.2 ∧ EntsOk a.1 (ents a.2.2.2))
    (fun a => ⟨[(0, .data acts.length 5 (actsV acts) none), (1, .sc (.string u)), (2, .sc (.int .i64 size)), (6, .sc (.bool false)), (7, .ref (H.length + 1) 0), (27, .data acts.length 5 (actsV acts) none), (28, .sc (.int .i64 acts.length)), (29, .sc (.int .i64 a.1))], a.2.1, [], a.2.2.1⟩)
    (0, H ++ [[.sc (.slice none 0 0), .sc (.int .i64 0)], [.ref H.length 0]], c', []) ⟨by omega, new_map H, own_new H, ⟨by simp [ents], fun e h => by simp [ents] at h⟩⟩ (by simp (dsimp := false) (implicitDefEqProofs := false) only [go_sem]) (.inl (by simp (dsimp := false) (implicitDefEqProofs := false) only [go_sem])) ?_
  rintro ⟨i, Hh, c2, bl⟩ ⟨hi, hM, hO, hE⟩ _ back
  dsimp only at hi hM hO hE
  simp (dsimp := false) (implicitDefEqProofs := false) only [go_sem]
  refine ifG_dec (fun hd => ?_) (fun hd => ?_)
  · have hi' : i < acts.length := by omega
    obtain ⟨a, ha⟩ : ∃ a, acts[i]? = some a := ⟨_, List.getElem?_eq_getElem hi'⟩
    have hao := hact a (List.mem_of_getElem? ha)
    have hdr : (actsV acts).drop (i * 5) = a.vs ++ actsV (acts.drop (i + 1)) := flat_drop Act.vs 5 (fun _ => rfl) acts i a ha
    simp (dsimp := false) (implicitDefEqProofs := false) only [go_sem, hd, hdr, Act.vs]
    refine ⟨by omega, ?_⟩
    refine awpCall_pure (row_any a (by have := hao.cells; omega)) ?_
    simp (dsimp := false) (implicitDefEqProofs := false) only [go_sem]
    refine onCall_post (ACall.wk (by simp (dsimp := false) (implicitDefEqProofs := false) only [go_sem]; exact WkL.agg ⟨.refl _, .tok, trivial⟩) (mapset_ok (Hh ++ [a.vs]) (c2 + 1) (H.length + 1) H.length bl a.row.key (rowCells a) (hM.app _) (by have := rowCells_len hao; omega) (by have := hE.len; omega))) rfl rfl ?_
    rintro y H2 lv2 c3 ⟨rfl, bl2, hM2, he2, hF⟩ _ _
    simp (dsimp := false) (implicitDefEqProofs := false) only [go_sem]
    rw [IntWalk.i64_in _ (by omega)]
    exact back _ (i + 1, H2, c3, bl2) ⟨by dsimp only; omega, hM2, (Own.app hM.root hO _).next hF, by dsimp only; rw [he2]; exact hE.act hao⟩ (by dsimp only; omega) (by simp (dsimp := false) (implicitDefEqProofs := false) only [go_sem]) (.inl (by simp (dsimp := false) (implicitDefEqProofs := false) only [go_sem]))
  simp (dsimp := false) (implicitDefEqProofs := false) only [go_sem, hd]
  obtain ⟨k, hk1, hk2, hk⟩ : ∃ k : Nat, 1 ≤ k ∧ k ≤ 20 ∧ IntKind.i64.wrap (1 + IntKind.i64.wrap ((IntKind.u64.wrap size).tmod 20)) = (k : Int) := by
    rw [IntKind.wrap_u64, Int.tmod_eq_emod_of_nonneg (by omega), IntWalk.i64_in (_ % 20) (by omega), IntWalk.i64_in _ (by omega)]
    exact ⟨(1 + size % 18446744073709551616 % 20).toNat, by omega, by omega, by omega⟩
  rw [hk]
  refine onLoop_nil 11 29 cells29 (by simp (dsimp := false) (implicitDefEqProofs := false) only [go_sem]) ?_
  have hFl : (wholeE ⟨#[]⟩ u (ents bl)).length ≤ acts.length := Nat.le_trans whole_len (by have := hE.len; omega)
  have hcl : ∀ e ∈ ents bl, e.2.length ≤ 1000000 := fun e he => by have := (hE.ent e he).2; omega
  refine onLoop_inv (α := Nat × List Ent × ByteArray × Nat × Nat) (fun a => acts.length + 1 - a.1) (fun a => a.1 ≤ a.2.1.length ∧ a.2.1 ++ wholeE a.2.2.1 u (ents bl) = wholeE ⟨#[]⟩ u (ents bl))
    (fun a => ⟨[(0, .data acts.length 5 (actsV acts) none), (1, .sc (.string u)), (6, .sc (.bool false)), (7, .ref (H.length + 1) 0), (10, .sc (.int .i64 k)), (11, .data a.2.1.length 2 (rowsV (rowsE a.2.1)) (some a.2.2.2.1)), (12, .sc (.string a.2.2.1)), (13, .sc (.int .i64 a.1))], Hh, [(a.2.2.2.1, 29)], a.2.2.2.2⟩)
    (0, [], ⟨#[]⟩, c2, c2 + 1) ⟨by simp, by simp⟩ (by simp (dsimp := false) (implicitDefEqProofs := false) only [go_sem, rowsE, rowsV, List.map_nil, List.flatMap_nil]) (.inl (by simp (dsimp := false) (implicitDefEqProofs := false) only [go_sem])) ?_
  rintro ⟨i, l, fr, τ, c3⟩ ⟨hil, hlw⟩ hB2 back2
  dsimp only at hil hlw
  have hltot : l.length + (wholeE fr u (ents bl)).length ≤ acts.length := by
    rw [← List.length_append, hlw]; exact hFl
  simp (dsimp := false) (implicitDefEqProofs := false) only [go_sem]
  refine ifG_dec (fun hd2 => ?_) (fun hd2 => ?_)
  · simp (dsimp := false) (implicitDefEqProofs := false) only [go_sem, hd2]
    refine awpCall_does (scan_ok Hh c3 (H.length + 1) H.length bl fr u k hM hcl) rfl rfl ?_
    have hsc : scanE fr u k (ents bl) = (wholeE fr u (ents bl)).take k := by rw [scanE_eq]; rfl
    rw [hsc]
    generalize hx : (wholeE fr u (ents bl)).take k = x
    have hxl : x.length ≤ k := by rw [← hx]; simp; omega
    simp (dsimp := false) (implicitDefEqProofs := false) only [go_sem]
    rw [decide_eq_false (by omega)]
    simp (dsimp := false) (implicitDefEqProofs := false) only [go_sem]
    refine ifG_dec (fun hx0 => ?_) (fun hx0 => ?_)
    · simp (dsimp := false) (implicitDefEqProofs := false) only [go_sem, hx0]
      have hw0 : wholeE fr u (ents bl) = [] := by
        have h1 : (wholeE fr u (ents bl)).length = 0 := by
          have := congrArg List.length hx
          simp at this
          omega
        exact List.eq_nil_of_length_eq_zero h1
      have hlF : l = wholeE ⟨#[]⟩ u (ents bl) := by rw [← hlw, hw0, List.append_nil]
      have hFm : ∀ e ∈ l, e.2.length ≤ 1000000 := fun e he => by
        rw [hlF] at he
        have h1 := (List.takeWhile_sublist _).mem he
        rw [fromE_empty] at h1
        exact hcl e h1
      refine awpCall_does (scan_ok Hh c3 (H.length + 1) H.length bl ⟨#[]⟩ u 1000000 hM hcl) rfl rfl ?_
      have hsc2 : scanE ⟨#[]⟩ u 1000000 (ents bl) = l := by
        rw [scanE_eq, hlF, List.take_of_length_le (by have : (1000000 : Int).toNat = 1000000 := rfl; omega)]
      rw [hsc2]
      simp (dsimp := false) (implicitDefEqProofs := false) only [go_sem]
      refine awpCall_pure (Pure.wk (by simp (dsimp := false) (implicitDefEqProofs := false) only [go_sem]) (all_ents l l (by omega) (by omega) hFm hFm)) ?_
      rw [all_same]
      simp (dsimp := false) (implicitDefEqProofs := false) only [go_sem]
      refine awpCall_pure lives_ok ?_
      simp (dsimp := false) (implicitDefEqProofs := false) only [go_sem]
      exact hO.take
    · simp (dsimp := false) (implicitDefEqProofs := false) only [go_sem, hx0]
      obtain ⟨x', e, rfl⟩ : ∃ x' e, x = x' ++ [e] := by
        rcases List.eq_nil_or_concat x with h | ⟨x', e, h⟩
        · subst h; exact absurd rfl hx0
        · exact ⟨x', e, by rw [h, List.concat_eq_append]⟩
      have hwx : wholeE fr u (ents bl) = (x' ++ [e]) ++ (wholeE fr u (ents bl)).drop k := by rw [← hx, List.take_append_drop]
      have hnext := whole_next hM.root.good.ord hwx
      have hem : e ∈ ents bl := by
        have h1 : e ∈ wholeE fr u (ents bl) := by rw [hwx]; simp
        exact (List.mem_filter.1 ((List.takeWhile_sublist _).mem h1)).1
      have hes := (hE.ent e hem).1
      have hp : (IntKind.i64.wrap (((x' ++ [e]).length : Int) - 1)).toNat = x'.length := by
        have h9 : x'.length + 1 ≤ 20 := by simpa using Nat.le_trans hxl hk2
        rw [List.length_append, List.length_singleton, IntWalk.i64_in _ (by omega)]
        omega
      have hxl2 : (x' ++ [e]).length ≤ 20 := by omega
      have hlx : l.length + (x' ++ [e]).length ≤ acts.length := by
        rw [hwx, List.length_append] at hltot
        omega
      have hdr : (rowsV (rowsE (x' ++ [e]))).drop (x'.length * 2) = [.sc (.string e.1), cvV e.2] := by
        have h1 := flat_drop Row.vs 2 (fun _ => rfl) (rowsE (x' ++ [e])) x'.length (rowOf e) (by simp [rowsE])
        have h2 : (rowsE (x' ++ [e])).drop (x'.length + 1) = [] := List.drop_eq_nil_of_le (by simp [rowsE])
        rw [h2] at h1
        exact h1
      rw [hp, hdr]
      refine ⟨by omega, ?_, ?_⟩
      · rw [IntWalk.i64_in _ (by omega)]; omega
      simp (dsimp := false) (implicitDefEqProofs := false) only [go_sem]
      rw [IntWalk.i64_in ((i : Int) + 1) (by omega)]
      have hz : (⟨#[0]⟩ : ByteArray) = zero1 := rfl
      rw [hz]
      have hw : Wk (.data (l.length + (x' ++ [e]).length) 2 (rowsV (rowsE l) ++ rowsV (rowsE (x' ++ [e]))) (some c3)) (.data (l ++ (x' ++ [e])).length 2 (rowsV (rowsE (l ++ (x' ++ [e])))) (some c3)) := by
        rw [rowsE_app l, show (l ++ (x' ++ [e])).length = l.length + (x' ++ [e]).length from List.length_append]
        exact .refl _
      refine ⟨by show e.1.size + 1 ≤ _; omega, back2 _ (i + 1, l ++ (x' ++ [e]), e.1 ++ zero1, c3, c3 + 1) ⟨?_, ?_⟩ (by dsimp only; omega) ?_ (.inl (by simp (dsimp := false) (implicitDefEqProofs := false) only [go_sem]))⟩
      · dsimp only
        simp only [List.length_append, List.length_singleton]
        omega
      · dsimp only
        rw [hnext, List.append_assoc, ← hwx]
        exact hlw
      · simp (dsimp := false) (implicitDefEqProofs := false) only [go_sem]
        exact hw
  · exfalso
    omega
end Go.VS.S
