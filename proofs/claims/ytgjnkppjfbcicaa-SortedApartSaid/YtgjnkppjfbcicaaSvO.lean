/- The map's own calls. -/
import Derived.Test.YtgjnkppjfbcicaaSvN
namespace Go.VS.S
open Go.Proofs

def setRes (key : ByteArray) : V := .sc (.int .i64 (if key = ⟨#[]⟩ then 2 else 0))
def setEnts (key : ByteArray) (v : List Cell) (es : List Ent) : List Ent := if key = ⟨#[]⟩ then es else insE key v es

theorem mapset_ok (H : List (List V)) (c m r : Nat) (bl : List Blk) (key : ByteArray) (l : List Cell) (h : MapAt H m r bl) (hl : l.length ≤ 1000000) (hsm : (ents bl).length ≤ 800000) :
    ACall X 9 [.ref m 0, .agg [.sc (.string key), .data l.length 8 (cellsV l) none]] H c (MapPost H m r bl (setEnts key l (ents bl)) (setRes key)) := by
  refine (ACall.of_awp hP hm Try.func9 rfl rfl (by simp [Try.ntmps9]) (by kernel_rfl) fun hbd => ?_)
  simp (dsimp := false) (implicitDefEqProofs := false) only [go_sem]
  refine awpCall_does (none_ok m (H ++ [[.sc (.string key), .data l.length 8 (cellsV l) none]]) r c (getElem?_app h.top)) rfl rfl ?_
  simp (dsimp := false) (implicitDefEqProofs := false) only [go_sem]
  refine ifG_dec (fun hk => ?_) (fun hk => ?_)
  · simp (dsimp := false) (implicitDefEqProofs := false) only [go_sem, hk]
    refine ⟨by simp [setRes], bl, h.app _, by simp [setEnts], Frame.app h.root _⟩
  · simp (dsimp := false) (implicitDefEqProofs := false) only [go_sem, hk]
    refine onDraw_cut 9 (by kernel_rfl) ?_
    have htop : ∀ L : List (List V), (H ++ L)[m]? = some [.ref r 0] := fun L => getElem?_app h.top
    simp (dsimp := false) (implicitDefEqProofs := false) only [go_sem, htop]
    refine calleeD_pure (cells_ok l.length (cellsV l) hl (flat_cells l)) ?_
    simp (dsimp := false) (implicitDefEqProofs := false) only [go_sem]
    refine onCall_post (ACall.wk (by simp (dsimp := false) (implicitDefEqProofs := false) only [go_sem]; exact Wk.tok) (set_ok (H ++ [[.sc (.string key), .data l.length 8 (cellsV l) none]]) (c + 1) r bl key l (h.root.app _) hsm)) rfl rfl ?_
    rintro y H' lv' c' ⟨bl', hr', he, hf, rfl, rfl⟩ _ _
    simp (dsimp := false) (implicitDefEqProofs := false) only [go_sem]
    refine ⟨by simp [setRes, hk], bl', ((h.app _).next hr' hf), by rw [he]; simp [setEnts, hk], (Frame.app h.root _).trans hf⟩
end Go.VS.S
