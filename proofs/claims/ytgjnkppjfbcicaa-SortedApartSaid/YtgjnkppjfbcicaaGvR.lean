/- What outlives a frame: contracts with the frame's own objects and tokens taken away. -/
import Derived.Test.YtgjnkppjfbcicaaGvQ
namespace Go.VS
open Go.RowKit Go.Lib

/-- What of a value outlives the frame: references below k, tokens below c, tokens renamed. -/
inductive Cut (k c : Nat) (f : Nat → Option Nat) : V → V → Prop
  | any (x : V) : Cut k c f x .any
  | keep {x : V} (h : Bd k c x) : Cut k c f x x
  | nil (sz : Nat) : Cut k c f (.sc (.slice none 0 0)) (.data 0 sz [] none)
  | data {n sz : Nat} {xs ys : List V} {tok tok' : Option Nat} (hl : xs.length = ys.length) (h : ∀ (j : Nat) (x y : V), xs[j]? = some x → ys[j]? = some y → Cut k c f x y)
      (ht : ∀ τ', tok' = some τ' → ∃ τ, tok = some τ ∧ f τ = some τ') : Cut k c f (.data n sz xs tok) (.data n sz ys tok')
  | dptr {xs ys : List V} (hl : xs.length = ys.length) (h : ∀ (j : Nat) (x y : V), xs[j]? = some x → ys[j]? = some y → Cut k c f x y) : Cut k c f (.dptr xs) (.dptr ys)
  | clo {g : FuncId} {xs ys : List V} (hl : xs.length = ys.length) (h : ∀ (j : Nat) (x y : V), xs[j]? = some x → ys[j]? = some y → Cut k c f x y) : Cut k c f (.clo g xs) (.clo g ys)
  | agg {xs ys : List V} (hl : xs.length = ys.length) (h : ∀ (j : Nat) (x y : V), xs[j]? = some x → ys[j]? = some y → Cut k c f x y) : Cut k c f (.agg xs) (.agg ys)
  | tup {xs ys : List V} (hl : xs.length = ys.length) (h : ∀ (j : Nat) (x y : V), xs[j]? = some x → ys[j]? = some y → Cut k c f x y) : Cut k c f (.tup xs) (.tup ys)

def CutL (k c : Nat) (f : Nat → Option Nat) (xs ys : List V) : Prop := xs.length = ys.length ∧ ∀ (j : Nat) (x y : V), xs[j]? = some x → ys[j]? = some y → Cut k c f x y
theorem CutL.nil (k c : Nat) (f : Nat → Option Nat) : CutL k c f [] [] := ⟨rfl, fun j x y h => by simp at h⟩
theorem CutL.cons {k c : Nat} {f : Nat → Option Nat} {x y : V} {xs ys : List V} (h : Cut k c f x y) (hs : CutL k c f xs ys) : CutL k c f (x :: xs) (y :: ys) :=
  ⟨by simp [hs.1], fun j a b ha hb => by
    cases j with
    | zero => simp at ha hb; subst ha; subst hb; exact h
    | succ j => exact hs.2 j a b (by simpa using ha) (by simpa using hb)⟩
theorem Cut.aggL {k c : Nat} {f : Nat → Option Nat} {xs ys : List V} (h : CutL k c f xs ys) : Cut k c f (.agg xs) (.agg ys) := .agg h.1 h.2
theorem Cut.tupL {k c : Nat} {f : Nat → Option Nat} {xs ys : List V} (h : CutL k c f xs ys) : Cut k c f (.tup xs) (.tup ys) := .tup h.1 h.2
theorem Cut.dataN {k c : Nat} {f : Nat → Option Nat} {n sz : Nat} {xs ys : List V} {tok : Option Nat} (h : CutL k c f xs ys) : Cut k c f (.data n sz xs tok) (.data n sz ys none) := .data h.1 h.2 (fun τ' e => by cases e)
theorem Cut.dataO {k c : Nat} {f : Nat → Option Nat} {n sz τ τ' : Nat} {xs ys : List V} (h : CutL k c f xs ys) (hf : f τ = some τ') : Cut k c f (.data n sz xs (some τ)) (.data n sz ys (some τ')) :=
  .data h.1 h.2 (fun _ e => ⟨τ, rfl, by injection e with e; rw [← e]; exact hf⟩)
theorem CutL.keep {k c : Nat} {f : Nat → Option Nat} {xs : List V} (h : ∀ x ∈ xs, Bd k c x) : CutL k c f xs xs :=
  ⟨rfl, fun j x y hx hy => by rw [hx] at hy; injection hy with hy; subst hy; exact .keep (h x (List.mem_of_getElem? hx))⟩

theorem Rel.ren {E E' : Env} {k c : Nat} {f : Nat → Option Nat} {x y : V} {v : Value} (h : Cut k c f x y) (him : ∀ b o, E.I b o → E'.I b o ∧ E'.w.cell? ⟨b, o, none⟩ = E.w.cell? ⟨b, o, none⟩) (hθ : ∀ τ, τ < c → E'.θ τ = E.θ τ) (hc : c ≤ E'.ctr)
    (hk : k ≤ E'.nobj) (hρ : ∀ o, o < k → E'.ρ o = E.ρ o) (hcp : ∀ o, o < k → E'.cp o = E.cp o) (hf : ∀ τ τ', f τ = some τ' → τ' < E'.ctr ∧ E'.θ τ' = E.θ τ) : Rel E x v → Rel E' y v := by
  have hcl : ∀ {A : Option Addr} {us : List Value}, CellsAt E A us → CellsAt E' A us := fun h j u hu => by
    obtain ⟨a, e, hs, hI, hcc, h1⟩ := h j u hu
    exact ⟨a, e, hs, (him _ _ hI).1, (him _ _ hI).2.trans hcc, h1⟩
  induction h generalizing v with
  | any x => exact fun _ => .any v
  | keep hb => exact fun hr => hr.cut him hθ hc hk hρ hcp hb
  | nil sz =>
    intro hr
    have := hr.sc_inv; subst this
    exact .data [] rfl (by simp) (Nat.le_refl _) (by simp [maxLen]) (fun h => absurd h (by omega)) (fun j u hu => by simp at hu) (fun j x u hx => by simp at hx) (fun τ e => by cases e)
  | data hl h ht ih =>
    intro hr
    obtain ⟨A, cp, us, rfl, hz, hcp, hm, h0, hcell, hR, hto⟩ := hr.data_inv
    refine .data us (hR.1.trans hl) (by rw [← hl]; exact hz) hcp hm h0 (hcl hcell) (fun j y u hy hu => ?_) (fun τ' e => ?_)
    · obtain ⟨x', hx'⟩ := get_of_len hl hy
      exact ih j x' y hx' hy (hR.2 j x' u hx' hu)
    · obtain ⟨τ, e1, e2⟩ := ht τ' e
      obtain ⟨h1, h2⟩ := hf τ τ' e2
      exact ⟨h1, fun u hu => (hto τ e1).2 u (h2.symm.trans hu)⟩
  | dptr hl h ih =>
    intro hr
    obtain ⟨a, us, rfl, hs, hcell, hR⟩ := hr.dptr_inv
    refine .dptr us (hR.1.trans hl) hs (hcl hcell) (fun j y u hy hu => ?_)
    obtain ⟨x', hx'⟩ := get_of_len hl hy
    exact ih j x' y hx' hy (hR.2 j x' u hx' hu)
  | clo hl h ih =>
    intro hr
    obtain ⟨us, rfl, hR⟩ := hr.clo_inv
    refine .clo us (hR.1.trans hl) (fun j y u hy hu => ?_)
    obtain ⟨x', hx'⟩ := get_of_len hl hy
    exact ih j x' y hx' hy (hR.2 j x' u hx' hu)
  | agg hl h ih =>
    intro hr
    obtain ⟨us, rfl, hR, h1⟩ := hr.agg_inv
    refine .agg us (hR.1.trans hl) h1 (fun j y u hy hu => ?_)
    obtain ⟨x', hx'⟩ := get_of_len hl hy
    exact ih j x' y hx' hy (hR.2 j x' u hx' hu)
  | tup hl h ih =>
    intro hr
    obtain ⟨us, rfl, hR⟩ := hr.tup_inv
    refine .tup us (hR.1.trans hl) (fun j y u hy hu => ?_)
    obtain ⟨x', hx'⟩ := get_of_len hl hy
    exact ih j x' y hx' hy (hR.2 j x' u hx' hu)

theorem RelL.ren {E E' : Env} {k c : Nat} {f : Nat → Option Nat} {xs ys : List V} {us : List Value} (h : CutL k c f xs ys) (him : ∀ b o, E.I b o → E'.I b o ∧ E'.w.cell? ⟨b, o, none⟩ = E.w.cell? ⟨b, o, none⟩) (hθ : ∀ τ, τ < c → E'.θ τ = E.θ τ) (hc : c ≤ E'.ctr)
    (hk : k ≤ E'.nobj) (hρ : ∀ o, o < k → E'.ρ o = E.ρ o) (hcp : ∀ o, o < k → E'.cp o = E.cp o) (hf : ∀ τ τ', f τ = some τ' → τ' < E'.ctr ∧ E'.θ τ' = E.θ τ) (hr : RelL E xs us) : RelL E' ys us :=
  ⟨hr.1.trans h.1, fun j y u hy hu => by
    obtain ⟨x', hx'⟩ := get_of_len h.1 hy
    exact (hr.2 j x' u hx' hu).ren (h.2 j x' y hx' hy) him hθ hc hk hρ hcp hf⟩

theorem mem_toks {own : List TypeId} {c τ : Nat} {e : TypeId} : (τ, e) ∈ toks own c ↔ c ≤ τ ∧ own[τ - c]? = some e := by
  unfold toks
  simp only [List.mem_map, Prod.mk.injEq, Prod.exists]
  constructor
  · rintro ⟨a, i, hm, rfl, rfl⟩
    rw [List.mem_zipIdx_iff_getElem?] at hm
    exact ⟨by omega, by simpa using hm⟩
  · rintro ⟨h1, h2⟩
    exact ⟨e, τ - c, by rw [List.mem_zipIdx_iff_getElem?]; exact h2, by omega, rfl⟩

/-- Tokens renamed: the listed ones, from c on. -/
def renTok (c : Nat) (fs : List Nat) (τ : Nat) : Option Nat := (fs.idxOf? τ).map (c + ·)

/-- A contract that tells the objects and the tokens. -/
def Does (X : Ctx) (f : FuncId) (xs : List V) (H : List (List V)) (c : Nat) (r : V) (H2 : List (List V)) (own : List TypeId) : Prop :=
  ACall X f xs H c fun r' H' lv' c' => r' = r ∧ H' = H2 ∧ lv' = toks own c ∧ c' = c + own.length

/-- What is to be shown at the end of a frame. -/
def EndH (H : List (List V)) (c : Nat) (r : V) (H2 : List (List V)) (own : List TypeId) (r' : V) (H' : List (List V)) (lv' : List (Nat × TypeId)) (_ : Nat) : Prop :=
  H2.length = H.length ∧ H.length ≤ H'.length ∧ ∃ fs : List Nat, fs.length = own.length ∧ (∀ (i τ : Nat) (e : TypeId), fs[i]? = some τ → own[i]? = some e → (τ, e) ∈ lv') ∧ fs.Nodup ∧ Cut H.length c (renTok c fs) r' r ∧
    ∀ o, o < H.length → (H'[o]? = H[o]? ∧ H2[o]? = H[o]?) ∨ ∃ xs ys, H'[o]? = some xs ∧ H2[o]? = some ys ∧ CutL H.length c (renTok c fs) xs ys

theorem Does.of {X : Ctx} {f : FuncId} {xs : List V} {H H2 : List (List V)} {c : Nat} {r : V} {own : List TypeId} (h : ACall X f xs H c (EndH H c r H2 own)) : Does X f xs H c r H2 own := by
  refine ⟨h.1, fun E vs hc hsz hbase ho hG hr => (h.2 E vs hc hsz hbase ho hG hr).mono ?_⟩
  rintro _ w' ⟨rv, r', H', lv', E', rfl, rfl, hx, ho', ht', hext, hl2, hl', fs, hfl, hfe, hnd, hcut, hobj⟩
  have hEnob : E.nobj = H.length := ho.nob
  let E2 : Env := { E' with nobj := H.length, ctr := c + own.length, θ := fun τ => if τ < c then E'.θ τ else match fs[τ - c]? with | some t => E'.θ t | none => none }
  have hcE : c ≤ E'.ctr := by rw [← hc]; exact hext.le.ctr
  have hren : ∀ τ τ', renTok c fs τ = some τ' → τ' < E2.ctr ∧ E2.θ τ' = E'.θ τ := by
    intro τ τ' he
    unfold renTok at he
    cases hi : fs.idxOf? τ with
    | none => rw [hi] at he; simp at he
    | some i =>
      rw [hi] at he
      simp only [Option.map_some, Option.some.injEq] at he
      subst he
      have hlt : i < fs.length ∧ fs[i]? = some τ := by
        rw [List.idxOf?, List.findIdx?_eq_some_iff_getElem] at hi
        obtain ⟨h1, h2, _⟩ := hi
        exact ⟨h1, by rw [List.getElem?_eq_getElem h1]; simpa using h2⟩
      refine ⟨by show c + i < c + own.length; omega, ?_⟩
      have h3 : ¬ c + i < c := by omega
      have h4 : c + i - c = i := by omega
      simp only [E2, h3, if_false, h4, hlt.2]
  have him : ∀ b o, E'.I b o → E2.I b o ∧ E2.w.cell? ⟨b, o, none⟩ = E'.w.cell? ⟨b, o, none⟩ := fun b o hb => ⟨hb, rfl⟩
  have hθ : ∀ τ, τ < c → E2.θ τ = E'.θ τ := fun τ hτ => by simp only [E2, hτ, if_true]
  have hcut' : ∀ {x y : V} {v : Value}, Cut H.length c (renTok c fs) x y → Rel E' x v → Rel E2 y v := fun hcut hr => hr.ren hcut him hθ (Nat.le_add_right _ _) (Nat.le_refl _) (fun _ _ => rfl) (fun _ _ => rfl) hren
  refine ⟨rv, r, H2, toks own c, E2, rfl, rfl, hcut' hcut hx, ⟨hl2.symm, fun o cs hcs => ?_, fun o off ho2 => ho'.noI o off (by omega), fun o o' h1 h2 => ho'.inj o o' (by omega) (by omega), ho'.inb⟩,
    ⟨fun τ e he => ?_, fun τ τ' e e' u u' g he he' hu hu' hg hg' => ?_⟩, ⟨⟨⟨by rw [hc]; exact Nat.le_add_right _ _, fun τ hτ => ?_, hext.le.imm⟩, by rw [hEnob]; exact Nat.le_refl _, hext.le.rho, hext.le.cps⟩, hext.base, hext.sz, hext.os, hext.tape, hext.output, hext.size, hext.keep, fun o h1 h2 => ?_, hext.newI⟩, rfl, rfl, rfl, rfl⟩
  · have hol : o < H.length := by rw [← hl2]; exact (List.getElem?_eq_some_iff.1 hcs).1
    rcases hobj o hol with ⟨h1, h2⟩ | ⟨xs', ys, h1, h2, hcl⟩
    · rw [h2] at hcs
      obtain ⟨us, ex, e, hb, hr', h1'⟩ := ho'.obj o cs (h1.trans hcs)
      obtain ⟨us0, ex0, e0, _, hr0, _⟩ := ho.obj o cs hcs
      refine ⟨us, ex, e, hb, hr'.ren (CutL.keep fun x hx => ?_) him hθ (Nat.le_add_right _ _) (Nat.le_refl _) (fun _ _ => rfl) (fun _ _ => rfl) hren, h1'⟩
      obtain ⟨j, hj⟩ := List.getElem?_of_mem hx
      have hjl : j < us0.length := by rw [hr0.1]; exact (List.getElem?_eq_some_iff.1 hj).1
      have := (hr0.2 j x _ hj (List.getElem?_eq_getElem hjl)).bd
      rw [hEnob, hc] at this
      exact this
    · rw [h2] at hcs; injection hcs with hcs; subst hcs
      obtain ⟨us, ex, e, hb, hr', h1'⟩ := ho'.obj o xs' h1
      exact ⟨us, ex, e, hb, hr'.ren hcl him hθ (Nat.le_add_right _ _) (Nat.le_refl _) (fun _ _ => rfl) (fun _ _ => rfl) hren, h1'⟩
  · obtain ⟨h1, h2⟩ := mem_toks.1 he
    have hi : τ - c < own.length := (List.getElem?_eq_some_iff.1 h2).1
    have hfi : fs[τ - c]? = some fs[τ - c] := List.getElem?_eq_getElem (by omega)
    obtain ⟨h3, v, hv, n, xs', hown, hg⟩ := ht'.own _ e (hfe _ _ _ hfi h2)
    refine ⟨by show τ < c + own.length; omega, v, ?_, n, xs', hown, fun g hgo => ⟨(hg g hgo).1, fun o ho2 => (hg g hgo).2 o (by omega)⟩⟩
    have h4 : ¬ τ < c := by omega
    simp only [E2, h4, if_false, hfi, hv]
  · obtain ⟨h1, h2⟩ := mem_toks.1 he
    obtain ⟨h1', h2'⟩ := mem_toks.1 he'
    have hi : τ - c < own.length := (List.getElem?_eq_some_iff.1 h2).1
    have hi' : τ' - c < own.length := (List.getElem?_eq_some_iff.1 h2').1
    have hfi : fs[τ - c]? = some fs[τ - c] := List.getElem?_eq_getElem (by omega)
    have hfi' : fs[τ' - c]? = some fs[τ' - c] := List.getElem?_eq_getElem (by omega)
    have h4 : ¬ τ < c := by omega
    have h4' : ¬ τ' < c := by omega
    simp only [E2, h4, h4', if_false, hfi, hfi'] at hu hu'
    have heq := ht'.sep _ _ e e' u u' g (hfe _ _ _ hfi h2) (hfe _ _ _ hfi' h2') hu hu' hg hg'
    have := (List.getElem_inj hnd).1 heq
    omega
  · rw [hc] at hτ
    rw [hθ τ hτ]
    exact hext.le.tok τ (by rw [hc]; exact hτ)
  · rw [hEnob] at h1
    have h2' : o < H.length := h2
    omega

theorem Does.pure {X : Ctx} {f : FuncId} {xs : List V} {R : Nat → V} {own : List TypeId} (h : ∀ H c, Does X f xs H c (R c) H own) : Pure X f xs R own := h

/-- A function that only computes. -/
theorem Pure.of {X : Ctx} {f : FuncId} {xs : List V} {R : Nat → V} {own : List TypeId} (h : ∀ H c, ACall X f xs H c fun r H' lv' _ => H'.take H.length = H ∧ ∃ fs : List Nat, fs.length = own.length ∧ (∀ (i τ : Nat) (e : TypeId), fs[i]? = some τ → own[i]? = some e → (τ, e) ∈ lv') ∧ fs.Nodup ∧
    Cut H.length c (renTok c fs) r (R c)) : Pure X f xs R own := fun H c => Does.of ((h H c).mono fun r H' lv' c' ⟨h1, fs, h2, h3, h4, h5⟩ => by
  have hl : H.length ≤ H'.length := by
    have := congrArg List.length h1
    rw [List.length_take] at this
    omega
  refine ⟨rfl, hl, fs, h2, h3, h4, h5, fun o ho => .inl ⟨?_, rfl⟩⟩
  have := congrArg (·[o]?) h1
  simp only [List.getElem?_take, ho, if_true] at this
  exact this)

/-- A function that only computes and hands back nothing of its own. -/
theorem Pure.of0 {X : Ctx} {f : FuncId} {xs : List V} {R : V} (h : ∀ H c, ACall X f xs H c fun r H' _ _ => H'.take H.length = H ∧ Cut H.length c (fun _ => none) r R) : Pure X f xs (fun _ => R) [] :=
  Pure.of fun H c => (h H c).mono fun r H' lv' c' ⟨h1, h2⟩ => ⟨h1, [], rfl, fun i τ e h => by simp at h, List.nodup_nil, h2⟩

/-- One slice of its own. -/
theorem Pure.of1 {X : Ctx} {f : FuncId} {xs : List V} {R : Nat → V} {e : TypeId} (h : ∀ H c, ACall X f xs H c fun r H' lv' _ => H'.take H.length = H ∧ ∃ τ, (τ, e) ∈ lv' ∧ Cut H.length c (renTok c [τ]) r (R c)) : Pure X f xs R [e] :=
  Pure.of fun H c => (h H c).mono fun r H' lv' c' ⟨h1, τ, h2, h3⟩ => ⟨h1, [τ], rfl, fun i τ' e' h4 h5 => by
    cases i with
    | zero => simp at h4 h5; subst h4; subst h5; exact h2
    | succ i => simp at h4, by simp, h3⟩
end Go.VS
