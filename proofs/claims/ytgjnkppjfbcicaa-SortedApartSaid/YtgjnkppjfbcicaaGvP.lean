/- Code: sequences, tests, loops; what may be forgotten. -/
import Derived.Test.YtgjnkppjfbcicaaGvO
namespace Go.VS
open Go.RowKit Go.Lib

/-! ### Forgetting -/

/-- Less is known. -/
inductive Wk : V → V → Prop
  | refl (x : V) : Wk x x
  | any (x : V) : Wk x .any
  | data {n sz : Nat} {xs ys : List V} {t t' : Option Nat} (hl : xs.length = ys.length) (h : ∀ (j : Nat) (x y : V), xs[j]? = some x → ys[j]? = some y → Wk x y) (ht : t' = none ∨ t' = t) : Wk (.data n sz xs t) (.data n sz ys t')
  | cap (o off n sz : Nat) (cap : Option Nat) : Wk (.osl o off n sz cap) (.osl o off n sz none)
  | nil (sz : Nat) : Wk (.sc (.slice none 0 0)) (.data 0 sz [] none)
  | agg {xs ys : List V} (hl : xs.length = ys.length) (h : ∀ (j : Nat) (x y : V), xs[j]? = some x → ys[j]? = some y → Wk x y) : Wk (.agg xs) (.agg ys)
  | tup {xs ys : List V} (hl : xs.length = ys.length) (h : ∀ (j : Nat) (x y : V), xs[j]? = some x → ys[j]? = some y → Wk x y) : Wk (.tup xs) (.tup ys)

theorem get_of_len {α β : Type} {xs : List α} {ys : List β} (hl : xs.length = ys.length) {j : Nat} {y : β} (h : ys[j]? = some y) : ∃ x, xs[j]? = some x :=
  ⟨_, List.getElem?_eq_getElem (by rw [hl]; exact (List.getElem?_eq_some_iff.1 h).1)⟩

theorem Rel.wk {E : Env} {x y : V} {v : Value} (h : Wk x y) : Rel E x v → Rel E y v := by
  induction h generalizing v with
  | refl x => exact id
  | any x => exact fun _ => .any v
  | data hl h ht ih =>
    intro hr
    obtain ⟨A, c, us, rfl, hz, hc, hm, h0, hcell, hR, hk⟩ := hr.data_inv
    refine .data us (hR.1.trans hl) (hl ▸ hz) hc hm h0 hcell (fun j x u hx hu => ?_) ?_
    · obtain ⟨x', hx'⟩ := get_of_len hl hx
      exact ih j x' x hx' hx (hR.2 j x' u hx' hu)
    · rcases ht with rfl | rfl
      · exact fun τ e => by cases e
      · exact hk
  | cap o off n sz cap =>
    intro hr
    obtain ⟨A, c, rfl, hlt, hA, hn, hm, _, hs⟩ := hr.osl_inv
    exact .osl c hlt hA hn hm (fun k e => by cases e) hs
  | nil sz =>
    intro hr
    have := hr.sc_inv; subst this
    exact .data [] rfl (by simp) (Nat.le_refl _) (by simp [maxLen]) (fun h => absurd h (by omega)) (fun j u hu => by simp at hu) (fun j x u hx => by simp at hx) (fun τ e => by cases e)
  | agg hl h ih =>
    intro hr
    obtain ⟨us, rfl, hR, h1⟩ := hr.agg_inv
    refine .agg us (hR.1.trans hl) h1 (fun j x u hx hu => ?_)
    obtain ⟨x', hx'⟩ := get_of_len hl hx
    exact ih j x' x hx' hx (hR.2 j x' u hx' hu)
  | tup hl h ih =>
    intro hr
    obtain ⟨us, rfl, hR⟩ := hr.tup_inv
    refine .tup us (hR.1.trans hl) (fun j x u hx hu => ?_)
    obtain ⟨x', hx'⟩ := get_of_len hl hx
    exact ih j x' x hx' hx (hR.2 j x' u hx' hu)

/-- References below k, tokens below c. -/
inductive Bd (k c : Nat) : V → Prop
  | any : Bd k c .any
  | sc (v : Value) : Bd k c (.sc v)
  | data {n sz : Nat} {cs : List V} {tok : Option Nat} (ht : ∀ τ, tok = some τ → τ < c) (h : ∀ x ∈ cs, Bd k c x) : Bd k c (.data n sz cs tok)
  | dptr {cs : List V} (h : ∀ x ∈ cs, Bd k c x) : Bd k c (.dptr cs)
  | ref {o off : Nat} (h : o < k) : Bd k c (.ref o off)
  | osl {o off n sz : Nat} {cap : Option Nat} (h : o < k) : Bd k c (.osl o off n sz cap)
  | clo {f : FuncId} {cs : List V} (h : ∀ x ∈ cs, Bd k c x) : Bd k c (.clo f cs)
  | agg {cs : List V} (h : ∀ x ∈ cs, Bd k c x) : Bd k c (.agg cs)
  | tup {cs : List V} (h : ∀ x ∈ cs, Bd k c x) : Bd k c (.tup cs)

section
variable {k c n sz o off : Nat} {cs : List V} {tok : Option Nat} {v : Value} {f : FuncId}
@[simp] theorem bd_any : Bd k c .any ↔ True := ⟨fun _ => trivial, fun _ => .any⟩
@[simp] theorem bd_sc : Bd k c (.sc v) ↔ True := ⟨fun _ => trivial, fun _ => .sc v⟩
@[simp] theorem bd_data : Bd k c (.data n sz cs tok) ↔ (∀ τ, tok = some τ → τ < c) ∧ ∀ x ∈ cs, Bd k c x := ⟨fun h => by cases h; exact ⟨‹_›, ‹_›⟩, fun h => .data h.1 h.2⟩
@[simp] theorem bd_dptr : Bd k c (.dptr cs) ↔ ∀ x ∈ cs, Bd k c x := ⟨fun h => by cases h; assumption, .dptr⟩
@[simp] theorem bd_ref : Bd k c (.ref o off) ↔ o < k := ⟨fun h => by cases h; assumption, .ref⟩
@[simp] theorem bd_osl {cap : Option Nat} : Bd k c (.osl o off n sz cap) ↔ o < k := ⟨fun h => by cases h; assumption, .osl⟩
@[simp] theorem bd_clo : Bd k c (.clo f cs) ↔ ∀ x ∈ cs, Bd k c x := ⟨fun h => by cases h; assumption, .clo⟩
@[simp] theorem bd_agg : Bd k c (.agg cs) ↔ ∀ x ∈ cs, Bd k c x := ⟨fun h => by cases h; assumption, .agg⟩
@[simp] theorem bd_tup : Bd k c (.tup cs) ↔ ∀ x ∈ cs, Bd k c x := ⟨fun h => by cases h; assumption, .tup⟩
end

theorem Rel.bd {E : Env} {x : V} {v : Value} (h : Rel E x v) : Bd E.nobj E.ctr x := by
  have ex : ∀ {cs : List V} {us : List Value}, us.length = cs.length → (∀ (j : Nat) (x : V) (u : Value), cs[j]? = some x → us[j]? = some u → Bd E.nobj E.ctr x) → ∀ x ∈ cs, Bd E.nobj E.ctr x := by
    intro cs us hl h x hx
    obtain ⟨j, hj⟩ := List.getElem?_of_mem hx
    have hlt : j < us.length := by rw [hl]; exact (List.getElem?_eq_some_iff.1 hj).1
    exact h j x _ hj (List.getElem?_eq_getElem hlt)
  induction h with
  | any v => exact .any
  | sc v => exact .sc v
  | data us hl hz hc hm h0 hcell _ ht ih => exact .data (fun τ e => (ht τ e).1) (ex hl ih)
  | dptr us hl hs hcell _ ih => exact .dptr (ex hl ih)
  | ref ho => exact .ref ho
  | osl c ho hA hn hm hc hs => exact .osl ho
  | clo us hl _ ih => exact .clo (ex hl ih)
  | agg us hl h1 _ ih => exact .agg (ex hl ih)
  | tup us hl _ ih => exact .tup (ex hl ih)

/-- The same value in another environment that agrees below k and c. -/
theorem Rel.cut {E E' : Env} {x : V} {v : Value} {k c : Nat} (h : Rel E x v) (him : ∀ b o, E.I b o → E'.I b o ∧ E'.w.cell? ⟨b, o, none⟩ = E.w.cell? ⟨b, o, none⟩) (hθ : ∀ τ, τ < c → E'.θ τ = E.θ τ) (hc : c ≤ E'.ctr)
    (hk : k ≤ E'.nobj) (hρ : ∀ o, o < k → E'.ρ o = E.ρ o) (hcp : ∀ o, o < k → E'.cp o = E.cp o) : Bd k c x → Rel E' x v := by
  have hcl : ∀ {A : Option Addr} {us : List Value}, CellsAt E A us → CellsAt E' A us := fun h j u hu => by
    obtain ⟨a, e, hs, hI, hcc, h1⟩ := h j u hu
    exact ⟨a, e, hs, (him _ _ hI).1, (him _ _ hI).2.trans hcc, h1⟩
  induction h with
  | any v => exact fun _ => .any v
  | sc v => exact fun _ => .sc v
  | data us hl hz hcc hx h0 hcell _ ht ih =>
    intro hn
    obtain ⟨h1, h2⟩ := bd_data.1 hn
    exact .data us hl hz hcc hx h0 (hcl hcell) (fun j x u hx hu => ih j x u hx hu (h2 x (mem_of_get hx))) (fun τ e => ⟨Nat.lt_of_lt_of_le (h1 τ e) hc, fun u hu => (ht τ e).2 u ((hθ τ (h1 τ e)).symm.trans hu)⟩)
  | dptr us hl hs hcell _ ih => exact fun hn => .dptr us hl hs (hcl hcell) (fun j x u hx hu => ih j x u hx hu (bd_dptr.1 hn x (mem_of_get hx)))
  | ref ho => exact fun hn => by rw [← hρ _ (bd_ref.1 hn)]; exact .ref (Nat.lt_of_lt_of_le (bd_ref.1 hn) hk)
  | osl c ho h0 h1 h2 h3 h4 => exact fun hn => .osl c (Nat.lt_of_lt_of_le (bd_osl.1 hn) hk) (by rw [hρ _ (bd_osl.1 hn)]; exact h0) h1 h2 h3 (by rw [hcp _ (bd_osl.1 hn)]; exact h4)
  | clo us hl _ ih => exact fun hn => .clo us hl (fun j x u hx hu => ih j x u hx hu (bd_clo.1 hn x (mem_of_get hx)))
  | agg us hl h1 _ ih => exact fun hn => .agg us hl h1 (fun j x u hx hu => ih j x u hx hu (bd_agg.1 hn x (mem_of_get hx)))
  | tup us hl _ ih => exact fun hn => .tup us hl (fun j x u hx hu => ih j x u hx hu (bd_tup.1 hn x (mem_of_get hx)))

/-- What holds in the one state holds in the other. -/
def SubG (X : Ctx) (h0 : Nat) (Γ Γ' : St) : Prop := ∀ E0 N a w, E0.nobj = h0 → E0.sz = X.P.cellsOf → HoldsG X.G E0 N Γ a w → HoldsG X.G E0 N Γ' a w

theorem SubG.refl (X : Ctx) (h0 : Nat) (Γ : St) : SubG X h0 Γ Γ := fun _ _ _ _ _ _ h => h
theorem SubG.trans {X : Ctx} {h0 : Nat} {A B C : St} (h : SubG X h0 A B) (k : SubG X h0 B C) : SubG X h0 A C := fun E0 N a w h1 h2 h3 => k E0 N a w h1 h2 (h E0 N a w h1 h2 h3)

def envOf : List (Nat × V) → Nat → V
  | [], _ => .any
  | (k, v) :: l, t => if t = k then v else envOf l t

/-- Slots are forgotten, or less is known of them. -/
theorem SubG.env {X : Ctx} {h0 : Nat} {Γ : St} {tm : Nat → V} {lv : List (Nat × TypeId)} (h : ∀ t, Wk (Γ.tm t) (tm t)) (hlv : ∀ p ∈ lv, p ∈ Γ.lv) : SubG X h0 Γ ⟨tm, Γ.hp, lv, Γ.ctr⟩ := by
  rintro E0 N a w - - ⟨E, hw, hh, hG⟩
  exact ⟨E, hw, ⟨hh.ctr, hh.objs, ⟨fun τ e he => hh.toks.own τ e (hlv _ he), fun τ τ' e e' u u' g he he' => hh.toks.sep τ τ' e e' u u' g (hlv _ he) (hlv _ he')⟩, hh.ext, hh.size, hh.defers, fun t => (hh.tm t).wk (h t)⟩, hG⟩

theorem wk_envOf {f : Nat → V} : ∀ (l : List (Nat × V)), (∀ p ∈ l, Wk (f p.1) p.2) → ∀ t, Wk (f t) (envOf l t)
  | [], _, t => .any _
  | (k, v) :: l, h, t => by
    simp only [envOf]
    split
    · rename_i e; subst e; exact h (t, v) (by simp)
    · exact wk_envOf l (fun p hp => h p (by simp [hp])) t

/-- A nil slice may be appended to: it gets a token. -/
theorem SubG.nilTok {X : Ctx} {h0 : Nat} {Γ : St} (t : Nat) (e : TypeId) (h : Γ.tm t = .sc (.slice none 0 0)) : SubG X h0 Γ { Γ with tm := fun s => if s = t then .data 0 (X.P.cellsOf e) [] (some Γ.ctr) else Γ.tm s, lv := (Γ.ctr, e) :: Γ.lv, ctr := Γ.ctr + 1 } := by
  rintro E0 N a w - hsz ⟨E, rfl, hh, hG⟩
  obtain ⟨E', hw, hle, hh', hx⟩ := hh.owned (τ0 := none) (e := e) (n := 0) (xs := []) (cs := []) (v := .slice none 0 0) (World.grownBy.refl _ none) (World.ownsRow_nil _ _ _ _) (.inl rfl) (fun g hg => by cases hg) (fun g off hg => by cases hg) RelL.nil (by simp) (by simp [maxLen])
  refine ⟨E', hw, ⟨hh'.ctr, hh'.objs, hh'.toks, hh'.ext, hh'.size, hh'.defers, fun s => ?_⟩, hG.le hle⟩
  by_cases hs : s = t
  · subst hs
    simp only [if_true]
    have h1 := hh.tm s
    rw [h] at h1
    rw [h1.sc_inv, ← hsz, ← hh.ext.sz]
    exact hx
  · simp only [if_neg hs]
    exact hh'.tm s

/-- Objects from k on are forgotten. -/
theorem SubG.drop {X : Ctx} {h0 : Nat} {Γ : St} (k : Nat) (hk : h0 ≤ k) (hkl : k ≤ Γ.hp.length) (htm : ∀ t, NR k (Γ.tm t)) (hhp : ∀ cs ∈ Γ.hp.take k, ∀ x ∈ cs, NR k x) (hGn : ∀ g cs, X.G g = some cs → ∀ x ∈ cs, NR k x) : SubG X h0 Γ { Γ with hp := Γ.hp.take k } := by
  rintro E0 N a w h0e hsz ⟨E, rfl, hh, hG⟩
  let E' : Env := { E with nobj := k }
  have hlp : LeP E E' := ⟨Nat.le_refl _, fun _ _ => rfl, fun b o hb => ⟨hb, rfl⟩⟩
  have hcut : ∀ {x : V} {v : Value}, NR k x → Rel E x v → Rel E' x v := fun hn hr => hr.leNR hlp k (Nat.le_refl _) (fun _ _ => rfl) (fun _ _ => rfl) hn
  have hlen : (Γ.hp.take k).length = k := by rw [List.length_take]; exact Nat.min_eq_left hkl
  refine ⟨E', rfl, ⟨hh.ctr, ⟨hlen.symm, fun o cs ho => ?_, fun o off ho => hh.objs.noI o off (by rw [hlen] at ho; omega), fun o o' ho ho' => hh.objs.inj o o' (by rw [hlen] at ho; omega) (by rw [hlen] at ho'; omega), hh.objs.inb⟩,
    ⟨fun τ e he => ?_, hh.toks.sep⟩, ⟨⟨⟨hh.ext.le.ctr, hh.ext.le.tok, hh.ext.le.imm⟩, by show E0.nobj ≤ k; omega, hh.ext.le.rho, hh.ext.le.cps⟩, hh.ext.base, hh.ext.sz, hh.ext.os, hh.ext.tape, hh.ext.output, hh.ext.size, hh.ext.keep, fun o h1 h2 => hh.ext.newo o h1 (by rw [hh.objs.nob]; have h2' : o < k := h2; omega), hh.ext.newI⟩, hh.size, hh.defers, fun t => hcut (htm t) (hh.tm t)⟩, fun g cs hg => ?_⟩
  · have ho' : Γ.hp[o]? = some cs := by
      rw [List.getElem?_take] at ho
      split at ho
      · exact ho
      · cases ho
    obtain ⟨us, ex, e, hb, hr, h1⟩ := hh.objs.obj o cs ho'
    exact ⟨us, ex, e, hb, ⟨hr.1, fun j x u hx hu => hcut (hhp cs (List.mem_of_getElem? ho) x (List.mem_of_getElem? hx)) (hr.2 j x u hx hu)⟩, h1⟩
  · obtain ⟨h1, v, hv, n, xs, hown, hg⟩ := hh.toks.own τ e he
    exact ⟨h1, v, hv, n, xs, hown, fun g hgo => ⟨(hg g hgo).1, fun o ho => (hg g hgo).2 o (by rw [hlen] at ho; omega)⟩⟩
  · exact hcut (nr_dptr.2 (hGn g cs hg)) (hG g cs hg)
end Go.VS
