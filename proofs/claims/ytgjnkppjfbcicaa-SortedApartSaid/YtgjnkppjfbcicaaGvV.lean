/- Walking rules for slices over objects. -/
import Derived.Test.YtgjnkppjfbcicaaGvU
namespace Go.VS

def vmt (T : Tab) (t u : TypeId) : Option (Nat × Nat) := match T t with
  | some ⟨.slice e, _, _, _⟩ => (match T e with | some ti => if u = t ∧ 0 < ti.size ∧ ti.zero.length = ti.size ∧ ti.zero.all (·.oneCell') = true then some (ti.size, ti.bytes) else none | none => none)
  | _ => none

section
variable {X : Ctx} {Γ : St} {K : St → Prop} {d : Option Nat} {ty t u : TypeId} {pos : String} {af : Array Edge} {g : Option (Nat × Bool)}

@[go_sem ↓] theorem mut_buildSlice {len : Nat} {parts : Array (Nat × Operand)} : mutG X ⟨d, .buildSlice t len parts, ty, pos, af, g⟩ Γ K =
    onB (vbs X.T t len (mapP X.G Γ parts.toList)) fun sz cs _ => onV (some (.osl Γ.hp.length 0 len sz (some len))) fun y => onH (some (Γ.hp ++ [cs])) fun H => K ((Γ.setHp H).put d y) := by
  unfold mutG vbs mapP
  simp only
  generalize hvt : X.T t = vt
  match vt with
  | none => rfl
  | some ⟨.slice e, _, _, _⟩ =>
    simp only
    cases X.T e with
    | none => rfl
    | some ti =>
      simp only
      by_cases hh : len * ti.size ≤ 16777216 ∧ 0 < ti.size ∧ ti.zero.length = ti.size ∧ (ti.zero.all fun x => x.oneCell') = true
      · rw [if_pos hh, ← vzF_eq ti.zero (len * ti.size) (by omega)]
        cases vfill (fun i => some (i * ti.size, ti.size)) (vzeros ti.zero (len * ti.size)) (parts.toList.map fun p => (p.1, opv X.G Γ.tm p.2)) with
        | none => simp only [onB]; exact propext ⟨fun h => h.2.2.2.2, fun h => h.elim⟩
        | some cs => simp only [onB, onV, onH, St.setHp]; exact propext ⟨fun h => h.2.2.2.2, fun h => ⟨hh.1, hh.2.1, hh.2.2.1, hh.2.2.2, h⟩⟩
      · rw [if_neg hh]
        simp only [onB]
        exact propext ⟨fun h => hh ⟨h.1, h.2.1, h.2.2.1, h.2.2.2.1⟩, fun h => h.elim⟩
  | some ⟨.bool, _, _, _⟩ => rfl
  | some ⟨.int _, _, _, _⟩ => rfl
  | some ⟨.string, _, _, _⟩ => rfl
  | some ⟨.pointer _, _, _, _⟩ => rfl
  | some ⟨.array _ _, _, _, _⟩ => rfl
  | some ⟨.struct _, _, _, _⟩ => rfl
  | some ⟨.other, _, _, _⟩ => rfl

@[go_sem ↓] theorem mut_append {a v : Operand} : mutG X ⟨d, .call ⟨.builtin .append, #[a, v], #[t, u]⟩, ty, pos, af, g⟩ Γ K =
    onN (vmt X.T t u) fun sz by_ => onW (orow Γ.hp sz (opv X.G Γ.tm v)) fun m ds => onApp Γ d (opv X.G Γ.tm a) m ds sz by_ K := by
  unfold mutG vmt
  simp only
  generalize hvt : X.T t = vt
  match vt with
  | none => rfl
  | some ⟨.slice e, _, _, _⟩ =>
    simp only
    cases X.T e with
    | none => rfl
    | some ti =>
      simp only
      by_cases hh : u = t ∧ 0 < ti.size ∧ ti.zero.length = ti.size ∧ (ti.zero.all fun x => x.oneCell') = true
      · rw [if_pos hh]
        simp only [onN, onW]
        cases orow Γ.hp ti.size (opv X.G Γ.tm v) with
        | none => exact propext ⟨fun h => h.2.2.2.2, fun h => h.elim⟩
        | some p => exact propext ⟨fun h => h.2.2.2.2, fun h => ⟨hh.1, hh.2.1, hh.2.2.1, hh.2.2.2, h⟩⟩
      · rw [if_neg hh]
        simp only [onN]
        exact propext ⟨fun h => hh ⟨h.1, h.2.1, h.2.2.1, h.2.2.2.1⟩, fun h => h.elim⟩
  | some ⟨.bool, _, _, _⟩ => rfl
  | some ⟨.int _, _, _, _⟩ => rfl
  | some ⟨.string, _, _, _⟩ => rfl
  | some ⟨.pointer _, _, _, _⟩ => rfl
  | some ⟨.array _ _, _, _, _⟩ => rfl
  | some ⟨.struct _, _, _, _⟩ => rfl
  | some ⟨.other, _, _, _⟩ => rfl

def mapO (G : Nat → Option (List V)) (Γ : St) (o : Option Operand) (_ : Hold (G, Γ) := .mk) : Option V := o.map (opv G Γ.tm)
theorem mapO_some {G : Nat → Option (List V)} {o : Operand} : mapO G Γ (some o) = some (opv G Γ.tm o) := rfl
theorem mapO_none {G : Nat → Option (List V)} : mapO G Γ none = none := rfl
attribute [go_sem ↓] mapO_some mapO_none
def vslc (T : Tab) (t : TypeId) (x : V) (lo hi mx : Option V) : Option (Prop × V) := match x with
  | .osl o off n sz cap => vosl T t (.osl o off n sz cap) lo hi mx
  | y => match mx with | none => vslice T t y lo hi | some _ => none
theorem vslc_eq {o : Operand} {lo hi mx : Option Operand} : vval X.T X.Q Γ.hp (opv X.G Γ.tm) (.slice t o lo hi mx) = vslc X.T t (opv X.G Γ.tm o) (mapO X.G Γ lo) (mapO X.G Γ hi) (mapO X.G Γ mx) := by
  simp only [vval, vslc]
  cases opv X.G Γ.tm o <;> cases mx <;> rfl
@[go_sem ↓] theorem op_slice {o : Operand} {lo hi mx : Option Operand} : awpOp X ⟨d, .slice t o lo hi mx, ty, pos, af, g⟩ Γ K = onC (vslc X.T t (opv X.G Γ.tm o) (mapO X.G Γ lo) (mapO X.G Γ hi) (mapO X.G Γ mx)) fun y => K (Γ.put d y) :=
  awpOp_val (o := ⟨d, .slice t o lo hi mx, ty, pos, af, g⟩) rfl (by simp) vslc_eq rfl
@[go_sem ↓] theorem opD_slice {o : Operand} {lo hi mx : Option Operand} : awpOpD X ⟨d, .slice t o lo hi mx, ty, pos, af, g⟩ Γ K = onC (vslc X.T t (opv X.G Γ.tm o) (mapO X.G Γ lo) (mapO X.G Γ hi) (mapO X.G Γ mx)) fun y => K (Γ.put d y) :=
  awpOpD_val (o := ⟨d, .slice t o lo hi mx, ty, pos, af, g⟩) rfl (by simp) vslc_eq rfl
attribute [go_sem] vslc vosl vslice vobound vbound orow vmt Option.map_some Option.map_none nilSlice
end
theorem appOut_osl {Γ : St} {d : Option Nat} {o off n sz m size by_ : Nat} {cap : Option Nat} {ds cs : List V} {K : St → Prop} (hcs : Γ.hp[o]? = some cs) (h1 : sz = size) (h2 : off + n * sz ≤ cs.length)
    (h0 : m = 0 → onV (some (.osl o off n sz cap)) fun y => K (Γ.put d y)) (h3 : m ≠ 0 → n + m ≤ 9223372036854775807 ∧ (n + m) * by_ ≤ 140737488355328)
    (hin : m ≠ 0 → (∀ c, cap = some c → n + m ≤ c) → onH (some (Γ.hp.set o (vsplice cs (off + n * sz) ds))) fun H => onV (some (.osl o off (n + m) sz cap)) fun y => K ((Γ.setHp H).put d y))
    (hmv : m ≠ 0 → (∀ c, cap = some c → c < n + m) → onV (some (.osl Γ.hp.length 0 (n + m) sz none)) fun y => onH (some (Γ.hp ++ [(cs.drop off).take (n * sz) ++ ds])) fun H => K ((Γ.setHp H).put d y)) :
    onApp Γ d (.osl o off n sz cap) m ds size by_ K := by
  unfold onApp appOut
  simp only [hcs]
  exact ⟨h1, h2, h0, fun hm => ⟨(h3 hm).1, (h3 hm).2, fun hc => hin hm hc, fun hc => hmv hm hc⟩⟩
theorem appOut_nil {Γ : St} {d : Option Nat} {m size by_ : Nat} {ds : List V} {K : St → Prop} (h0 : m = 0 → onV (some (.sc (.slice none 0 0))) fun y => K (Γ.put d y)) (h3 : m ≠ 0 → m ≤ 9223372036854775807 ∧ m * by_ ≤ 140737488355328)
    (hmv : m ≠ 0 → onV (some (.osl Γ.hp.length 0 m size none)) fun y => onH (some (Γ.hp ++ [ds])) fun H => K ((Γ.setHp H).put d y)) : onApp Γ d (.sc (.slice none 0 0)) m ds size by_ K :=
  ⟨rfl, h0, fun hm => ⟨(h3 hm).1, (h3 hm).2, hmv hm⟩⟩

def onAppD (Γ : St) (d : Option Nat) (s : V) (m : Nat) (ds : List V) (size bytes : Nat) (g : Bool) (K : St → Prop) (_ : Hold (Γ, K) := .mk) : Prop := ∃ Γ', appOut Γ d s m ds size bytes (fun Γ'' => Γ'' = Γ') ∧ (g = true → ∃ M, Γ'.hp = Γ.hp ++ M) ∧ K Γ'

section
variable {X : Ctx} {Γ : St} {K : St → Prop} {d : Option Nat} {ty t u : TypeId} {pos : String} {af : Array Edge} {g : Option (Nat × Bool)}
@[go_sem ↓] theorem mutD_buildSlice {len : Nat} {parts : Array (Nat × Operand)} : mutD X ⟨d, .buildSlice t len parts, ty, pos, af, g⟩ Γ K =
    onB (vbs X.T t len (mapP X.G Γ parts.toList)) fun sz cs _ => onV (some (.osl Γ.hp.length 0 len sz (some len))) fun y => onH (some (Γ.hp ++ [cs])) fun H => K ((Γ.setHp H).put d y) := by
  unfold mutD
  simp only [mut_buildSlice]
  cases vbs X.T t len (mapP X.G Γ parts.toList) with
  | none => simp [onB]
  | some p => obtain ⟨sz, cs, e⟩ := p; simp [onB, onV, onH, addApp]
@[go_sem ↓] theorem mutD_append {a v : Operand} : mutD X ⟨d, .call ⟨.builtin .append, #[a, v], #[t, u]⟩, ty, pos, af, g⟩ Γ K =
    onN (vmt X.T t u) fun sz by_ => onW (orow Γ.hp sz (opv X.G Γ.tm v)) fun m ds => onAppD Γ d (opv X.G Γ.tm a) m ds sz by_ (X.mt t && X.mt (2000000 + t)) K := by
  unfold mutD
  simp only [mut_append]
  cases vmt X.T t u with
  | none => simp [onN]
  | some p =>
    obtain ⟨sz, by_⟩ := p
    simp only [onN]
    cases orow Γ.hp sz (opv X.G Γ.tm v) with
    | none => simp [onW]
    | some q => rfl
end
/-- An append that must move. -/
theorem appOutD_moved {Γ : St} {d : Option Nat} {o off n sz m size by_ k : Nat} {ds cs : List V} {K : St → Prop} (hcs : Γ.hp[o]? = some cs) (h1 : sz = size) (h2 : off + n * sz ≤ cs.length) (h0 : m ≠ 0) (hk : k < n + m) (h3 : n + m ≤ 9223372036854775807 ∧ (n + m) * by_ ≤ 140737488355328)
    (hmv : onV (some (.osl Γ.hp.length 0 (n + m) sz none)) fun y => onH (some (Γ.hp ++ [(cs.drop off).take (n * sz) ++ ds])) fun H => K ((Γ.setHp H).put d y)) {g : Bool} : onAppD Γ d (.osl o off n sz (some k)) m ds size by_ g K := by
  refine ⟨_, ?_, fun _ => ⟨[List.take (n * sz) (List.drop off cs) ++ ds], by simp [St.setHp]⟩, hmv⟩
  unfold appOut
  simp only [hcs]
  refine ⟨h1, h2, fun h => absurd h h0, fun _ => ⟨h3.1, h3.2, fun hc => ?_, fun _ => rfl⟩⟩
  have := hc k rfl
  omega
/-- An append of nothing. -/
theorem appOutD_same {Γ : St} {d : Option Nat} {o off n sz size by_ : Nat} {cap : Option Nat} {ds cs : List V} {K : St → Prop} {g : Bool} (hcs : Γ.hp[o]? = some cs) (h1 : sz = size) (h2 : off + n * sz ≤ cs.length)
    (hk : onV (some (.osl o off n sz cap)) fun y => K (Γ.put d y)) : onAppD Γ d (.osl o off n sz cap) 0 ds size by_ g K := by
  refine ⟨Γ.put d (.osl o off n sz cap), ?_, fun _ => ⟨[], by simp⟩, hk⟩
  unfold appOut
  simp only [hcs]
  exact ⟨h1, h2, fun _ => trivial, fun h => absurd rfl h⟩
end Go.VS
