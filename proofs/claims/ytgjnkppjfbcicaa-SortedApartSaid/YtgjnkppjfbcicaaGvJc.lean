/- What a made or appended slice hangs on. -/
import Derived.Test.YtgjnkppjfbcicaaGvJb
namespace Go.VS

theorem put_tm (Γ : St) (d : Option Nat) (x : V) (t : Nat) : (Γ.put d x).tm t = if d = some t then x else Γ.tm t := by
  cases d with
  | none => rfl
  | some d => simp only [St.put, Option.some.injEq]; by_cases h : t = d <;> simp [h, eq_comm]
@[simp] theorem put_hp (Γ : St) (d : Option Nat) (x : V) : (Γ.put d x).hp = Γ.hp := by cases d <;> rfl
@[simp] theorem put_lv (Γ : St) (d : Option Nat) (x : V) : (Γ.put d x).lv = Γ.lv := by cases d <;> rfl
@[simp] theorem put_ctr (Γ : St) (d : Option Nat) (x : V) : (Γ.put d x).ctr = Γ.ctr := by cases d <;> rfl

/-- Operations whose rows are objects. -/
def mutOp (mt : TypeId → Bool) : Op → Bool
  | .buildSlice t _ _ => mt t
  | .makeSlice t _ _ => mt t
  | .call c => match c.callee with | .builtin .append => mt (c.argTypes.toList.headD 0) | _ => false
  | _ => false

section
variable {X : Ctx} {o : Oper} {Γ Γ2 : St} {K K2 : St → Prop}

theorem put_self (Γ : St) (d : Option Nat) (v : V) : Γ.put d v = ({ Γ with hp := Γ.hp } : St).put d v := rfl

theorem mutG_local (hs : mutG X o Γ K) (he : ∀ x ∈ o.op.operands, opv X.G Γ2.tm x = opv X.G Γ.tm x) (hh : Γ2.hp = Γ.hp) (hk : ∀ H v, K (({ Γ with hp := H } : St).put o.dst v) → K2 (({ Γ2 with hp := H } : St).put o.dst v)) : mutG X o Γ2 K2 := by
  obtain ⟨dst, op, ty, pos, after, guard⟩ := o
  cases op <;> simp only [mutG] at hs ⊢ <;> try exact hs.elim
  case buildSlice t len parts =>
    have hps : (parts.toList.map fun p => (p.1, opv X.G Γ2.tm p.2)) = parts.toList.map fun p => (p.1, opv X.G Γ.tm p.2) := List.map_congr_left fun p hp => by
      rw [he p.2 (by simp only [Op.operands, List.mem_toArray, List.mem_map]; exact ⟨p, hp, rfl⟩)]
    split at hs <;> try exact hs.elim
    rename_i e n0 b0 z0 ht
    split at hs <;> try exact hs.elim
    rename_i ti hte
    obtain ⟨hsm, hpos, hzl, hz1, hs⟩ := hs
    split at hs <;> try exact hs.elim
    rename_i cs hf
    simp only [ht, hte, hps, hf, hh]
    exact ⟨hsm, hpos, hzl, hz1, hk _ _ hs⟩
  case makeSlice t l c =>
    simp only [Op.operands, List.mem_toArray, List.mem_cons, List.not_mem_nil, or_false, forall_eq_or_imp, forall_eq] at he
    split at hs <;> try exact hs.elim
    rename_i e n0 b0 z0 kl lk kc ck ht hl hc
    split at hs <;> try exact hs.elim
    rename_i ti hte
    obtain ⟨hpos, hzl, hz1, c0, c1, c2, c3, hs⟩ := hs
    simp only [he.1, he.2, ht, hl, hc, hte, hh]
    exact ⟨hpos, hzl, hz1, c0, c1, c2, c3, hk _ _ hs⟩
  case call c =>
    obtain ⟨callee, ⟨args⟩, ⟨argTypes⟩⟩ := c
    have hargs : ∀ x ∈ args, opv X.G Γ2.tm x = opv X.G Γ.tm x := fun x hx => he x (by simp only [Op.operands, Call.operands, Array.mem_append]; exact .inr (by simpa using hx))
    dsimp only at hs ⊢
    split at hs <;> try exact hs.elim
    rename_i s x t u
    split at hs <;> try exact hs.elim
    rename_i e n0 b0 z0 ht
    split at hs <;> try exact hs.elim
    rename_i ti hte
    obtain ⟨rfl, hpos, hzl, hz1, hs⟩ := hs
    split at hs <;> try exact hs.elim
    rename_i m ds hrow
    simp only [hargs s (by simp), hargs x (by simp), ht, hte, hh, hrow]
    refine ⟨trivial, hpos, hzl, hz1, ?_⟩
    unfold appOut at hs ⊢
    split at hs
    · rename_i o off n sz cap hsv
      split at hs <;> try exact hs.elim
      rename_i cs hcs
      simp only [hh, hcs]
      obtain ⟨h1, h2, h3, h4⟩ := hs
      refine ⟨h1, h2, fun hm => ?_, fun hm => ?_⟩
      · have := hk Γ2.hp _ (by rw [hh]; exact h3 hm)
        exact this
      · obtain ⟨h5, h6, h7, h8⟩ := h4 hm
        exact ⟨h5, h6, fun hc => hk _ _ (h7 hc), fun hc => hk _ _ (h8 hc)⟩
    · rename_i sv hsv
      obtain ⟨h1, h3, h4⟩ := hs
      refine ⟨h1, fun hm => ?_, fun hm => ?_⟩
      · have := hk Γ2.hp _ (by rw [hh]; exact h3 hm)
        exact this
      · obtain ⟨h5, h6, h7⟩ := h4 hm
        exact ⟨h5, h6, by rw [hh]; exact hk _ _ h7⟩

theorem mutG_out (hs : mutG X o Γ K) : ∃ H v, K (({ Γ with hp := H } : St).put o.dst v) := by
  obtain ⟨dst, op, ty, pos, after, guard⟩ := o
  cases op <;> simp only [mutG] at hs ⊢ <;> try exact hs.elim
  case buildSlice t len parts =>
    split at hs <;> try exact hs.elim
    split at hs <;> try exact hs.elim
    obtain ⟨hsm, hpos, hzl, hz1, hs⟩ := hs
    split at hs <;> try exact hs.elim
    exact ⟨_, _, hs⟩
  case makeSlice t l c =>
    split at hs <;> try exact hs.elim
    split at hs <;> try exact hs.elim
    obtain ⟨hpos, hzl, hz1, c0, c1, c2, c3, hs⟩ := hs
    exact ⟨_, _, hs⟩
  case call c =>
    obtain ⟨callee, ⟨args⟩, ⟨argTypes⟩⟩ := c
    dsimp only at hs ⊢
    split at hs <;> try exact hs.elim
    split at hs <;> try exact hs.elim
    split at hs <;> try exact hs.elim
    obtain ⟨rfl, hpos, hzl, hz1, hs⟩ := hs
    split at hs <;> try exact hs.elim
    rename_i m ds hrow
    unfold appOut at hs
    split at hs
    · rename_i o off n sz cap hsv
      split at hs <;> try exact hs.elim
      obtain ⟨h1, h2, h3, h4⟩ := hs
      by_cases hm : m = 0
      · exact ⟨Γ.hp, _, h3 hm⟩
      · obtain ⟨h5, h6, h7, h8⟩ := h4 hm
        cases cap with
        | none => exact ⟨_, _, h7 (fun c e => by cases e)⟩
        | some c =>
          by_cases hc : n + m ≤ c
          · exact ⟨_, _, h7 (fun c' e => by injection e with e; omega)⟩
          · exact ⟨_, _, h8 (fun c' e => by injection e with e; omega)⟩
    · obtain ⟨h1, h3, h4⟩ := hs
      by_cases hm : m = 0
      · exact ⟨Γ.hp, _, h3 hm⟩
      · exact ⟨_, _, (h4 hm).2.2⟩

theorem mutG_mono (hs : mutG X o Γ K) (hk : ∀ Γ', K Γ' → K2 Γ') : mutG X o Γ K2 := mutG_local hs (fun _ _ => rfl) rfl fun _ _ h => hk _ h
end
end Go.VS
