/- The table of types, out of the program; the words that walks are made of. -/
import Derived.Test.YtgjnkppjfbcicaaGvR
namespace Go.VS
open Go.RowKit Go.Lib

def tyOf : TypeDesc → Ty
  | .bool => .bool
  | .int k => .int k
  | .string => .string
  | .pointer e => .pointer e
  | .slice e => .slice e
  | .array n e => .array n e
  | .struct F => .struct (F.toList.map fun f => (f.offset, f.type))
  | _ => .other

def isAggV : Value → Bool
  | .agg _ => true
  | _ => false

def tabOf (P : Program) : Tab := fun t =>
  match P.underlying t, P.info? t with
  | some d, some i => match i.zero with
    | some z => bif (tyOf d).isAgg == isAggV z then some ⟨tyOf d, i.size, i.bytes, z.cells.toList⟩ else none
    | none => none
  | _, _ => none

theorem tabOk (P : Program) : TabOk P (tabOf P) := by
  refine ⟨fun t ti h => ?_⟩
  unfold tabOf at h
  split at h <;> try cases h
  rename_i d i hd hi
  split at h <;> try cases h
  rename_i z hz
  cases hb : ((tyOf d).isAgg == isAggV z) with
  | false => rw [hb] at h; cases h
  | true =>
    rw [hb] at h
    cases h
    refine ⟨?_, i, z, hi, rfl, rfl, hz, rfl, fun ha => ?_, fun ha => ?_⟩
    · cases d <;> simp only [tyOf, TyOk] <;> first | exact hd | exact ⟨_, hd, by simp, by simp⟩ | exact ⟨_, hd, rfl⟩
    · simp only at ha
      rw [ha] at hb
      cases z <;> simp [isAggV] at hb
      simp [Value.cells]
    · simp only at ha
      rw [ha] at hb
      cases z <;> simp [isAggV] at hb <;> simp [Value.cells]

end Go.VS
