/-
  Small words for the contracts' proofs.
  Plain definitions and theorems; nothing of a program in it.
-/
import Derived.Test.YtfdhfnoljejkkaaSepT
set_option linter.unusedVariables false
set_option linter.unusedSimpArgs false
namespace Go.Sep
open Go Go.RowKit

theorem sat_still {L : List Loc} {H : List Assn} {w w' : World} (i : Nat) (h : Sat (stA L H) w') (hi : H[i]? = some (amb w)) : Still w w' := by
  obtain ⟨S, hS⟩ := h
  exact H_says hi (amb_still w) w' S hS
theorem loadC_agg {P : Program} {t : TypeId} {cs : List Value} {n : Nat} (hl : cs.length = n) (hn : tsz P t = some n) (ha : tagg P t = some true) : loadC P t cs 0 = some (.agg cs.toArray) := by
  subst hl
  simp [loadC, hn, ha]
theorem loadC_one {P : Program} {t : TypeId} {v : Value} (ha : tagg P t = some false) : loadC P t [v] 0 = some v := by
  unfold loadC
  cases tsz P t <;> simp [ha]
theorem w64 {n : Int} (h : -9223372036854775808 ≤ n) (h' : n ≤ 9223372036854775807) : IntKind.i64.wrap n = n := by rw [IntKind.wrap_i64]; omega
end Go.Sep
