/-
  What functions of the program do, each once. Printed by my programs con.py and fam.py for seat Ytfdhfnoljejkkaa.
-/
import Derived.Test.YtfdhfnoljejkkaaTy
set_option linter.unusedVariables false
set_option linter.unusedSimpArgs false
namespace Go.Proofs.Ytfdhfnoljejkkaa
open Go Go.Sep Classical
set_option maxRecDepth 4000 in
theorem Mul64_c {x y : Int} (hx : 0 ≤ x) (hx' : x < 4294967296) (hy : 0 ≤ y) (hy' : y < 4294967296) (hxy0 : 0 ≤ x * y) (hxy : x * y < 4294967296) : PFn Try.prog 61 [.int .u64 x, .int .u64 y] (.tuple #[.int .u64 0, .int .u64 (x * y)]) := by
  have w0 : IntKind.u64.wrap (x * y) = x * y := by rw [IntKind.wrap_u64]; omega
  have w1 : IntKind.u64.wrap 0 = 0 := rfl
  have e : bAnd .u64 0 4294967295 = 0 := mask32 (by omega) (by omega)
  have s0 : bShr .u64 0 32 = 0 := shr32 (by omega) (by omega)
  refine PFn.run 1000 Try.func61 Try.ntmps61 rfl rfl (by simp) ?_
  simp only [go_sem, Int.toNat_zero, Nat.sub_zero, Nat.zero_mul, Nat.reduceBEq, beq_self_eq_true, List.all_cons, List.all_nil, Value.oneCell', Int.reduceEq, Int.reduceLT, Nat.reduceLeDiff, List.getElem?_toArray, Nat.reduceLT, Nat.reduceAdd, Nat.reduceEqDiff, reduceIte, mask32 hx hx', mask32 hy hy', shr32 hx hx', shr32 hy hy', w0, shr32 hxy0 hxy, Int.zero_mul, Int.mul_zero, Int.add_zero, Int.zero_add, w1, e, s0]
  exact ent_fact trivial
theorem Mul_c {x y : Int} (hx : 0 ≤ x) (hx' : x < 4294967296) (hy : 0 ≤ y) (hy' : y < 4294967296) (hxy0 : 0 ≤ x * y) (hxy : x * y < 4294967296) : PFn Try.prog 58 [.int .u64 x, .int .u64 y] (.tuple #[.int .u64 0, .int .u64 (x * y)]) := by
  have a1 : IntKind.u64.wrap x = x := by rw [IntKind.wrap_u64]; omega
  have a2 : IntKind.u64.wrap y = y := by rw [IntKind.wrap_u64]; omega
  have a3 : IntKind.u64.wrap (x * y) = x * y := by rw [IntKind.wrap_u64]; omega
  have w1 : IntKind.u64.wrap 0 = 0 := rfl
  refine PFn.run 1000 Try.func58 Try.ntmps58 rfl rfl (by simp) ?_
  simp only [go_sem, Int.toNat_zero, Nat.sub_zero, Nat.zero_mul, Nat.reduceBEq, beq_self_eq_true, List.all_cons, List.all_nil, Value.oneCell', Int.reduceEq, Int.reduceLT, Nat.reduceLeDiff, List.getElem?_toArray, Nat.reduceLT, Nat.reduceAdd, Nat.reduceEqDiff, reduceIte, a1, a2]
  refine SEM.callP (Mul64_c hx hx' hy hy' hxy0 hxy) (wpk_sound 1000 ?_) rfl rfl rfl rfl rfl rfl rfl cf61
  simp only [go_sem, Int.toNat_zero, Nat.sub_zero, Nat.zero_mul, Nat.reduceBEq, beq_self_eq_true, List.all_cons, List.all_nil, Value.oneCell', Int.reduceEq, Int.reduceLT, Nat.reduceLeDiff, List.getElem?_toArray, Nat.reduceLT, Nat.reduceAdd, Nat.reduceEqDiff, reduceIte, a3, w1]
  exact ent_fact trivial
end Go.Proofs.Ytfdhfnoljejkkaa
