/-
  The words by which simp runs the run.
-/
import Derived.Test.YtfdhfnoljejkkaaSepF
set_option linter.unusedVariables false
set_option linter.unusedSimpArgs false
namespace Go.Sep
open Go Go.RowKit

theorem dst_some (N d : Nat) : dstOk N (some d) = decide (d < N) := rfl
theorem dst_none (N : Nat) : dstOk N none = true := rfl
theorem get_nil (t : Nat) : Env.get [] t = none := rfl
theorem get_cons (u t : Nat) (x : AV) (E : Env) : Env.get ((u, x) :: E) t = if u = t then some x else E.get t := rfl
theorem and_split (a b : Prop) : (True ∧ a) = a := by simp

attribute [go_sem] fillF List.zip_cons_cons List.zip_nil_left List.zip_nil_right List.map_cons List.map_nil eqV eqB eqLs leafEq wpk enterE dst_some dst_none qop Env.ev get_nil get_cons Env.put onV onV2 binV unV convV lenV capV mm2 fieldV vals AV.to loadL loadC resL resV storeOk splice cutLo cutHi dropTo RetPost
  List.getElem?_cons_zero List.getElem?_cons_succ List.getElem?_nil Option.bind_some Option.bind_none Option.map_some Option.map_none List.length_nil List.length_cons List.nil_append List.cons_append List.set_cons_zero List.set_cons_succ
  List.drop_zero List.drop_succ_cons List.take_zero List.take_succ_cons List.take_nil List.drop_nil
  Bool.and_true Bool.true_and Bool.and_false Bool.false_and Bool.not_true Bool.not_false forall_const true_and and_true true_implies false_implies implies_true ite_true ite_false
  Nat.zero_add Nat.add_zero Value.cells decide_true decide_false Bool.false_eq_true
  reduceCtorEq decide_eq_true_eq decide_eq_false_iff_not Bool.decide_eq_true
  exists_eq_left' Option.some.injEq

end Go.Sep
