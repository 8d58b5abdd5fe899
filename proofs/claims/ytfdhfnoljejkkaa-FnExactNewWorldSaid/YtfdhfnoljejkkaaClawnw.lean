/-
  What functions of the program do, each once. Printed by my programs con.py and fam.py for seat Ytfdhfnoljejkkaa.
-/
import Derived.Test.YtfdhfnoljejkkaaCworld
import Derived.Test.YtfdhfnoljejkkaaCeq
import Derived.Test.YtfdhfnoljejkkaaCmark
import Derived.Test.YtfdhfnoljejkkaaCheld
set_option linter.unusedVariables false
set_option linter.unusedSimpArgs false
namespace Go.Proofs.Ytfdhfnoljejkkaa
open Go Go.Sep Classical
theorem cntL_rep {α : Type} (c : α → Nat) (m : Nat) (x : α) : cntL c (List.replicate m x) = m * c x := by
  induction m with
  | zero => simp [cntL]
  | succ m ih => rw [List.replicate_succ, cntL, ih, Nat.succ_mul, Nat.add_comm]
theorem cv_small (n : Int) : cvWorld (worldOr n) ≤ 2000 := by
  unfold worldOr
  split
  · rename_i h
    have h : 1 ≤ n ∧ n ≤ 5 := by simpa [okServers] using h
    simp only [cvWorld, newWorld, cvChain, newChain, newClient, newGrid, rowOf, zServer, cntL, cClient, cServer, cntL_rep, cCell, cT, cI, cDatagram]
    rw [show Int.toNat 5 = 5 from rfl, show Int.toNat 20 = 20 from rfl]
    omega
  · decide
set_option maxRecDepth 8000 in
theorem law_c {w : World} (n : Int) : RFn Try.prog 3 [.int .i64 n] w (.bool true) := by
  have hcv := cv_small n
  refine RFn.run 3000 Try.func3 Try.ntmps3 rfl rfl (by simp) ?_
  simp only [go_sem, Int.toNat_zero, Nat.sub_zero, Nat.zero_mul, Nat.reduceBEq, beq_self_eq_true, List.all_cons, List.all_nil, Value.oneCell', Int.reduceEq, Int.reduceLT, Nat.reduceLeDiff, List.getElem?_toArray, Nat.reduceLT, Nat.reduceAdd, Nat.reduceEqDiff, reduceIte]
  refine SEM.callM (fun w' _ => specNewWorld_c n) (fun r => SEM.openRB fun cs e => SEM.openWorld fun A0 c0 A1 c1 A2 c2 A3 c3 A4 c4 A5 c5 e1 => ?_) rfl rfl rfl rfl rfl rfl rfl cf4
  subst e e1
  refine wpk_sound 3000 ?_
  simp only [go_sem, Int.toNat_zero, Nat.sub_zero, Nat.zero_mul, Nat.reduceBEq, beq_self_eq_true, List.all_cons, List.all_nil, Value.oneCell', Int.reduceEq, Int.reduceLT, Nat.reduceLeDiff, List.getElem?_toArray, Nat.reduceLT, Nat.reduceAdd, Nat.reduceEqDiff, reduceIte]
  intro b0
  refine SEM.callM (fun w' _ => implNewWorld_c n) (fun r => SEM.openRB fun cs e => SEM.openWorld fun B0 d0 B1 d1 B2 d2 B3 d3 B4 d4 B5 d5 e1 => ?_) rfl rfl rfl rfl rfl rfl rfl cf5
  subst e e1
  refine wpk_sound 3000 ?_
  simp only [go_sem, Int.toNat_zero, Nat.sub_zero, Nat.zero_mul, Nat.reduceBEq, beq_self_eq_true, List.all_cons, List.all_nil, Value.oneCell', Int.reduceEq, Int.reduceLT, Nat.reduceLeDiff, List.getElem?_toArray, Nat.reduceLT, Nat.reduceAdd, Nat.reduceEqDiff, reduceIte]
  intro b1
  refine SEM.callR (fun w' hs => eqWorld_c (a := worldOr n) (b := worldOr n) (rdWorld_shut (sat_own 0 rfl hs) (sat_own 1 rfl hs) (sat_own 2 rfl hs) (sat_own 3 rfl hs) (sat_own 4 rfl hs) (sat_own 5 rfl hs)) (rdWorld_shut (sat_own 6 rfl hs) (sat_own 7 rfl hs) (sat_own 8 rfl hs) (sat_own 9 rfl hs) (sat_own 10 rfl hs) (sat_own 11 rfl hs))) (wpk_sound 3000 ?_) rfl rfl rfl rfl rfl rfl rfl cf6
  simp only [go_sem, Int.toNat_zero, Nat.sub_zero, Nat.zero_mul, Nat.reduceBEq, beq_self_eq_true, List.all_cons, List.all_nil, Value.oneCell', Int.reduceEq, Int.reduceLT, Nat.reduceLeDiff, List.getElem?_toArray, Nat.reduceLT, Nat.reduceAdd, Nat.reduceEqDiff, reduceIte]
  refine SEM.shut (As := [_, _, _, _, _, _]) (ownWorld_shut (x := worldOr n)) ?_
  refine SEM.callH (markWorld_c (by omega) (by omega)) (fun r => SEM.openStar (SEM.openFact fun e0 => ?_)) rfl rfl rfl rfl rfl rfl rfl cf7
  subst e0
  refine wpk_sound 3000 ?_
  simp only [go_sem, Int.toNat_zero, Nat.sub_zero, Nat.zero_mul, Nat.reduceBEq, beq_self_eq_true, List.all_cons, List.all_nil, Value.oneCell', Int.reduceEq, Int.reduceLT, Nat.reduceLeDiff, List.getElem?_toArray, Nat.reduceLT, Nat.reduceAdd, Nat.reduceEqDiff, reduceIte]
  refine SEM.callR (fun w' hs => heldWorld_c (x := worldOr n) (by omega) (by omega) (sat_st 0 rfl hs)) (wpk_sound 3000 ?_) rfl rfl rfl rfl rfl rfl rfl cf8
  simp only [go_sem, Int.toNat_zero, Nat.sub_zero, Nat.zero_mul, Nat.reduceBEq, beq_self_eq_true, List.all_cons, List.all_nil, Value.oneCell', Int.reduceEq, Int.reduceLT, Nat.reduceLeDiff, List.getElem?_toArray, Nat.reduceLT, Nat.reduceAdd, Nat.reduceEqDiff, reduceIte]
  refine ⟨fun h => absurd h (by omega), fun _ => ?_⟩
  refine SEM.callM (fun w' _ => implNewWorld_c n) (fun r => SEM.openRB fun cs e => SEM.openWorld fun C0 g0 C1 g1 C2 g2 C3 g3 C4 g4 C5 g5 e1 => ?_) rfl rfl rfl rfl rfl rfl rfl cf5
  subst e e1
  refine wpk_sound 3000 ?_
  simp only [go_sem, Int.toNat_zero, Nat.sub_zero, Nat.zero_mul, Nat.reduceBEq, beq_self_eq_true, List.all_cons, List.all_nil, Value.oneCell', Int.reduceEq, Int.reduceLT, Nat.reduceLeDiff, List.getElem?_toArray, Nat.reduceLT, Nat.reduceAdd, Nat.reduceEqDiff, reduceIte]
  intro b2
  refine SEM.callR (fun w' hs => eqWorld_c (a := worldOr n) (b := worldOr n) (rdWorld_shut (sat_own 0 rfl hs) (sat_own 1 rfl hs) (sat_own 2 rfl hs) (sat_own 3 rfl hs) (sat_own 4 rfl hs) (sat_own 5 rfl hs)) (rdWorld_shut (sat_own 7 rfl hs) (sat_own 8 rfl hs) (sat_own 9 rfl hs) (sat_own 10 rfl hs) (sat_own 11 rfl hs) (sat_own 12 rfl hs))) (wpk_sound 3000 ?_) rfl rfl rfl rfl rfl rfl rfl cf6
  simp only [go_sem, Int.toNat_zero, Nat.sub_zero, Nat.zero_mul, Nat.reduceBEq, beq_self_eq_true, List.all_cons, List.all_nil, Value.oneCell', Int.reduceEq, Int.reduceLT, Nat.reduceLeDiff, List.getElem?_toArray, Nat.reduceLT, Nat.reduceAdd, Nat.reduceEqDiff, reduceIte]
  refine SEM.callR (fun w' hs => heldWorld_c (x := worldOr n) (by omega) (by omega) (sat_st 6 rfl hs)) (wpk_sound 3000 ?_) rfl rfl rfl rfl rfl rfl rfl cf8
  simp only [go_sem, Int.toNat_zero, Nat.sub_zero, Nat.zero_mul, Nat.reduceBEq, beq_self_eq_true, List.all_cons, List.all_nil, Value.oneCell', Int.reduceEq, Int.reduceLT, Nat.reduceLeDiff, List.getElem?_toArray, Nat.reduceLT, Nat.reduceAdd, Nat.reduceEqDiff, reduceIte]
  refine ⟨fun h => absurd h (by omega), fun _ => ?_⟩
  exact ret_fact (i := 13) rfl trivial
end Go.Proofs.Ytfdhfnoljejkkaa
