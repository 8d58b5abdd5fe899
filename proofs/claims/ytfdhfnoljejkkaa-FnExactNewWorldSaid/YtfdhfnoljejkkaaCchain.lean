/-
  What functions of the program do, each once. Printed by my programs con.py and fam.py for seat Ytfdhfnoljejkkaa.
-/
import Derived.Test.YtfdhfnoljejkkaaCgrid2
set_option linter.unusedVariables false
set_option linter.unusedSimpArgs false
namespace Go.Proofs.Ytfdhfnoljejkkaa
open Go Go.Sep Classical
def zServer : SServer := { log := [], sure := 0 }
def zChain : SChain := { servers := [], down := [], up := [] }
def okServers (n : Int) : Bool := decide (1 ≤ n ∧ n ≤ 5)
def newChain (n : Int) : SChain := { servers := List.replicate n.toNat zServer, down := List.replicate (n - 1).toNat [], up := List.replicate (n - 1).toNat [] }
def chainOr (n : Int) : SChain := if okServers n then newChain n else zChain
theorem zServer_own : Ent emp (kServer.own zServer [.slice none 0 0, .int .i64 0]) := (own_nil kT none).trans ((Ent.empr _).trans (ownServer_shut (x := zServer) (v0 := .slice none 0 0)))
theorem ent_false_chain {n : Int} {L : List Go.Sep.Loc} {w : World} (h : okServers n = false) : Ent (stA L [amb w]) (Go.Sep.star (ownRB kChain (chainOr n) (okServers n) (.tuple #[.agg #[.slice none 0 0, .slice none 0 0, .slice none 0 0], .bool false])) (amb w)) := by
  unfold chainOr
  rw [h]
  exact Ent.stL (Ent.addNil kServer none (Ent.addNil (kS kT) none (Ent.addNil (kS kI) none (Ent.retRB (ownChain_shut (x := zChain)) rfl (Ent.spick 2 rfl (Ent.refl _) (Ent.spick 1 rfl (Ent.refl _) (Ent.spick 0 rfl (Ent.refl _) (Ent.snil Ent.done))))))))
theorem own_servers (v : Value) (n : Nat) : Ent (Row v n 2 (List.replicate n [.slice none 0 0, .int .i64 0]).flatten) (OwnS kServer v (List.replicate n zServer)) := OwnS.of_zero (k := kServer) n zServer_own
theorem own_nils {α : Type} (k : K α) (v : Value) (n : Nat) : Ent (Row v n 1 (List.replicate n [.slice none 0 0]).flatten) (OwnS (kS k) v (List.replicate n [])) := OwnS.of_zero (k := kS k) n (kS_nil k none)
set_option maxRecDepth 8000 in
theorem specNewChain_c {w : World} (n : Int) : MFn Try.prog 9 [.int .i64 n] w (ownRB kChain (chainOr n) (okServers n)) := by
  refine MFn.run 1000 Try.func9 Try.ntmps9 rfl rfl (by simp) ?_
  simp only [go_sem, Int.toNat_zero, Nat.sub_zero, Nat.zero_mul, Nat.reduceBEq, beq_self_eq_true, List.all_cons, List.all_nil, Value.oneCell', Int.reduceEq, Int.reduceLT, Nat.reduceLeDiff, List.getElem?_toArray, Nat.reduceLT, Nat.reduceAdd, Nat.reduceEqDiff, reduceIte]
  intro b0
  refine SEM.callP (l1In_c _ _ _) (wpk_sound 1000 ?_) rfl rfl rfl rfl rfl rfl rfl cf25
  by_cases h : 1 ≤ n ∧ n ≤ 5
  · have hok : okServers n = true := by simp [okServers]; omega
    have w1 : IntKind.i64.wrap (n - 1) = n - 1 := w64 (by omega) (by omega)
    simp only [go_sem, Int.toNat_zero, Nat.sub_zero, Nat.zero_mul, Nat.reduceBEq, beq_self_eq_true, List.all_cons, List.all_nil, Value.oneCell', Int.reduceEq, Int.reduceLT, Nat.reduceLeDiff, List.getElem?_toArray, Nat.reduceLT, Nat.reduceAdd, Nat.reduceEqDiff, reduceIte, h.1, h.2]
    refine SEM.drawT [1, 4, 7, 9, 10] [0, 2, 3, 5, 6] (.kid 1 [] [2, 3, 5, 6] (.kid 4 [] [5, 6] (.kid 7 [8] [] (.kid 9 [] [] (.kid 10 [] [] .nil .nil) .nil) .nil) (.kid 7 [] [2, 3] (.kid 4 [8] [] (.kid 9 [] [] (.kid 10 [] [] .nil .nil) .nil) .nil) .nil)) (.kid 4 [] [0, 5, 6] (.kid 1 [] [5, 6] (.kid 7 [8] [] (.kid 9 [] [] (.kid 10 [] [] .nil .nil) .nil) .nil) (.kid 7 [] [0] (.kid 1 [8] [] (.kid 9 [] [] (.kid 10 [] [] .nil .nil) .nil) .nil) .nil)) (.kid 7 [] [0, 2, 3] (.kid 1 [] [2, 3] (.kid 4 [8] [] (.kid 9 [] [] (.kid 10 [] [] .nil .nil) .nil) .nil) (.kid 4 [] [0] (.kid 1 [8] [] (.kid 9 [] [] (.kid 10 [] [] .nil .nil) .nil) .nil) .nil)) .nil))) mixed (by decide) (by simp) ?_
    simp only [go_sem, Int.toNat_zero, Nat.sub_zero, Nat.zero_mul, Nat.reduceBEq, beq_self_eq_true, List.all_cons, List.all_nil, Value.oneCell', Int.reduceEq, Int.reduceLT, Nat.reduceLeDiff, List.getElem?_toArray, Nat.reduceLT, Nat.reduceAdd, Nat.reduceEqDiff, reduceIte, w1]
    repeat' (first
      | exact tk_nil
      | refine tk_cons rfl rfl rfl ?_ ?_
      | (refine LG.intro fun k' R j => ?_
         first
          | (refine SEM.make rfl rfl rfl rfl rfl sl22 sz81 rfl ze81 (one_of rfl) by81 (by omega) (by omega) (by omega) (by omega) fun b => j _ _ _ ?_
             simp only [go_sem, Int.toNat_zero, Nat.sub_zero, Nat.zero_mul, Nat.reduceBEq, beq_self_eq_true, List.all_cons, List.all_nil, Value.oneCell', Int.reduceEq, Int.reduceLT, Nat.reduceLeDiff, List.getElem?_toArray, Nat.reduceLT, Nat.reduceAdd, Nat.reduceEqDiff, reduceIte, w1])
          | (refine SEM.make rfl rfl rfl rfl rfl sl23 sz28 rfl ze28 (one_of rfl) by28 (by omega) (by omega) (by omega) (by omega) fun b => j _ _ _ ?_
             simp only [go_sem, Int.toNat_zero, Nat.sub_zero, Nat.zero_mul, Nat.reduceBEq, beq_self_eq_true, List.all_cons, List.all_nil, Value.oneCell', Int.reduceEq, Int.reduceLT, Nat.reduceLeDiff, List.getElem?_toArray, Nat.reduceLT, Nat.reduceAdd, Nat.reduceEqDiff, reduceIte, w1])
          | (refine SEM.make rfl rfl rfl rfl rfl sl24 sz42 rfl ze42 (one_of rfl) by42 (by omega) (by omega) (by omega) (by omega) fun b => j _ _ _ ?_
             simp only [go_sem, Int.toNat_zero, Nat.sub_zero, Nat.zero_mul, Nat.reduceBEq, beq_self_eq_true, List.all_cons, List.all_nil, Value.oneCell', Int.reduceEq, Int.reduceLT, Nat.reduceLeDiff, List.getElem?_toArray, Nat.reduceLT, Nat.reduceAdd, Nat.reduceEqDiff, reduceIte, w1]))
      | simp only [go_sem, Int.toNat_zero, Nat.sub_zero, Nat.zero_mul, Nat.reduceBEq, beq_self_eq_true, List.all_cons, List.all_nil, Value.oneCell', Int.reduceEq, Int.reduceLT, Nat.reduceLeDiff, List.getElem?_toArray, Nat.reduceLT, Nat.reduceAdd, Nat.reduceEqDiff, reduceIte, w1])
    all_goals
      refine ⟨wpk_sound 1000 ?_, tk_nil⟩
      simp only [go_sem, Int.toNat_zero, Nat.sub_zero, Nat.zero_mul, Nat.reduceBEq, beq_self_eq_true, List.all_cons, List.all_nil, Value.oneCell', Int.reduceEq, Int.reduceLT, Nat.reduceLeDiff, List.getElem?_toArray, Nat.reduceLT, Nat.reduceAdd, Nat.reduceEqDiff, reduceIte]
      rw [show chainOr n = newChain n from by unfold chainOr; rw [hok]; rfl, hok]
      refine Ent.stL (Ent.retRB (ownChain_shut (x := newChain n)) rfl ?_)
      first | refine Ent.spick 0 rfl (own_servers _ _) ?_ | refine Ent.spick 1 rfl (own_servers _ _) ?_ | refine Ent.spick 2 rfl (own_servers _ _) ?_
      first | refine Ent.spick 0 rfl (own_nils kT _ _) ?_ | refine Ent.spick 1 rfl (own_nils kT _ _) ?_
      refine Ent.spick 0 rfl (own_nils kI _ _) (Ent.snil Ent.done)
  · have h' : (decide (1 ≤ n) && decide (n ≤ 5)) = false := by simp; omega
    simp only [go_sem, Int.toNat_zero, Nat.sub_zero, Nat.zero_mul, Nat.reduceBEq, beq_self_eq_true, List.all_cons, List.all_nil, Value.oneCell', Int.reduceEq, Int.reduceLT, Nat.reduceLeDiff, List.getElem?_toArray, Nat.reduceLT, Nat.reduceAdd, Nat.reduceEqDiff, reduceIte, h']
    exact ent_false_chain (by simp [okServers]; omega)
set_option maxRecDepth 8000 in
theorem implNewChain_c {w : World} (n : Int) : MFn Try.prog 11 [.int .i64 n] w (ownRB kChain (chainOr n) (okServers n)) := by
  refine MFn.run 1000 Try.func11 Try.ntmps11 rfl rfl (by simp) ?_
  simp only [go_sem, Int.toNat_zero, Nat.sub_zero, Nat.zero_mul, Nat.reduceBEq, beq_self_eq_true, List.all_cons, List.all_nil, Value.oneCell', Int.reduceEq, Int.reduceLT, Nat.reduceLeDiff, List.getElem?_toArray, Nat.reduceLT, Nat.reduceAdd, Nat.reduceEqDiff, reduceIte]
  intro b0
  refine SEM.callP (in_c _ _ _) (wpk_sound 1000 ?_) rfl rfl rfl rfl rfl rfl rfl cf27
  by_cases h : 1 ≤ n ∧ n ≤ 5
  · have hok : okServers n = true := by simp [okServers]; omega
    have w1 : IntKind.i64.wrap (n - 1) = n - 1 := w64 (by omega) (by omega)
    simp only [go_sem, Int.toNat_zero, Nat.sub_zero, Nat.zero_mul, Nat.reduceBEq, beq_self_eq_true, List.all_cons, List.all_nil, Value.oneCell', Int.reduceEq, Int.reduceLT, Nat.reduceLeDiff, List.getElem?_toArray, Nat.reduceLT, Nat.reduceAdd, Nat.reduceEqDiff, reduceIte, h.1, h.2]
    refine SEM.drawT [1, 4, 7, 9, 10] [0, 2, 3, 5, 6] (.kid 1 [] [2, 3, 5, 6] (.kid 4 [] [5, 6] (.kid 7 [8] [] (.kid 9 [] [] (.kid 10 [] [] .nil .nil) .nil) .nil) (.kid 7 [] [2, 3] (.kid 4 [8] [] (.kid 9 [] [] (.kid 10 [] [] .nil .nil) .nil) .nil) .nil)) (.kid 4 [] [0, 5, 6] (.kid 1 [] [5, 6] (.kid 7 [8] [] (.kid 9 [] [] (.kid 10 [] [] .nil .nil) .nil) .nil) (.kid 7 [] [0] (.kid 1 [8] [] (.kid 9 [] [] (.kid 10 [] [] .nil .nil) .nil) .nil) .nil)) (.kid 7 [] [0, 2, 3] (.kid 1 [] [2, 3] (.kid 4 [8] [] (.kid 9 [] [] (.kid 10 [] [] .nil .nil) .nil) .nil) (.kid 4 [] [0] (.kid 1 [8] [] (.kid 9 [] [] (.kid 10 [] [] .nil .nil) .nil) .nil) .nil)) .nil))) mixed (by decide) (by simp) ?_
    simp only [go_sem, Int.toNat_zero, Nat.sub_zero, Nat.zero_mul, Nat.reduceBEq, beq_self_eq_true, List.all_cons, List.all_nil, Value.oneCell', Int.reduceEq, Int.reduceLT, Nat.reduceLeDiff, List.getElem?_toArray, Nat.reduceLT, Nat.reduceAdd, Nat.reduceEqDiff, reduceIte, w1]
    repeat' (first
      | exact tk_nil
      | refine tk_cons rfl rfl rfl ?_ ?_
      | (refine LG.intro fun k' R j => ?_
         first
          | (refine SEM.make rfl rfl rfl rfl rfl sl22 sz81 rfl ze81 (one_of rfl) by81 (by omega) (by omega) (by omega) (by omega) fun b => j _ _ _ ?_
             simp only [go_sem, Int.toNat_zero, Nat.sub_zero, Nat.zero_mul, Nat.reduceBEq, beq_self_eq_true, List.all_cons, List.all_nil, Value.oneCell', Int.reduceEq, Int.reduceLT, Nat.reduceLeDiff, List.getElem?_toArray, Nat.reduceLT, Nat.reduceAdd, Nat.reduceEqDiff, reduceIte, w1])
          | (refine SEM.make rfl rfl rfl rfl rfl sl23 sz28 rfl ze28 (one_of rfl) by28 (by omega) (by omega) (by omega) (by omega) fun b => j _ _ _ ?_
             simp only [go_sem, Int.toNat_zero, Nat.sub_zero, Nat.zero_mul, Nat.reduceBEq, beq_self_eq_true, List.all_cons, List.all_nil, Value.oneCell', Int.reduceEq, Int.reduceLT, Nat.reduceLeDiff, List.getElem?_toArray, Nat.reduceLT, Nat.reduceAdd, Nat.reduceEqDiff, reduceIte, w1])
          | (refine SEM.make rfl rfl rfl rfl rfl sl24 sz42 rfl ze42 (one_of rfl) by42 (by omega) (by omega) (by omega) (by omega) fun b => j _ _ _ ?_
             simp only [go_sem, Int.toNat_zero, Nat.sub_zero, Nat.zero_mul, Nat.reduceBEq, beq_self_eq_true, List.all_cons, List.all_nil, Value.oneCell', Int.reduceEq, Int.reduceLT, Nat.reduceLeDiff, List.getElem?_toArray, Nat.reduceLT, Nat.reduceAdd, Nat.reduceEqDiff, reduceIte, w1]))
      | simp only [go_sem, Int.toNat_zero, Nat.sub_zero, Nat.zero_mul, Nat.reduceBEq, beq_self_eq_true, List.all_cons, List.all_nil, Value.oneCell', Int.reduceEq, Int.reduceLT, Nat.reduceLeDiff, List.getElem?_toArray, Nat.reduceLT, Nat.reduceAdd, Nat.reduceEqDiff, reduceIte, w1])
    all_goals
      refine ⟨wpk_sound 1000 ?_, tk_nil⟩
      simp only [go_sem, Int.toNat_zero, Nat.sub_zero, Nat.zero_mul, Nat.reduceBEq, beq_self_eq_true, List.all_cons, List.all_nil, Value.oneCell', Int.reduceEq, Int.reduceLT, Nat.reduceLeDiff, List.getElem?_toArray, Nat.reduceLT, Nat.reduceAdd, Nat.reduceEqDiff, reduceIte]
      rw [show chainOr n = newChain n from by unfold chainOr; rw [hok]; rfl, hok]
      refine Ent.stL (Ent.retRB (ownChain_shut (x := newChain n)) rfl ?_)
      first | refine Ent.spick 0 rfl (own_servers _ _) ?_ | refine Ent.spick 1 rfl (own_servers _ _) ?_ | refine Ent.spick 2 rfl (own_servers _ _) ?_
      first | refine Ent.spick 0 rfl (own_nils kT _ _) ?_ | refine Ent.spick 1 rfl (own_nils kT _ _) ?_
      refine Ent.spick 0 rfl (own_nils kI _ _) (Ent.snil Ent.done)
  · have h' : (decide (1 ≤ n) && decide (n ≤ 5)) = false := by simp; omega
    simp only [go_sem, Int.toNat_zero, Nat.sub_zero, Nat.zero_mul, Nat.reduceBEq, beq_self_eq_true, List.all_cons, List.all_nil, Value.oneCell', Int.reduceEq, Int.reduceLT, Nat.reduceLeDiff, List.getElem?_toArray, Nat.reduceLT, Nat.reduceAdd, Nat.reduceEqDiff, reduceIte, h']
    exact ent_false_chain (by simp [okServers]; omega)
end Go.Proofs.Ytfdhfnoljejkkaa
