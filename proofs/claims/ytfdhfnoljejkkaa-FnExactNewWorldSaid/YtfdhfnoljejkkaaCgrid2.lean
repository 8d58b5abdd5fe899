/-
  What functions of the program do, each once. Printed by my programs con.py and fam.py for seat Ytfdhfnoljejkkaa.
-/
import Derived.Test.YtfdhfnoljejkkaaCgrid
set_option linter.unusedVariables false
set_option linter.unusedSimpArgs false
namespace Go.Proofs.Ytfdhfnoljejkkaa
open Go Go.Sep Classical
set_option maxRecDepth 8000 in
theorem Blank_c {w : World} (cols : Int) (s : SStyle) (h : 1 ≤ cols ∧ cols ≤ 60) (hs : styleOk s = true) : MFn Try.prog 46 [.int .i64 cols, .agg (encStyle s).toArray] w (fun r => OwnS kCell r (rowOf cols s)) := by
  refine MFn.run 3000 Try.func46 Try.ntmps46 rfl rfl (by simp) ?_
  simp only [go_sem, Int.toNat_zero, Nat.sub_zero, Nat.zero_mul, Nat.reduceBEq, beq_self_eq_true, List.all_cons, List.all_nil, Value.oneCell', Int.reduceEq, Int.reduceLT, Nat.reduceLeDiff, List.getElem?_toArray, Nat.reduceLT, Nat.reduceAdd, Nat.reduceEqDiff, reduceIte]
  intro b0
  refine SEM.callP (in_c _ _ _) (wpk_sound 3000 ?_) rfl rfl rfl rfl rfl rfl rfl cf27
  simp only [go_sem, Int.toNat_zero, Nat.sub_zero, Nat.zero_mul, Nat.reduceBEq, beq_self_eq_true, List.all_cons, List.all_nil, Value.oneCell', Int.reduceEq, Int.reduceLT, Nat.reduceLeDiff, List.getElem?_toArray, Nat.reduceLT, Nat.reduceAdd, Nat.reduceEqDiff, reduceIte, h.1, h.2]
  refine SEM.callP (StyleOk_c s) (wpk_sound 3000 ?_) rfl rfl rfl rfl rfl rfl rfl cf54
  simp only [go_sem, Int.toNat_zero, Nat.sub_zero, Nat.zero_mul, Nat.reduceBEq, beq_self_eq_true, List.all_cons, List.all_nil, Value.oneCell', Int.reduceEq, Int.reduceLT, Nat.reduceLeDiff, List.getElem?_toArray, Nat.reduceLT, Nat.reduceAdd, Nat.reduceEqDiff, reduceIte, hs]
  refine SEM.callP (blank_c s) (wpk_sound 3000 ?_) rfl rfl rfl rfl rfl rfl rfl cf56
  simp only [go_sem, Int.toNat_zero, Nat.sub_zero, Nat.zero_mul, Nat.reduceBEq, beq_self_eq_true, List.all_cons, List.all_nil, Value.oneCell', Int.reduceEq, Int.reduceLT, Nat.reduceLeDiff, List.getElem?_toArray, Nat.reduceLT, Nat.reduceAdd, Nat.reduceEqDiff, reduceIte]
  refine SEM.build1 (sz := 7) rfl rfl (one_of rfl) (fun b1 => wpk_sound 3000 ?_) rfl rfl rfl rfl sl75 sz88 ze88 (by decide) (by decide)
  simp only [go_sem, Int.toNat_zero, Nat.sub_zero, Nat.zero_mul, Nat.reduceBEq, beq_self_eq_true, List.all_cons, List.all_nil, Value.oneCell', Int.reduceEq, Int.reduceLT, Nat.reduceLeDiff, List.getElem?_toArray, Nat.reduceLT, Nat.reduceAdd, Nat.reduceEqDiff, reduceIte]
  refine SEM.callM (fun w' hs => Repeat_c (y := blankC s) cols h (sat_row 0 [blankC s] rfl rfl rfl hs)) (fun r => wpk_sound 3000 ?_) rfl rfl rfl rfl rfl rfl rfl cf55
  simp only [go_sem, Int.toNat_zero, Nat.sub_zero, Nat.zero_mul, Nat.reduceBEq, beq_self_eq_true, List.all_cons, List.all_nil, Value.oneCell', Int.reduceEq, Int.reduceLT, Nat.reduceLeDiff, List.getElem?_toArray, Nat.reduceLT, Nat.reduceAdd, Nat.reduceEqDiff, reduceIte]
  exact Ent.stL (Ent.pick 0 rfl (Ent.refl _) (stars_get _ 1 _ rfl))
def okSize (cols rows : Int) : Bool := decide (1 ≤ cols ∧ cols ≤ 60 ∧ 1 ≤ rows ∧ rows ≤ 30)
def zGrid : SGrid := { cols := 0, rows := [] }
def gridOr (cols rows : Int) : SGrid := if okSize cols rows then newGrid cols rows else zGrid
theorem zGrid_own : Ent emp (kGrid.own zGrid [.int .i64 0, .slice none 0 0]) := (own_nil _ _).trans ((Ent.empr _).trans (ownGrid_shut (x := zGrid) (v0 := .slice none 0 0)))
set_option maxRecDepth 8000 in
theorem NewGrid_c {w : World} (cols rows : Int) : MFn Try.prog 28 [.int .i64 cols, .int .i64 rows] w (ownRB kGrid (gridOr cols rows) (okSize cols rows)) := by
  have fin : ∀ {L : List Go.Sep.Loc}, okSize cols rows = false → Ent (stA L [amb w]) (Go.Sep.star (ownRB kGrid (gridOr cols rows) (okSize cols rows) (.tuple #[.agg #[.int .i64 0, .slice none 0 0], .bool false])) (amb w)) := by
    intro L h
    unfold gridOr
    rw [h]
    exact Ent.stL (Ent.addNil (kS kCell) none (Ent.retRB (ownGrid_shut (x := zGrid)) rfl (Ent.spick 0 rfl (Ent.refl _) (Ent.snil Ent.done))))
  refine MFn.run 3000 Try.func28 Try.ntmps28 rfl rfl (by simp) ?_
  simp only [go_sem, Int.toNat_zero, Nat.sub_zero, Nat.zero_mul, Nat.reduceBEq, beq_self_eq_true, List.all_cons, List.all_nil, Value.oneCell', Int.reduceEq, Int.reduceLT, Nat.reduceLeDiff, List.getElem?_toArray, Nat.reduceLT, Nat.reduceAdd, Nat.reduceEqDiff, reduceIte]
  intro b0
  refine SEM.callP (in_c _ _ _) (wpk_sound 3000 ?_) rfl rfl rfl rfl rfl rfl rfl cf27
  by_cases h1 : 1 ≤ cols ∧ cols ≤ 60
  · simp only [go_sem, Int.toNat_zero, Nat.sub_zero, Nat.zero_mul, Nat.reduceBEq, beq_self_eq_true, List.all_cons, List.all_nil, Value.oneCell', Int.reduceEq, Int.reduceLT, Nat.reduceLeDiff, List.getElem?_toArray, Nat.reduceLT, Nat.reduceAdd, Nat.reduceEqDiff, reduceIte, h1.1, h1.2]
    refine SEM.callP (in_c _ _ _) (wpk_sound 3000 ?_) rfl rfl rfl rfl rfl rfl rfl cf27
    by_cases h2 : 1 ≤ rows ∧ rows ≤ 30
    · have hok : okSize cols rows = true := by simp [okSize]; omega
      simp only [go_sem, Int.toNat_zero, Nat.sub_zero, Nat.zero_mul, Nat.reduceBEq, beq_self_eq_true, List.all_cons, List.all_nil, Value.oneCell', Int.reduceEq, Int.reduceLT, Nat.reduceLeDiff, List.getElem?_toArray, Nat.reduceLT, Nat.reduceAdd, Nat.reduceEqDiff, reduceIte, h2.1, h2.2]
      intro b1
      refine SEM.loopI (X := { i : Nat // i ≤ rows.toNat } × Value) (fun x => [(0, .v (.int .i64 cols)), (18, .v (.int .i64 rows)), (19, .v (.int .i64 x.1.1)), (6, .l 1 0), (4, .l 0 0)]) (fun x => [(b0, [.int .i64 0, .slice none 0 0]), (b1, [.int .i64 cols, x.2])]) (fun x => [OwnS (kS kCell) x.2 (List.replicate x.1.1 (rowOf cols zStyle)), amb w]) (fun x => rows.toNat - x.1.1) (⟨0, by omega⟩, .slice none 0 0) (by simp [subE, Env.get]) ⟨[], rfl⟩ (by simp [okL]) (Ent.addNil (kS kCell) none (Ent.refl _)) ?_
      rintro ⟨⟨i, hi⟩, v⟩
      simp only
      refine SEM.ownShape fun A c hv hc0 hm hA => ?_
      subst hv
      refine wpk_sound 1000 ?_
      simp only [go_sem, Int.toNat_zero, Nat.sub_zero, Nat.zero_mul, Nat.reduceBEq, beq_self_eq_true, List.all_cons, List.all_nil, Value.oneCell', Int.reduceEq, Int.reduceLT, Nat.reduceLeDiff, List.getElem?_toArray, Nat.reduceLT, Nat.reduceAdd, Nat.reduceEqDiff, reduceIte]
      refine ⟨fun h1 => ?_, fun h1 => ?_⟩
      · have hcr : 1 ≤ cols ∧ cols ≤ 60 := ‹_›
        refine SEM.drawL [4, 5, 6, 8] [0, 1, 2, 3] [(4, [], [0, 1]), (5, [], [0, 1]), (6, [7], []), (8, [], [])] mixed (by decide) ?_
        simp only [go_sem, Int.toNat_zero, Nat.sub_zero, Nat.zero_mul, Nat.reduceBEq, beq_self_eq_true, List.all_cons, List.all_nil, Value.oneCell', Int.reduceEq, Int.reduceLT, Nat.reduceLeDiff, List.getElem?_toArray, Nat.reduceLT, Nat.reduceAdd, Nat.reduceEqDiff, reduceIte]
        refine lk_cons rfl rfl rfl ?_
        simp only [go_sem, Int.toNat_zero, Nat.sub_zero, Nat.zero_mul, Nat.reduceBEq, beq_self_eq_true, List.all_cons, List.all_nil, Value.oneCell', Int.reduceEq, Int.reduceLT, Nat.reduceLeDiff, List.getElem?_toArray, Nat.reduceLT, Nat.reduceAdd, Nat.reduceEqDiff, reduceIte]
        refine LG.intro fun k' R j => ?_
        refine SEM.callM (fun w' _ => Blank_c cols zStyle hcr rfl) (fun r => SEM.ownShape fun A1 c1 e1 _ _ _ => ?_) rfl rfl rfl rfl rfl rfl rfl cf46
        subst e1
        refine j _ _ _ ?_
        simp only [go_sem, Int.toNat_zero, Nat.sub_zero, Nat.zero_mul, Nat.reduceBEq, beq_self_eq_true, List.all_cons, List.all_nil, Value.oneCell', Int.reduceEq, Int.reduceLT, Nat.reduceLeDiff, List.getElem?_toArray, Nat.reduceLT, Nat.reduceAdd, Nat.reduceEqDiff, reduceIte]
        refine lk_cons rfl rfl rfl ?_
        simp only [go_sem, Int.toNat_zero, Nat.sub_zero, Nat.zero_mul, Nat.reduceBEq, beq_self_eq_true, List.all_cons, List.all_nil, Value.oneCell', Int.reduceEq, Int.reduceLT, Nat.reduceLeDiff, List.getElem?_toArray, Nat.reduceLT, Nat.reduceAdd, Nat.reduceEqDiff, reduceIte]
        refine LG.intro fun k' R j => ?_
        refine SEM.build1 (sz := 1) rfl rfl (one_of rfl) (fun b1 => j _ _ _ ?_) rfl rfl rfl rfl sl39 sz75 ze75 (by decide) (by decide)
        simp only [go_sem, Int.toNat_zero, Nat.sub_zero, Nat.zero_mul, Nat.reduceBEq, beq_self_eq_true, List.all_cons, List.all_nil, Value.oneCell', Int.reduceEq, Int.reduceLT, Nat.reduceLeDiff, List.getElem?_toArray, Nat.reduceLT, Nat.reduceAdd, Nat.reduceEqDiff, reduceIte]
        refine lk_cons rfl rfl rfl ?_
        simp only [go_sem, Int.toNat_zero, Nat.sub_zero, Nat.zero_mul, Nat.reduceBEq, beq_self_eq_true, List.all_cons, List.all_nil, Value.oneCell', Int.reduceEq, Int.reduceLT, Nat.reduceLeDiff, List.getElem?_toArray, Nat.reduceLT, Nat.reduceAdd, Nat.reduceEqDiff, reduceIte]
        refine LG.intro fun k' R j => ?_
        refine SEM.pull 1 rfl (SEM.pull 2 rfl ?_)
        refine SEM.append1S (by (try simp only [List.length_replicate, List.length_append, List.length_map, List.length_take, List.length_drop, List.length_cons, List.length_nil]); omega) (by (try simp only [List.length_replicate, List.length_append, List.length_map, List.length_take, List.length_drop, List.length_cons, List.length_nil]); omega) (fun A2 c2 => j _ _ _ ?_) rfl rfl rfl rfl rfl rfl rfl rfl sl39 sr39 sz75 ze75 rfl by75
        simp only [go_sem, Int.toNat_zero, Nat.sub_zero, Nat.zero_mul, Nat.reduceBEq, beq_self_eq_true, List.all_cons, List.all_nil, Value.oneCell', Int.reduceEq, Int.reduceLT, Nat.reduceLeDiff, List.getElem?_toArray, Nat.reduceLT, Nat.reduceAdd, Nat.reduceEqDiff, reduceIte]
        refine lk_cons rfl rfl rfl ?_
        simp only [go_sem, Int.toNat_zero, Nat.sub_zero, Nat.zero_mul, Nat.reduceBEq, beq_self_eq_true, List.all_cons, List.all_nil, Value.oneCell', Int.reduceEq, Int.reduceLT, Nat.reduceLeDiff, List.getElem?_toArray, Nat.reduceLT, Nat.reduceAdd, Nat.reduceEqDiff, reduceIte]
        have hw : IntKind.i64.wrap ((i : Int) + 1) = ((i + 1 : Nat) : Int) := w64 (by omega) (by omega)
        refine lk_nil (wpk_sound 1000 ?_)
        simp only [go_sem, Int.toNat_zero, Nat.sub_zero, Nat.zero_mul, Nat.reduceBEq, beq_self_eq_true, List.all_cons, List.all_nil, Value.oneCell', Int.reduceEq, Int.reduceLT, Nat.reduceLeDiff, List.getElem?_toArray, Nat.reduceLT, Nat.reduceAdd, Nat.reduceEqDiff, reduceIte, hw]
        refine ⟨(⟨i + 1, by omega⟩, .slice A2 _ c2), [], by simp [subE, get_cons], rfl, by simp [okL], ?_, by simp only; omega⟩
        rw [rep_snoc]
        exact Ent.pick 0 rfl (Ent.refl _) (Ent.pick 0 rfl (Ent.refl _) (Ent.to_emp _))
      · obtain rfl : i = rows.toNat := by omega
        refine Ent.stL (Ent.retRB (cs := celGrid (newGrid cols rows) _) ?_ (by rw [hok]; rfl) (Ent.spick 0 rfl (Ent.refl _) (Ent.snil Ent.done)))
        unfold gridOr
        rw [hok]
        exact ownGrid_shut (x := newGrid cols rows)
    · have h2' : (decide (1 ≤ rows) && decide (rows ≤ 30)) = false := by simp; omega
      simp only [go_sem, Int.toNat_zero, Nat.sub_zero, Nat.zero_mul, Nat.reduceBEq, beq_self_eq_true, List.all_cons, List.all_nil, Value.oneCell', Int.reduceEq, Int.reduceLT, Nat.reduceLeDiff, List.getElem?_toArray, Nat.reduceLT, Nat.reduceAdd, Nat.reduceEqDiff, reduceIte, h2']
      exact fin (by simp [okSize]; omega)
  · have h1' : (decide (1 ≤ cols) && decide (cols ≤ 60)) = false := by simp; omega
    simp only [go_sem, Int.toNat_zero, Nat.sub_zero, Nat.zero_mul, Nat.reduceBEq, beq_self_eq_true, List.all_cons, List.all_nil, Value.oneCell', Int.reduceEq, Int.reduceLT, Nat.reduceLeDiff, List.getElem?_toArray, Nat.reduceLT, Nat.reduceAdd, Nat.reduceEqDiff, reduceIte, h1']
    exact fin (by simp [okSize]; omega)
end Go.Proofs.Ytfdhfnoljejkkaa
