/-
  What functions of the program do, each once. Printed by my programs con.py and fam.py for seat Ytfdhfnoljejkkaa.
-/
import Derived.Test.YtfdhfnoljejkkaaCchain
set_option linter.unusedVariables false
set_option linter.unusedSimpArgs false
namespace Go.Proofs.Ytfdhfnoljejkkaa
open Go Go.Sep Classical
def newClient (id : Int) : SClient := { id := id, queue := [], first := 1, screen := newGrid 20 5, number := 0, window := { top := -1, seen := [] }, sends := 0 }
def zClient : SClient := { id := 0, queue := [], first := 0, screen := zGrid, number := 0, window := { top := 0, seen := [] }, sends := 0 }
def okId (id : Int) : Bool := decide (0 ≤ id ∧ id ≤ 3)
def clientOr (id : Int) : SClient := if okId id then newClient id else zClient
theorem l19New_c {w : World} (id : Int) : MFn Try.prog 10 [.int .i64 id] w (ownR kClient (newClient id)) := by
  refine MFn.run 1000 Try.func10 Try.ntmps10 rfl rfl (by simp) ?_
  simp only [go_sem, Int.toNat_zero, Nat.sub_zero, Nat.zero_mul, Nat.reduceBEq, beq_self_eq_true, List.all_cons, List.all_nil, Value.oneCell', Int.reduceEq, Int.reduceLT, Nat.reduceLeDiff, List.getElem?_toArray, Nat.reduceLT, Nat.reduceAdd, Nat.reduceEqDiff, reduceIte]
  intro b0
  refine SEM.callM (fun w' _ => l5New_c 20 5 (by omega) (by omega)) (fun r => SEM.openRGrid fun A0 c0 e => ?_) rfl rfl rfl rfl rfl rfl rfl cf26
  subst e
  refine wpk_sound 1000 ?_
  simp only [go_sem, Int.toNat_zero, Nat.sub_zero, Nat.zero_mul, Nat.reduceBEq, beq_self_eq_true, List.all_cons, List.all_nil, Value.oneCell', Int.reduceEq, Int.reduceLT, Nat.reduceLeDiff, List.getElem?_toArray, Nat.reduceLT, Nat.reduceAdd, Nat.reduceEqDiff, reduceIte]
  refine Ent.stL (Ent.addNil kT none (Ent.addNil kI none (Ent.retO (ownClient_shut (x := newClient id)) rfl ?_)))
  exact Ent.spick 1 rfl (Ent.refl _) (Ent.spick 1 rfl (Ent.refl _) (Ent.spick 0 rfl (Ent.refl _) (Ent.snil Ent.done)))
theorem NewClient_c {w : World} (id : Int) : MFn Try.prog 12 [.int .i64 id] w (ownRB kClient (clientOr id) (okId id)) := by
  refine MFn.run 1000 Try.func12 Try.ntmps12 rfl rfl (by simp) ?_
  simp only [go_sem, Int.toNat_zero, Nat.sub_zero, Nat.zero_mul, Nat.reduceBEq, beq_self_eq_true, List.all_cons, List.all_nil, Value.oneCell', Int.reduceEq, Int.reduceLT, Nat.reduceLeDiff, List.getElem?_toArray, Nat.reduceLT, Nat.reduceAdd, Nat.reduceEqDiff, reduceIte]
  intro b0
  refine SEM.callP (in_c _ _ _) (wpk_sound 1000 ?_) rfl rfl rfl rfl rfl rfl rfl cf27
  by_cases h : 0 ≤ id ∧ id ≤ 3
  · have hok : okId id = true := by simp [okId]; omega
    simp only [go_sem, Int.toNat_zero, Nat.sub_zero, Nat.zero_mul, Nat.reduceBEq, beq_self_eq_true, List.all_cons, List.all_nil, Value.oneCell', Int.reduceEq, Int.reduceLT, Nat.reduceLeDiff, List.getElem?_toArray, Nat.reduceLT, Nat.reduceAdd, Nat.reduceEqDiff, reduceIte, h.1, h.2]
    refine SEM.callM (fun w' _ => NewGrid_c 20 5) (fun r => SEM.openRB fun cs e => ?_) rfl rfl rfl rfl rfl rfl rfl cf28
    subst e
    rw [show gridOr 20 5 = newGrid 20 5 from rfl]
    refine SEM.openGrid fun A0 c0 e => ?_
    subst e
    refine wpk_sound 1000 ?_
    simp only [go_sem, Int.toNat_zero, Nat.sub_zero, Nat.zero_mul, Nat.reduceBEq, beq_self_eq_true, List.all_cons, List.all_nil, Value.oneCell', Int.reduceEq, Int.reduceLT, Nat.reduceLeDiff, List.getElem?_toArray, Nat.reduceLT, Nat.reduceAdd, Nat.reduceEqDiff, reduceIte]
    intro b1
    rw [show clientOr id = newClient id from by unfold clientOr; rw [hok]; rfl, hok]
    refine Ent.stL (Ent.addNil kT none (Ent.addNil kI none (Ent.retRB (ownClient_shut (x := newClient id)) rfl ?_)))
    exact Ent.spick 1 rfl (Ent.refl _) (Ent.spick 1 rfl (Ent.refl _) (Ent.spick 0 rfl (Ent.refl _) (Ent.snil Ent.done)))
  · have h' : (decide (0 ≤ id) && decide (id ≤ 3)) = false := by simp; omega
    have hok : okId id = false := by simp [okId]; omega
    simp only [go_sem, Int.toNat_zero, Nat.sub_zero, Nat.zero_mul, Nat.reduceBEq, beq_self_eq_true, List.all_cons, List.all_nil, Value.oneCell', Int.reduceEq, Int.reduceLT, Nat.reduceLeDiff, List.getElem?_toArray, Nat.reduceLT, Nat.reduceAdd, Nat.reduceEqDiff, reduceIte, h']
    rw [show clientOr id = zClient from by unfold clientOr; rw [hok]; rfl, hok]
    refine Ent.stL (Ent.addNil kT none (Ent.addNil (kS kCell) none (Ent.addNil kI none (Ent.retRB (ownClient_shut (x := zClient)) rfl ?_))))
    exact Ent.spick 2 rfl (Ent.refl _) (Ent.spick 1 rfl (Ent.refl _) (Ent.spick 0 rfl (Ent.refl _) (Ent.snil Ent.done)))
def newWorld (n : Int) : SWorld := { chain := newChain n, clients := [newClient 0, newClient 1], net := [], frames := [] }
def zWorld : SWorld := { chain := zChain, clients := [], net := [], frames := [] }
def worldOr (n : Int) : SWorld := if okServers n then newWorld n else zWorld
theorem ent_false_world {n : Int} {L : List Go.Sep.Loc} {H : List Assn} {w : World} (h : okServers n = false) : Ent (stA L (H ++ [amb w])) (Go.Sep.star (ownRB kWorld (worldOr n) (okServers n) (.tuple #[.agg #[.slice none 0 0, .slice none 0 0, .slice none 0 0, .slice none 0 0, .slice none 0 0, .slice none 0 0], .bool false])) (amb w)) := by
  unfold worldOr
  rw [h]
  refine Ent.trans (Ent.stL ((stars_append H [amb w]).trans (Ent.right _ _)) : Ent _ (stars [amb w])) ?_
  exact Ent.addNil kServer none (Ent.addNil (kS kT) none (Ent.addNil (kS kI) none (Ent.addNil kClient none (Ent.addNil kT none (Ent.addNil kDatagram none (Ent.retRB (ownWorld_shut (x := zWorld)) rfl (Ent.spick 5 rfl (Ent.refl _) (Ent.spick 4 rfl (Ent.refl _) (Ent.spick 3 rfl (Ent.refl _) (Ent.spick 2 rfl (Ent.refl _) (Ent.spick 1 rfl (Ent.refl _) (Ent.spick 0 rfl (Ent.refl _) (Ent.snil Ent.done)))))))))))))
set_option maxRecDepth 8000 in
theorem specNewWorld_c {w : World} (n : Int) : MFn Try.prog 4 [.int .i64 n] w (ownRB kWorld (worldOr n) (okServers n)) := by
  refine MFn.run 1000 Try.func4 Try.ntmps4 rfl rfl (by simp) ?_
  simp only [go_sem, Int.toNat_zero, Nat.sub_zero, Nat.zero_mul, Nat.reduceBEq, beq_self_eq_true, List.all_cons, List.all_nil, Value.oneCell', Int.reduceEq, Int.reduceLT, Nat.reduceLeDiff, List.getElem?_toArray, Nat.reduceLT, Nat.reduceAdd, Nat.reduceEqDiff, reduceIte]
  intro b0
  refine SEM.callM (fun w' _ => specNewChain_c n) (fun r => SEM.openRB fun cs e => SEM.openChain fun A0 c0 A1 c1 A2 c2 e1 => ?_) rfl rfl rfl rfl rfl rfl rfl cf9
  subst e e1
  refine wpk_sound 1000 ?_
  simp only [go_sem, Int.toNat_zero, Nat.sub_zero, Nat.zero_mul, Nat.reduceBEq, beq_self_eq_true, List.all_cons, List.all_nil, Value.oneCell', Int.reduceEq, Int.reduceLT, Nat.reduceLeDiff, List.getElem?_toArray, Nat.reduceLT, Nat.reduceAdd, Nat.reduceEqDiff, reduceIte]
  intro b1
  refine ⟨fun h => ?_, fun h => ?_⟩
  · have hok : okServers n = false := by simpa using h
    exact ent_false_world (H := [_, _, _]) hok
  · have hok : okServers n = true := by simpa using h
    have hch : chainOr n = newChain n := by unfold chainOr; rw [hok]; rfl
    have hwo : worldOr n = newWorld n := by unfold worldOr; rw [hok]; rfl
    simp only [hok, hch, hwo]
    refine SEM.drawL [1, 2, 3, 5, 6] [0] [(1, [], [0]), (2, [], [0]), (3, [4], [0]), (5, [], []), (6, [], [])] mixed (by decide) ?_
    simp only [go_sem, Int.toNat_zero, Nat.sub_zero, Nat.zero_mul, Nat.reduceBEq, beq_self_eq_true, List.all_cons, List.all_nil, Value.oneCell', Int.reduceEq, Int.reduceLT, Nat.reduceLeDiff, List.getElem?_toArray, Nat.reduceLT, Nat.reduceAdd, Nat.reduceEqDiff, reduceIte]
    refine lk_cons rfl rfl rfl ?_
    simp only [go_sem, Int.toNat_zero, Nat.sub_zero, Nat.zero_mul, Nat.reduceBEq, beq_self_eq_true, List.all_cons, List.all_nil, Value.oneCell', Int.reduceEq, Int.reduceLT, Nat.reduceLeDiff, List.getElem?_toArray, Nat.reduceLT, Nat.reduceAdd, Nat.reduceEqDiff, reduceIte]
    refine LG.intro fun k' R j => ?_
    refine SEM.callM (fun w' _ => l19New_c 0) (fun r => SEM.openRClient fun U0 d0 U1 d1 U2 d2 e => ?_) rfl rfl rfl rfl rfl rfl rfl cf10
    subst e
    refine j _ _ _ ?_
    simp only [go_sem, Int.toNat_zero, Nat.sub_zero, Nat.zero_mul, Nat.reduceBEq, beq_self_eq_true, List.all_cons, List.all_nil, Value.oneCell', Int.reduceEq, Int.reduceLT, Nat.reduceLeDiff, List.getElem?_toArray, Nat.reduceLT, Nat.reduceAdd, Nat.reduceEqDiff, reduceIte]
    refine lk_cons rfl rfl rfl ?_
    simp only [go_sem, Int.toNat_zero, Nat.sub_zero, Nat.zero_mul, Nat.reduceBEq, beq_self_eq_true, List.all_cons, List.all_nil, Value.oneCell', Int.reduceEq, Int.reduceLT, Nat.reduceLeDiff, List.getElem?_toArray, Nat.reduceLT, Nat.reduceAdd, Nat.reduceEqDiff, reduceIte]
    refine LG.intro fun k' R j => ?_
    refine SEM.callM (fun w' _ => l19New_c 1) (fun r => SEM.openRClient fun X0 f0 X1 f1 X2 f2 e => ?_) rfl rfl rfl rfl rfl rfl rfl cf10
    subst e
    refine j _ _ _ ?_
    simp only [go_sem, Int.toNat_zero, Nat.sub_zero, Nat.zero_mul, Nat.reduceBEq, beq_self_eq_true, List.all_cons, List.all_nil, Value.oneCell', Int.reduceEq, Int.reduceLT, Nat.reduceLeDiff, List.getElem?_toArray, Nat.reduceLT, Nat.reduceAdd, Nat.reduceEqDiff, reduceIte]
    refine lk_cons rfl rfl rfl ?_
    simp only [go_sem, Int.toNat_zero, Nat.sub_zero, Nat.zero_mul, Nat.reduceBEq, beq_self_eq_true, List.all_cons, List.all_nil, Value.oneCell', Int.reduceEq, Int.reduceLT, Nat.reduceLeDiff, List.getElem?_toArray, Nat.reduceLT, Nat.reduceAdd, Nat.reduceEqDiff, reduceIte]
    refine LG.intro fun k' R j => ?_
    refine SEM.build2 (sz := 9) rfl rfl rfl rfl (one_of rfl) (one_of rfl) (fun b1 => j _ _ _ ?_) rfl rfl rfl rfl rfl sl27 sz46 ze46 (by decide) (by decide)
    simp only [go_sem, Int.toNat_zero, Nat.sub_zero, Nat.zero_mul, Nat.reduceBEq, beq_self_eq_true, List.all_cons, List.all_nil, Value.oneCell', Int.reduceEq, Int.reduceLT, Nat.reduceLeDiff, List.getElem?_toArray, Nat.reduceLT, Nat.reduceAdd, Nat.reduceEqDiff, reduceIte]
    refine lk_cons rfl rfl rfl ?_
    simp only [go_sem, Int.toNat_zero, Nat.sub_zero, Nat.zero_mul, Nat.reduceBEq, beq_self_eq_true, List.all_cons, List.all_nil, Value.oneCell', Int.reduceEq, Int.reduceLT, Nat.reduceLeDiff, List.getElem?_toArray, Nat.reduceLT, Nat.reduceAdd, Nat.reduceEqDiff, reduceIte]
    refine lk_cons rfl rfl rfl ?_
    simp only [go_sem, Int.toNat_zero, Nat.sub_zero, Nat.zero_mul, Nat.reduceBEq, beq_self_eq_true, List.all_cons, List.all_nil, Value.oneCell', Int.reduceEq, Int.reduceLT, Nat.reduceLeDiff, List.getElem?_toArray, Nat.reduceLT, Nat.reduceAdd, Nat.reduceEqDiff, reduceIte]
    refine lk_nil (wpk_sound 1000 ?_)
    simp only [go_sem, Int.toNat_zero, Nat.sub_zero, Nat.zero_mul, Nat.reduceBEq, beq_self_eq_true, List.all_cons, List.all_nil, Value.oneCell', Int.reduceEq, Int.reduceLT, Nat.reduceLeDiff, List.getElem?_toArray, Nat.reduceLT, Nat.reduceAdd, Nat.reduceEqDiff, reduceIte]
    refine Ent.stL (EntH.pull 6 rfl (EntH.pull 6 rfl (EntH.pull 6 rfl ?_)))
    simp only [List.eraseIdx_cons_zero, List.eraseIdx_cons_succ]
    refine EntH.shut (As := [_, _, _]) (ownClient_shut (x := newClient 0)) (EntH.pull 4 rfl (EntH.pull 4 rfl (EntH.pull 4 rfl ?_)))
    simp only [List.eraseIdx_cons_zero, List.eraseIdx_cons_succ]
    refine EntH.shut (As := [_, _, _]) (ownClient_shut (x := newClient 1)) (EntH.pull 1 rfl (EntH.pull 2 rfl ?_))
    simp only [List.eraseIdx_cons_zero, List.eraseIdx_cons_succ]
    refine EntH.shut (As := [_, _, _]) (own_two4 (kd := kClient) rfl) ?_
    refine Ent.addNil kT none (Ent.addNil kDatagram none (Ent.retRB (ownWorld_shut (x := newWorld n)) rfl ?_))
    exact Ent.spick 3 rfl (Ent.refl _) (Ent.spick 3 rfl (Ent.refl _) (Ent.spick 3 rfl (Ent.refl _) (Ent.spick 2 rfl (Ent.refl _) (Ent.spick 1 rfl (Ent.refl _) (Ent.spick 0 rfl (Ent.refl _) (Ent.snil Ent.done))))))
set_option maxRecDepth 8000 in
theorem implNewWorld_c {w : World} (n : Int) : MFn Try.prog 5 [.int .i64 n] w (ownRB kWorld (worldOr n) (okServers n)) := by
  refine MFn.run 1000 Try.func5 Try.ntmps5 rfl rfl (by simp) ?_
  simp only [go_sem, Int.toNat_zero, Nat.sub_zero, Nat.zero_mul, Nat.reduceBEq, beq_self_eq_true, List.all_cons, List.all_nil, Value.oneCell', Int.reduceEq, Int.reduceLT, Nat.reduceLeDiff, List.getElem?_toArray, Nat.reduceLT, Nat.reduceAdd, Nat.reduceEqDiff, reduceIte]
  intro b0
  refine SEM.callM (fun w' _ => implNewChain_c n) (fun r => SEM.openRB fun cs e => SEM.openChain fun A0 c0 A1 c1 A2 c2 e1 => ?_) rfl rfl rfl rfl rfl rfl rfl cf11
  subst e e1
  refine wpk_sound 1000 ?_
  simp only [go_sem, Int.toNat_zero, Nat.sub_zero, Nat.zero_mul, Nat.reduceBEq, beq_self_eq_true, List.all_cons, List.all_nil, Value.oneCell', Int.reduceEq, Int.reduceLT, Nat.reduceLeDiff, List.getElem?_toArray, Nat.reduceLT, Nat.reduceAdd, Nat.reduceEqDiff, reduceIte]
  intro b1
  refine ⟨fun h => ?_, fun h => ?_⟩
  · have hok : okServers n = false := by simpa using h
    exact ent_false_world (H := [_, _, _]) hok
  · have hok : okServers n = true := by simpa using h
    have hch : chainOr n = newChain n := by unfold chainOr; rw [hok]; rfl
    have hwo : worldOr n = newWorld n := by unfold worldOr; rw [hok]; rfl
    simp only [hok, hch, hwo]
    intro b2
    refine SEM.loopI (X := { i : Nat // i ≤ 2 } × Value) (fun x => [(20, .v (.int .i64 x.1.1)), (6, .l 2 0), (2, .l 0 0)])
      (fun x => [(b0, [.slice none 0 0, .slice none 0 0, .slice none 0 0, .slice none 0 0, .slice none 0 0, .slice none 0 0]), (b1, [.slice A0 (newChain n).servers.length c0, .slice A1 (newChain n).down.length c1, .slice A2 (newChain n).up.length c2]), (b2, [.slice A0 (newChain n).servers.length c0, .slice A1 (newChain n).down.length c1, .slice A2 (newChain n).up.length c2, x.2, .slice none 0 0, .slice none 0 0])])
      (fun x => [OwnS kClient x.2 ((List.range x.1.1).map fun (i : Nat) => newClient i), OwnS kServer (.slice A0 (newChain n).servers.length c0) (newChain n).servers, OwnS (kS kT) (.slice A1 (newChain n).down.length c1) (newChain n).down, OwnS (kS kI) (.slice A2 (newChain n).up.length c2) (newChain n).up, amb w]) (fun x => 2 - x.1.1) (⟨0, by omega⟩, .slice none 0 0) (by simp [subE, Env.get]) ⟨[], rfl⟩ (by simp [okL]) (Ent.addNil kClient none (Ent.refl _)) ?_
    rintro ⟨⟨i, hi⟩, v⟩
    simp only
    refine SEM.ownShape fun A c hv hc0 hm hA => ?_
    subst hv
    refine wpk_sound 1000 ?_
    simp only [go_sem, Int.toNat_zero, Nat.sub_zero, Nat.zero_mul, Nat.reduceBEq, beq_self_eq_true, List.all_cons, List.all_nil, Value.oneCell', Int.reduceEq, Int.reduceLT, Nat.reduceLeDiff, List.getElem?_toArray, Nat.reduceLT, Nat.reduceAdd, Nat.reduceEqDiff, reduceIte]
    refine ⟨fun h1 => ?_, fun h1 => ?_⟩
    · have hid : okId i = true := by simp [okId]; omega
      have hcl : clientOr i = newClient i := by unfold clientOr; rw [hid]; rfl
      refine SEM.callM (fun w' _ => NewClient_c i) (fun r => SEM.openRB fun cs e => ?_) rfl rfl rfl rfl rfl rfl rfl cf12
      subst e
      rw [hcl, hid]
      refine SEM.openClient fun U0 d0 U1 d1 U2 d2 e => ?_
      subst e
      refine wpk_sound 1000 ?_
      simp only [go_sem, Int.toNat_zero, Nat.sub_zero, Nat.zero_mul, Nat.reduceBEq, beq_self_eq_true, List.all_cons, List.all_nil, Value.oneCell', Int.reduceEq, Int.reduceLT, Nat.reduceLeDiff, List.getElem?_toArray, Nat.reduceLT, Nat.reduceAdd, Nat.reduceEqDiff, reduceIte]
      intro b3
      refine SEM.build1 (sz := 9) rfl rfl (one_of rfl) (fun b4 => ?_) rfl rfl rfl rfl sl27 sz46 ze46 (by decide) (by decide)
      refine SEM.pull 3 rfl (SEM.pull 3 rfl (SEM.pull 3 rfl ?_))
      simp only [List.eraseIdx_cons_zero, List.eraseIdx_cons_succ]
      refine SEM.shut (As := [_, _, _]) (ownClient_shut (x := newClient i)) ?_
      refine SEM.pull 2 rfl ?_
      simp only [List.eraseIdx_cons_zero, List.eraseIdx_cons_succ]
      refine wpk_sound 1000 ?_
      simp only [go_sem, Int.toNat_zero, Nat.sub_zero, Nat.zero_mul, Nat.reduceBEq, beq_self_eq_true, List.all_cons, List.all_nil, Value.oneCell', Int.reduceEq, Int.reduceLT, Nat.reduceLeDiff, List.getElem?_toArray, Nat.reduceLT, Nat.reduceAdd, Nat.reduceEqDiff, reduceIte]
      refine SEM.append1 (by rw [List.length_map, List.length_range]; omega) (by rw [List.length_map, List.length_range]; omega) (fun A2 c2 => wpk_sound 1000 ?_) rfl rfl rfl rfl rfl rfl rfl rfl sl27 sr27 sz46 ze46 rfl by46 (by decide)
      have hw : IntKind.i64.wrap ((i : Int) + 1) = ((i + 1 : Nat) : Int) := w64 (by omega) (by omega)
      simp only [go_sem, Int.toNat_zero, Nat.sub_zero, Nat.zero_mul, Nat.reduceBEq, beq_self_eq_true, List.all_cons, List.all_nil, Value.oneCell', Int.reduceEq, Int.reduceLT, Nat.reduceLeDiff, List.getElem?_toArray, Nat.reduceLT, Nat.reduceAdd, Nat.reduceEqDiff, reduceIte, hw]
      refine ⟨(⟨i + 1, by omega⟩, .slice A2 _ c2), [_], by simp [subE, get_cons], rfl, by simp [okL], ?_, by simp only; omega⟩
      refine Ent.pick 0 rfl ?_ (Ent.pick 0 rfl (Ent.refl _) (Ent.pick 0 rfl (Ent.refl _) (Ent.pick 0 rfl (Ent.refl _) (Ent.pick 0 rfl (Ent.refl _) (Ent.to_emp _)))))
      rw [List.range_succ, List.map_append]
      exact Ent.refl _
    · obtain rfl : i = 2 := by omega
      refine Ent.stL (Ent.addNil kT none (Ent.addNil kDatagram none (Ent.retRB (ownWorld_shut (x := newWorld n)) rfl ?_)))
      exact Ent.spick 3 rfl (Ent.refl _) (Ent.spick 3 rfl (Ent.refl _) (Ent.spick 3 rfl (Ent.refl _) (Ent.spick 2 rfl (Ent.refl _) (Ent.spick 1 rfl (Ent.refl _) (Ent.spick 0 rfl (Ent.refl _) (Ent.snil Ent.done))))))
end Go.Proofs.Ytfdhfnoljejkkaa
