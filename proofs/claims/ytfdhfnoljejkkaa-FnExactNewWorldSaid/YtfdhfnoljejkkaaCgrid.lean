/-
  What functions of the program do, each once. Printed by my programs con.py and fam.py for seat Ytfdhfnoljejkkaa.
-/
import Derived.Test.YtfdhfnoljejkkaaCbase
import Derived.Test.YtfdhfnoljejkkaaCbits
set_option linter.unusedVariables false
set_option linter.unusedSimpArgs false
namespace Go.Proofs.Ytfdhfnoljejkkaa
open Go Go.Sep Classical
def zStyle : SStyle := { fore := 0, back := 0, bold := false, under := false, turned := false }
def rowOf (cols : Int) (s : SStyle) : List SCell := List.replicate cols.toNat (blankC s)
def newGrid (cols rows : Int) : SGrid := { cols := cols, rows := List.replicate rows.toNat (rowOf cols zStyle) }
theorem rep_snoc {α : Type} (i : Nat) (x : α) : List.replicate i x ++ [x] = List.replicate (i + 1) x := by rw [List.replicate_succ']
set_option maxRecDepth 8000 in
theorem l5New_c {w : World} (cols rows : Int) (hc : cols ≤ 60) (hr : rows ≤ 30) : MFn Try.prog 26 [.int .i64 cols, .int .i64 rows] w (ownR kGrid (newGrid cols rows)) := by
  refine MFn.run 1000 Try.func26 Try.ntmps26 rfl rfl (by simp) ?_
  simp only [go_sem, Int.toNat_zero, Nat.sub_zero, Nat.zero_mul, Nat.reduceBEq, beq_self_eq_true, List.all_cons, List.all_nil, Value.oneCell', Int.reduceEq, Int.reduceLT, Nat.reduceLeDiff, List.getElem?_toArray, Nat.reduceLT, Nat.reduceAdd, Nat.reduceEqDiff, reduceIte]
  intro b0 b1
  refine SEM.loopI (X := { i : Nat // i ≤ rows.toNat } × Value) (fun x => [(0, .v (.int .i64 cols)), (1, .v (.int .i64 rows)), (6, .v (.int .i64 x.1.1)), (5, .l 1 0), (4, .l 0 0)]) (fun x => [(b0, [.int .i64 0, .slice none 0 0]), (b1, [.int .i64 cols, x.2])]) (fun x => [OwnS (kS kCell) x.2 (List.replicate x.1.1 (rowOf cols zStyle)), amb w]) (fun x => rows.toNat - x.1.1) (⟨0, by omega⟩, .slice none 0 0) (by simp [subE, Env.get]) ⟨[], rfl⟩ (by simp [okL]) (Ent.addNil (kS kCell) none (Ent.refl _)) ?_
  rintro ⟨⟨i, hi⟩, v⟩
  simp only
  refine SEM.ownShape fun A c hv hc0 hm hA => ?_
  subst hv
  refine wpk_sound 1000 ?_
  simp only [go_sem, Int.toNat_zero, Nat.sub_zero, Nat.zero_mul, Nat.reduceBEq, beq_self_eq_true, List.all_cons, List.all_nil, Value.oneCell', Int.reduceEq, Int.reduceLT, Nat.reduceLeDiff, List.getElem?_toArray, Nat.reduceLT, Nat.reduceAdd, Nat.reduceEqDiff, reduceIte]
  refine ⟨fun h1 => ?_, fun h1 => ?_⟩
  · refine SEM.drawL [4, 5, 6, 8] [0, 1, 2, 3] [(4, [], [0, 1]), (5, [], [0, 1]), (6, [7], []), (8, [], [])] mixed (by decide) ?_
    simp only [go_sem, Int.toNat_zero, Nat.sub_zero, Nat.zero_mul, Nat.reduceBEq, beq_self_eq_true, List.all_cons, List.all_nil, Value.oneCell', Int.reduceEq, Int.reduceLT, Nat.reduceLeDiff, List.getElem?_toArray, Nat.reduceLT, Nat.reduceAdd, Nat.reduceEqDiff, reduceIte]
    refine lk_cons rfl rfl rfl ?_
    simp only [go_sem, Int.toNat_zero, Nat.sub_zero, Nat.zero_mul, Nat.reduceBEq, beq_self_eq_true, List.all_cons, List.all_nil, Value.oneCell', Int.reduceEq, Int.reduceLT, Nat.reduceLeDiff, List.getElem?_toArray, Nat.reduceLT, Nat.reduceAdd, Nat.reduceEqDiff, reduceIte]
    refine LG.intro fun k' R j => ?_
    refine SEM.callM (fun w' _ => l4Row_c cols zStyle (by omega)) (fun r => SEM.ownShape fun A1 c1 e1 _ _ _ => ?_) rfl rfl rfl rfl rfl rfl rfl cf45
    subst e1
    refine j _ _ _ ?_
    simp only [go_sem, Int.toNat_zero, Nat.sub_zero, Nat.zero_mul, Nat.reduceBEq, beq_self_eq_true, List.all_cons, List.all_nil, Value.oneCell', Int.reduceEq, Int.reduceLT, Nat.reduceLeDiff, List.getElem?_toArray, Nat.reduceLT, Nat.reduceAdd, Nat.reduceEqDiff, reduceIte]
    refine lk_cons rfl rfl rfl ?_
    simp only [go_sem, Int.toNat_zero, Nat.sub_zero, Nat.zero_mul, Nat.reduceBEq, beq_self_eq_true, List.all_cons, List.all_nil, Value.oneCell', Int.reduceEq, Int.reduceLT, Nat.reduceLeDiff, List.getElem?_toArray, Nat.reduceLT, Nat.reduceAdd, Nat.reduceEqDiff, reduceIte]
    refine LG.intro fun k' R j => ?_
    refine SEM.build1 (sz := 1) rfl rfl (one_of rfl) (fun b1 => j _ _ _ ?_) rfl rfl rfl rfl sl39 sz75 ze75 (by decide) (by decide)
    simp only [go_sem, Int.toNat_zero, Nat.sub_zero, Nat.zero_mul, Nat.reduceBEq, beq_self_eq_true, List.all_cons, List.all_nil, Value.oneCell', Int.reduceEq, Int.reduceLT, Nat.reduceLeDiff, List.getElem?_toArray, Nat.reduceLT, Nat.reduceAdd, Nat.reduceEqDiff, reduceIte]
    refine lk_cons rfl rfl rfl ?_
    simp only [go_sem, Int.toNat_zero, Nat.sub_zero, Nat.zero_mul, Nat.reduceBEq, beq_self_eq_true, List.all_cons, List.all_nil, Value.oneCell', Int.reduceEq, Int.reduceLT, Nat.reduceLeDiff, List.getElem?_toArray, Nat.reduceLT, Nat.reduceAdd, Nat.reduceEqDiff, reduceIte]
    refine LG.intro fun k' R j => ?_
    refine SEM.pull 1 rfl (SEM.pull 2 rfl ?_)
    refine SEM.append1S (by (try simp only [List.length_replicate, List.length_append, List.length_map, List.length_take, List.length_drop, List.length_cons, List.length_nil]); omega) (by (try simp only [List.length_replicate, List.length_append, List.length_map, List.length_take, List.length_drop, List.length_cons, List.length_nil]); omega) (fun A2 c2 => j _ _ _ ?_) rfl rfl rfl rfl rfl rfl rfl rfl sl39 sr39 sz75 ze75 rfl by75
    simp only [go_sem, Int.toNat_zero, Nat.sub_zero, Nat.zero_mul, Nat.reduceBEq, beq_self_eq_true, List.all_cons, List.all_nil, Value.oneCell', Int.reduceEq, Int.reduceLT, Nat.reduceLeDiff, List.getElem?_toArray, Nat.reduceLT, Nat.reduceAdd, Nat.reduceEqDiff, reduceIte]
    refine lk_cons rfl rfl rfl ?_
    simp only [go_sem, Int.toNat_zero, Nat.sub_zero, Nat.zero_mul, Nat.reduceBEq, beq_self_eq_true, List.all_cons, List.all_nil, Value.oneCell', Int.reduceEq, Int.reduceLT, Nat.reduceLeDiff, List.getElem?_toArray, Nat.reduceLT, Nat.reduceAdd, Nat.reduceEqDiff, reduceIte]
    have hw : IntKind.i64.wrap ((i : Int) + 1) = ((i + 1 : Nat) : Int) := w64 (by omega) (by omega)
    refine lk_nil (wpk_sound 1000 ?_)
    simp only [go_sem, Int.toNat_zero, Nat.sub_zero, Nat.zero_mul, Nat.reduceBEq, beq_self_eq_true, List.all_cons, List.all_nil, Value.oneCell', Int.reduceEq, Int.reduceLT, Nat.reduceLeDiff, List.getElem?_toArray, Nat.reduceLT, Nat.reduceAdd, Nat.reduceEqDiff, reduceIte, hw]
    refine ⟨(⟨i + 1, by omega⟩, .slice A2 _ c2), [], by simp [subE, get_cons], rfl, by simp [okL], ?_, by simp only; omega⟩
    rw [show List.replicate cols.toNat (blankC zStyle) = rowOf cols zStyle from rfl, rep_snoc]
    exact Ent.pick 0 rfl (Ent.refl _) (Ent.pick 0 rfl (Ent.refl _) (Ent.to_emp _))
  · obtain rfl : i = rows.toNat := by omega
    exact Ent.stL (Ent.retO (ownGrid_shut (x := newGrid cols rows)) (by simp [celGrid, newGrid]) (Ent.spick 0 rfl (Ent.refl _) (Ent.snil Ent.done)))
def zCell : List Value := [.int .i64 0, .int .i64 0, .int .i64 0, .bool false, .bool false, .bool false, .int .i64 0]
set_option maxRecDepth 8000 in
theorem Repeat_c {w : World} {v : Value} {y : SCell} (n : Int) (hn : 1 ≤ n ∧ n ≤ 60) (hv : RdS kCell w v [y]) : MFn Try.prog 55 [v, .int .i64 n] w (fun r => OwnS kCell r (List.replicate n.toNat y)) := by
  obtain ⟨M, rfl⟩ : ∃ M : Nat, n = M := ⟨n.toNat, by omega⟩
  obtain ⟨X, c, rfl, ⟨hc, hm⟩, hcs⟩ := hv
  obtain ⟨ad, rfl, hcs1⟩ := hcs (by simp)
  obtain ⟨cs0, h0, hcs2⟩ := hcs1 0 y rfl
  obtain rfl : cs0 = encCell y := h0
  rw [Nat.zero_mul, add_zero] at hcs2
  have u1 : IntKind.u64.wrap ((1 : Nat) : Int) = 1 := rfl
  have un : IntKind.u64.wrap (M : Int) = M := by rw [IntKind.wrap_u64]; omega
  have i1 : IntKind.i64.wrap (M : Int) = M := w64 (by omega) (by omega)
  have hm1 : Nat.min 1 M = 1 := Nat.min_eq_left (by omega)
  have hM0 : ¬ M = 0 := by omega
  refine MFn.run 3000 Try.func55 Try.ntmps55 rfl rfl (by simp) ?_
  simp only [go_sem, Int.toNat_zero, Nat.sub_zero, Nat.zero_mul, Nat.reduceBEq, beq_self_eq_true, List.all_cons, List.all_nil, Value.oneCell', Int.reduceEq, Int.reduceLT, Nat.reduceLeDiff, List.getElem?_toArray, Nat.reduceLT, Nat.reduceAdd, Nat.reduceEqDiff, reduceIte, u1, un]
  refine ⟨fun h => absurd h (by omega), fun _ => ?_⟩
  refine SEM.callP (Mul_c (x := 1) (y := (M : Int)) (by omega) (by omega) (by omega) (by omega) (by omega) (by omega)) (wpk_sound 3000 ?_) rfl rfl rfl rfl rfl rfl rfl cf58
  simp only [go_sem, Int.toNat_zero, Nat.sub_zero, Nat.zero_mul, Nat.reduceBEq, beq_self_eq_true, List.all_cons, List.all_nil, Value.oneCell', Int.reduceEq, Int.reduceLT, Nat.reduceLeDiff, List.getElem?_toArray, Nat.reduceLT, Nat.reduceAdd, Nat.reduceEqDiff, reduceIte, Int.one_mul, i1]
  refine ⟨fun h => absurd h (by omega), fun _ => ?_⟩
  refine SEM.make rfl rfl rfl rfl rfl sl75 sz88 rfl ze88 (one_of rfl) by88 (by omega) (by omega) (by omega) (by omega) fun b => wpk_sound 3000 ?_
  simp only [go_sem, Int.toNat_zero, Nat.sub_zero, Nat.zero_mul, Nat.reduceBEq, beq_self_eq_true, List.all_cons, List.all_nil, Value.oneCell', Int.reduceEq, Int.reduceLT, Nat.reduceLeDiff, List.getElem?_toArray, Nat.reduceLT, Nat.reduceAdd, Nat.reduceEqDiff, reduceIte]
  refine SEM.copyX (q := 0) (dl := M) (m := 1) 0 (encCell y) rfl ((amb_cells 1 rfl hcs2).imp fun w h => .inr ⟨_, rfl, h⟩) rfl (one_of rfl) (by rw [hm1, flat_len (n := 7) rfl]; omega) (by rw [hm1]; decide) (wpk_sound 3000 ?_) rfl rfl rfl rfl rfl rfl rfl rfl sl75 sz88
  simp only [go_sem, Int.toNat_zero, Nat.sub_zero, Nat.zero_mul, Nat.reduceBEq, beq_self_eq_true, List.all_cons, List.all_nil, Value.oneCell', Int.reduceEq, Int.reduceLT, Nat.reduceLeDiff, List.getElem?_toArray, Nat.reduceLT, Nat.reduceAdd, Nat.reduceEqDiff, reduceIte, hm1]
  refine SEM.loopI (X := { i : Nat // 1 ≤ i ∧ i ≤ M }) (fun x => [(7, .v (.slice (some ⟨b, 0, none⟩) M M)), (8, .v (.int .i64 x.1))]) (fun _ => []) (fun x => [Row (.slice (some ⟨b, 0, none⟩) M M) M 7 (filled M x.1 (encCell y) zCell), amb w]) (fun x => M - x.1) ⟨1, by omega⟩ (by simp [subE, Env.get]) ⟨[], by simp⟩ (by simp [okL]) ?_ ?_
  · have := filled_splice (n := 7) (N := M) (i := 0) (m := 1) (e := encCell y) (z := zCell) rfl rfl (by omega)
    simp only [Nat.zero_add, Nat.zero_mul] at this
    show Ent _ (stars [Row _ M 7 (filled M 1 (encCell y) zCell), amb w])
    rw [← this]
    simp only [filled, List.replicate_zero, List.replicate_one, List.flatten_nil, List.flatten_cons, List.nil_append, List.append_nil, Nat.sub_zero, zCell]
    exact Ent.refl _
  rintro ⟨i, hi1, hi⟩
  refine wpk_sound 1000 ?_
  simp only [go_sem, Int.toNat_zero, Nat.sub_zero, Nat.zero_mul, Nat.reduceBEq, beq_self_eq_true, List.all_cons, List.all_nil, Value.oneCell', Int.reduceEq, Int.reduceLT, Nat.reduceLeDiff, List.getElem?_toArray, Nat.reduceLT, Nat.reduceAdd, Nat.reduceEqDiff, reduceIte]
  refine ⟨fun h1 => ?_, fun h1 => ?_⟩
  · have hne : ¬ M = i := by omega
    refine SEM.drawL [7, 9] [0, 1, 2, 3, 4, 5, 6] [(7, [8], [0]), (9, [], [])] mixed (by decide) ?_
    simp only [go_sem, Int.toNat_zero, Nat.sub_zero, Nat.zero_mul, Nat.reduceBEq, beq_self_eq_true, List.all_cons, List.all_nil, Value.oneCell', Int.reduceEq, Int.reduceLT, Nat.reduceLeDiff, List.getElem?_toArray, Nat.reduceLT, Nat.reduceAdd, Nat.reduceEqDiff, reduceIte]
    refine NG.of (QStep.cutSl (j := (i : Int)) (h := (M : Int)) (m := (M : Int)) (by omega) (by omega) (by omega) (by omega) rfl rfl rfl rfl rfl (by simp) sl75 sz88) ?_
    simp only [go_sem, Int.toNat_zero, Nat.sub_zero, Nat.zero_mul, Nat.reduceBEq, beq_self_eq_true, List.all_cons, List.all_nil, Value.oneCell', Int.reduceEq, Int.reduceLT, Nat.reduceLeDiff, List.getElem?_toArray, Nat.reduceLT, Nat.reduceAdd, Nat.reduceEqDiff, reduceIte, cutAddr, hne]
    refine NG.of (QStep.cutSl (j := 0) (h := (i : Int)) (m := (M : Int)) (by omega) (by omega) (by omega) (by omega) rfl rfl rfl rfl rfl (by simp) sl75 sz88) ?_
    simp only [go_sem, Int.toNat_zero, Nat.sub_zero, Nat.zero_mul, Nat.reduceBEq, beq_self_eq_true, List.all_cons, List.all_nil, Value.oneCell', Int.reduceEq, Int.reduceLT, Nat.reduceLeDiff, List.getElem?_toArray, Nat.reduceLT, Nat.reduceAdd, Nat.reduceEqDiff, reduceIte, cutAddr, hM0]
    refine lk_cons rfl rfl rfl ?_
    simp only [go_sem, Int.toNat_zero, Nat.sub_zero, Nat.zero_mul, Nat.reduceBEq, beq_self_eq_true, List.all_cons, List.all_nil, Value.oneCell', Int.reduceEq, Int.reduceLT, Nat.reduceLeDiff, List.getElem?_toArray, Nat.reduceLT, Nat.reduceAdd, Nat.reduceEqDiff, reduceIte]
    refine LG.intro fun k' R j => ?_
    have hmin : Nat.min i (M - i) ≤ i ∧ Nat.min i (M - i) ≤ M - i ∧ 1 ≤ Nat.min i (M - i) := ⟨Nat.min_le_left _ _, Nat.min_le_right _ _, Nat.le_min.2 ⟨hi1, by omega⟩⟩
    have hw : IntKind.i64.wrap ((i : Int) + (Nat.min i (M - i) : Nat)) = ((i + Nat.min i (M - i) : Nat) : Int) := w64 (by omega) (by omega)
    refine SEM.copyX (q := i * 7) (dl := M - i) (m := i) 0 (List.replicate i (encCell y)).flatten rfl ((H_says (i := 0) rfl (Row.at_ _ _ _ _ _)).imp fun w h => .inr ⟨_, rfl, by rw [← filled_take (n := 7) (z := zCell) (N := M) rfl i (Nat.le_refl _)]; exact h.take _⟩) (flat_len rfl i) (fun u hu => by obtain ⟨l, hl, hu⟩ := List.mem_flatten.1 hu; rw [List.eq_of_mem_replicate hl] at hu; exact one_of (cs := encCell y) rfl u hu) (by simp only [filled, List.length_append]; rw [flat_len (n := 7) rfl, flat_len (n := 7) rfl]; omega) (by omega) (j _ _ _ ?_) rfl rfl rfl rfl rfl rfl rfl rfl sl75 sz88
    simp only [go_sem, Int.toNat_zero, Nat.sub_zero, Nat.zero_mul, Nat.reduceBEq, beq_self_eq_true, List.all_cons, List.all_nil, Value.oneCell', Int.reduceEq, Int.reduceLT, Nat.reduceLeDiff, List.getElem?_toArray, Nat.reduceLT, Nat.reduceAdd, Nat.reduceEqDiff, reduceIte, hw]
    refine lk_cons rfl rfl rfl ?_
    simp only [go_sem, Int.toNat_zero, Nat.sub_zero, Nat.zero_mul, Nat.reduceBEq, beq_self_eq_true, List.all_cons, List.all_nil, Value.oneCell', Int.reduceEq, Int.reduceLT, Nat.reduceLeDiff, List.getElem?_toArray, Nat.reduceLT, Nat.reduceAdd, Nat.reduceEqDiff, reduceIte]
    refine lk_nil (wpk_sound 1000 ?_)
    simp only [go_sem, Int.toNat_zero, Nat.sub_zero, Nat.zero_mul, Nat.reduceBEq, beq_self_eq_true, List.all_cons, List.all_nil, Value.oneCell', Int.reduceEq, Int.reduceLT, Nat.reduceLeDiff, List.getElem?_toArray, Nat.reduceLT, Nat.reduceAdd, Nat.reduceEqDiff, reduceIte]
    refine ⟨⟨i + Nat.min i (M - i), by omega, by omega⟩, [], by simp [subE, get_cons], rfl, by simp [okL], ?_, by simp only; omega⟩
    have e2 : ((List.replicate i (encCell y)).flatten.take (Nat.min i (M - i) * 7)) = (List.replicate (Nat.min i (M - i)) (encCell y)).flatten := by
      have := filled_take (n := 7) (N := i) (i := i) (e := encCell y) (z := zCell) rfl (Nat.min i (M - i)) hmin.1
      simpa [filled] using this
    have e3 := filled_splice (n := 7) (N := M) (i := i) (m := Nat.min i (M - i)) (e := encCell y) (z := zCell) rfl rfl (by omega)
    rw [← e2] at e3
    refine Ent.pick 0 rfl ?_ (Ent.pick 0 rfl (Ent.refl _) (Ent.to_emp _))
    exact e3 ▸ Ent.refl _
  · obtain rfl : i = M := by omega
    refine Ent.stL (Ent.pick 0 rfl ?_ Ent.done)
    have := OwnS.of_rep (enc := encCell) (n := 7) (fun _ => rfl) (fun _ => one_of rfl) (.slice (some ⟨b, 0, none⟩) i i) i y
    simpa [filled, encCell] using this
end Go.Proofs.Ytfdhfnoljejkkaa
