/-
  What functions of the program do, each once. Printed by my programs con.py and fam.py for seat Ytfdhfnoljejkkaa.
-/
import Derived.Test.YtfdhfnoljejkkaaTy
set_option linter.unusedVariables false
set_option linter.unusedSimpArgs false
namespace Go.Proofs.Ytfdhfnoljejkkaa
open Go Go.Sep Classical
theorem eqInt64S_c {w : World} {v u : Value} {xs ys : List Int} (hv : RdS kI w v xs) (hu : RdS kI w u ys) : RFn Try.prog 48 [v, u] w (.bool (decide (xs = ys))) := by
  have hv' := hv
  have hu' := hu
  obtain ⟨A, c, rfl, ⟨hc, hm⟩, -⟩ := hv'
  obtain ⟨B, d, rfl, ⟨hd, hm'⟩, -⟩ := hu'
  refine RFn.run 1000 Try.func48 Try.ntmps48 rfl rfl (by simp) ?_
  simp only [go_sem, Nat.reduceBEq, beq_self_eq_true, List.all_cons, List.all_nil, Value.oneCell', Int.reduceEq, Int.reduceLT, Nat.reduceLeDiff, List.getElem?_toArray, Nat.reduceLT, Nat.reduceAdd, Nat.reduceEqDiff, reduceIte]
  refine ⟨fun h => ret_fact (i := 0) rfl (by simp at h; simp; rintro rfl; exact h rfl), fun h => ?_⟩
  have hl : xs.length = ys.length := by simp at h; omega
  refine SEM.loopI (X := { i : Nat // i ≤ xs.length ∧ ∀ j, j < i → xs[j]? = ys[j]? }) (fun x => [(0, .v (.slice A xs.length c)), (1, .v (.slice B ys.length d)), (5, .v (.int .i64 x.1))]) (fun _ => []) (fun _ => [amb w]) (fun x => xs.length - x.1) ⟨0, by omega, fun j hj => absurd hj (by omega)⟩ (by simp [subE, Env.get]) ⟨[], by simp⟩ (by simp [okL]) (Ent.refl _) ?_
  rintro ⟨i, hi, hpre⟩
  refine wpk_sound 1000 ?_
  simp only [go_sem, Nat.reduceBEq, beq_self_eq_true, List.all_cons, List.all_nil, Value.oneCell', Int.reduceEq, Int.reduceLT, Nat.reduceLeDiff, List.getElem?_toArray, Nat.reduceLT, Nat.reduceAdd, Nat.reduceEqDiff, reduceIte]
  refine ⟨fun h1 => ?_, fun h1 => ?_⟩
  · have hx : i < xs.length := by omega
    have hy : i < ys.length := by omega
    obtain ⟨ad, cs, rfl, rfl, hcs⟩ := hv.at' hx
    obtain ⟨ad', cs', rfl, rfl, hcs'⟩ := hu.at' hy
    refine SEM.drawW 1000 mixed rfl ?_
    simp only [go_sem, Nat.reduceBEq, beq_self_eq_true, List.all_cons, List.all_nil, Value.oneCell', Int.reduceEq, Int.reduceLT, Nat.reduceLeDiff, List.getElem?_toArray, Nat.reduceLT, Nat.reduceAdd, Nat.reduceEqDiff, reduceIte]
    refine ⟨⟨by omega, by omega⟩, ?_⟩
    refine QG.load 1000 (amb_cells 0 rfl hcs) (by simp only [go_sem, Nat.reduceBEq, beq_self_eq_true, List.all_cons, List.all_nil, Value.oneCell', Int.reduceEq, Int.reduceLT, Nat.reduceLeDiff, List.getElem?_toArray, Nat.reduceLT, Nat.reduceAdd, Nat.reduceEqDiff, reduceIte] <;> rfl) ?_ rfl rfl
    simp only [go_sem, Nat.reduceBEq, beq_self_eq_true, List.all_cons, List.all_nil, Value.oneCell', Int.reduceEq, Int.reduceLT, Nat.reduceLeDiff, List.getElem?_toArray, Nat.reduceLT, Nat.reduceAdd, Nat.reduceEqDiff, reduceIte]
    refine ⟨⟨by omega, by omega⟩, ?_⟩
    refine QG.load 1000 (amb_cells 0 rfl hcs') (by simp only [go_sem, Nat.reduceBEq, beq_self_eq_true, List.all_cons, List.all_nil, Value.oneCell', Int.reduceEq, Int.reduceLT, Nat.reduceLeDiff, List.getElem?_toArray, Nat.reduceLT, Nat.reduceAdd, Nat.reduceEqDiff, reduceIte] <;> rfl) ?_ rfl rfl
    simp only [go_sem, Nat.reduceBEq, beq_self_eq_true, List.all_cons, List.all_nil, Value.oneCell', Int.reduceEq, Int.reduceLT, Nat.reduceLeDiff, List.getElem?_toArray, Nat.reduceLT, Nat.reduceAdd, Nat.reduceEqDiff, reduceIte]
    refine ⟨fun h2 => ret_fact (i := 0) rfl (by simp at h2; simp; exact pre_not hx hy h2), fun h2 => ?_⟩
    have hw : IntKind.i64.wrap ((i : Int) + 1) = ((i + 1 : Nat) : Int) := by rw [IntKind.wrap_i64]; omega
    exact ⟨⟨i + 1, by omega, pre_succ hpre hx hy (by simpa using h2)⟩, [], by simp [subE, get_cons, hw], rfl, by simp [okL], Ent.refl _, by simp only; omega⟩
  · exact ret_fact (i := 0) rfl (by simp; exact pre_all hpre (by omega) hl)
theorem eqStyle_c {w : World} {cs ds : List Value} {a b : SStyle} (ha : kStyle.rd w a cs) (hb : kStyle.rd w b ds) : RFn Try.prog 63 [.agg cs.toArray, .agg ds.toArray] w (.bool (decide (a = b))) := by
  obtain rfl := ha
  obtain rfl := hb
  refine RFn.run 3000 Try.func63 Try.ntmps63 rfl rfl (by simp) ?_
  simp only [go_sem, Nat.reduceBEq, beq_self_eq_true, List.all_cons, List.all_nil, Value.oneCell', Int.reduceEq, Int.reduceLT, Nat.reduceLeDiff, List.getElem?_toArray, Nat.reduceLT, Nat.reduceAdd, Nat.reduceEqDiff, reduceIte, List.append_nil, List.cons_append, List.nil_append]
  intro b0 b1
  refine ⟨fun hfore => ret_fact (i := 0) rfl (by simp at hfore; simp; rintro rfl; exact hfore rfl), fun hfore => ?_⟩
  refine ⟨fun hback => ret_fact (i := 0) rfl (by simp at hback; simp; rintro rfl; exact hback rfl), fun hback => ?_⟩
  refine ⟨fun hbold => ret_fact (i := 0) rfl (by simp at hbold; simp; rintro rfl; exact hbold rfl), fun hbold => ?_⟩
  refine ⟨fun hunder => ret_fact (i := 0) rfl (by simp at hunder; simp; rintro rfl; exact hunder rfl), fun hunder => ?_⟩
  refine ⟨fun hturned => ret_fact (i := 0) rfl (by simp at hturned; simp; rintro rfl; exact hturned rfl), fun hturned => ?_⟩
  exact ret_fact (i := 0) rfl (by cases a; cases b; simp at hfore hback hbold hunder hturned; simp [*])
theorem eqCell_c {w : World} {cs ds : List Value} {a b : SCell} (ha : kCell.rd w a cs) (hb : kCell.rd w b ds) : RFn Try.prog 62 [.agg cs.toArray, .agg ds.toArray] w (.bool (decide (a = b))) := by
  obtain rfl := ha
  obtain rfl := hb
  refine RFn.run 3000 Try.func62 Try.ntmps62 rfl rfl (by simp) ?_
  simp only [go_sem, Nat.reduceBEq, beq_self_eq_true, List.all_cons, List.all_nil, Value.oneCell', Int.reduceEq, Int.reduceLT, Nat.reduceLeDiff, List.getElem?_toArray, Nat.reduceLT, Nat.reduceAdd, Nat.reduceEqDiff, reduceIte, List.append_nil, List.cons_append, List.nil_append]
  intro b0 b1
  refine ⟨fun hrune => ret_fact (i := 0) rfl (by simp at hrune; simp; rintro rfl; exact hrune rfl), fun hrune => ?_⟩
  refine SEM.callR (fun w' hs => eqStyle_c (a := a.style) (b := b.style) rfl rfl) (wpk_sound 3000 ?_) rfl rfl rfl rfl rfl rfl rfl cf63
  simp only [go_sem, Nat.reduceBEq, beq_self_eq_true, List.all_cons, List.all_nil, Value.oneCell', Int.reduceEq, Int.reduceLT, Nat.reduceLeDiff, List.getElem?_toArray, Nat.reduceLT, Nat.reduceAdd, Nat.reduceEqDiff, reduceIte, List.append_nil, List.cons_append, List.nil_append]
  refine ⟨fun hstyle => ret_fact (i := 0) rfl (by simp at hstyle; simp; rintro rfl; exact hstyle rfl), fun hstyle => ?_⟩
  refine ⟨fun hpart => ret_fact (i := 0) rfl (by simp at hpart; simp; rintro rfl; exact hpart rfl), fun hpart => ?_⟩
  exact ret_fact (i := 0) rfl (by cases a; cases b; simp at hrune hstyle hpart; simp [*])
theorem eqCellS_c {w : World} {v u : Value} {xs ys : List SCell} (hv : RdS kCell w v xs) (hu : RdS kCell w u ys) : RFn Try.prog 59 [v, u] w (.bool (decide (xs = ys))) := by
  have hv' := hv
  have hu' := hu
  obtain ⟨A, c, rfl, ⟨hc, hm⟩, -⟩ := hv'
  obtain ⟨B, d, rfl, ⟨hd, hm'⟩, -⟩ := hu'
  refine RFn.run 1000 Try.func59 Try.ntmps59 rfl rfl (by simp) ?_
  simp only [go_sem, Nat.reduceBEq, beq_self_eq_true, List.all_cons, List.all_nil, Value.oneCell', Int.reduceEq, Int.reduceLT, Nat.reduceLeDiff, List.getElem?_toArray, Nat.reduceLT, Nat.reduceAdd, Nat.reduceEqDiff, reduceIte]
  refine ⟨fun h => ret_fact (i := 0) rfl (by simp at h; simp; rintro rfl; exact h rfl), fun h => ?_⟩
  have hl : xs.length = ys.length := by simp at h; omega
  refine SEM.loopI (X := { i : Nat // i ≤ xs.length ∧ ∀ j, j < i → xs[j]? = ys[j]? }) (fun x => [(0, .v (.slice A xs.length c)), (1, .v (.slice B ys.length d)), (5, .v (.int .i64 x.1))]) (fun _ => []) (fun _ => [amb w]) (fun x => xs.length - x.1) ⟨0, by omega, fun j hj => absurd hj (by omega)⟩ (by simp [subE, Env.get]) ⟨[], by simp⟩ (by simp [okL]) (Ent.refl _) ?_
  rintro ⟨i, hi, hpre⟩
  refine wpk_sound 1000 ?_
  simp only [go_sem, Nat.reduceBEq, beq_self_eq_true, List.all_cons, List.all_nil, Value.oneCell', Int.reduceEq, Int.reduceLT, Nat.reduceLeDiff, List.getElem?_toArray, Nat.reduceLT, Nat.reduceAdd, Nat.reduceEqDiff, reduceIte]
  refine ⟨fun h1 => ?_, fun h1 => ?_⟩
  · have hx : i < xs.length := by omega
    have hy : i < ys.length := by omega
    obtain ⟨ad, cs, rfl, hr, hcs⟩ := hv.at' hx
    obtain ⟨ad', cs', rfl, hr', hcs'⟩ := hu.at' hy
    refine SEM.drawW 1000 mixed rfl ?_
    simp only [go_sem, Nat.reduceBEq, beq_self_eq_true, List.all_cons, List.all_nil, Value.oneCell', Int.reduceEq, Int.reduceLT, Nat.reduceLeDiff, List.getElem?_toArray, Nat.reduceLT, Nat.reduceAdd, Nat.reduceEqDiff, reduceIte]
    refine ⟨⟨by omega, by omega⟩, ?_⟩
    refine QG.load 1000 (amb_cells 0 rfl hcs) (loadC_agg (kCell.len hr) (by simp only [go_sem, Nat.reduceBEq, beq_self_eq_true, List.all_cons, List.all_nil, Value.oneCell', Int.reduceEq, Int.reduceLT, Nat.reduceLeDiff, List.getElem?_toArray, Nat.reduceLT, Nat.reduceAdd, Nat.reduceEqDiff, reduceIte] <;> rfl) (by simp only [go_sem, Nat.reduceBEq, beq_self_eq_true, List.all_cons, List.all_nil, Value.oneCell', Int.reduceEq, Int.reduceLT, Nat.reduceLeDiff, List.getElem?_toArray, Nat.reduceLT, Nat.reduceAdd, Nat.reduceEqDiff, reduceIte])) ?_ rfl rfl
    simp only [go_sem, Nat.reduceBEq, beq_self_eq_true, List.all_cons, List.all_nil, Value.oneCell', Int.reduceEq, Int.reduceLT, Nat.reduceLeDiff, List.getElem?_toArray, Nat.reduceLT, Nat.reduceAdd, Nat.reduceEqDiff, reduceIte]
    refine ⟨⟨by omega, by omega⟩, ?_⟩
    refine QG.load 1000 (amb_cells 0 rfl hcs') (loadC_agg (kCell.len hr') (by simp only [go_sem, Nat.reduceBEq, beq_self_eq_true, List.all_cons, List.all_nil, Value.oneCell', Int.reduceEq, Int.reduceLT, Nat.reduceLeDiff, List.getElem?_toArray, Nat.reduceLT, Nat.reduceAdd, Nat.reduceEqDiff, reduceIte] <;> rfl) (by simp only [go_sem, Nat.reduceBEq, beq_self_eq_true, List.all_cons, List.all_nil, Value.oneCell', Int.reduceEq, Int.reduceLT, Nat.reduceLeDiff, List.getElem?_toArray, Nat.reduceLT, Nat.reduceAdd, Nat.reduceEqDiff, reduceIte])) ?_ rfl rfl
    simp only [go_sem, Nat.reduceBEq, beq_self_eq_true, List.all_cons, List.all_nil, Value.oneCell', Int.reduceEq, Int.reduceLT, Nat.reduceLeDiff, List.getElem?_toArray, Nat.reduceLT, Nat.reduceAdd, Nat.reduceEqDiff, reduceIte]
    refine QG.callR 1000 (fun w' hs => eqCell_c (kCell.keep hr (sat_still 0 hs rfl)) (kCell.keep hr' (sat_still 0 hs rfl))) ?_ rfl rfl rfl rfl rfl cf62
    simp only [go_sem, Nat.reduceBEq, beq_self_eq_true, List.all_cons, List.all_nil, Value.oneCell', Int.reduceEq, Int.reduceLT, Nat.reduceLeDiff, List.getElem?_toArray, Nat.reduceLT, Nat.reduceAdd, Nat.reduceEqDiff, reduceIte]
    refine ⟨fun h2 => ret_fact (i := 0) rfl (by simp at h2; simp; exact pre_not hx hy h2), fun h2 => ?_⟩
    have hw : IntKind.i64.wrap ((i : Int) + 1) = ((i + 1 : Nat) : Int) := by rw [IntKind.wrap_i64]; omega
    exact ⟨⟨i + 1, by omega, pre_succ hpre hx hy (by simpa using h2)⟩, [], by simp [subE, get_cons, hw], rfl, by simp [okL], Ent.refl _, by simp only; omega⟩
  · exact ret_fact (i := 0) rfl (by simp; exact pre_all hpre (by omega) hl)
theorem eqCellSS_c {w : World} {v u : Value} {xs ys : List (List SCell)} (hv : RdS (kS kCell) w v xs) (hu : RdS (kS kCell) w u ys) : RFn Try.prog 57 [v, u] w (.bool (decide (xs = ys))) := by
  have hv' := hv
  have hu' := hu
  obtain ⟨A, c, rfl, ⟨hc, hm⟩, -⟩ := hv'
  obtain ⟨B, d, rfl, ⟨hd, hm'⟩, -⟩ := hu'
  refine RFn.run 1000 Try.func57 Try.ntmps57 rfl rfl (by simp) ?_
  simp only [go_sem, Nat.reduceBEq, beq_self_eq_true, List.all_cons, List.all_nil, Value.oneCell', Int.reduceEq, Int.reduceLT, Nat.reduceLeDiff, List.getElem?_toArray, Nat.reduceLT, Nat.reduceAdd, Nat.reduceEqDiff, reduceIte]
  refine ⟨fun h => ret_fact (i := 0) rfl (by simp at h; simp; rintro rfl; exact h rfl), fun h => ?_⟩
  have hl : xs.length = ys.length := by simp at h; omega
  refine SEM.loopI (X := { i : Nat // i ≤ xs.length ∧ ∀ j, j < i → xs[j]? = ys[j]? }) (fun x => [(0, .v (.slice A xs.length c)), (1, .v (.slice B ys.length d)), (5, .v (.int .i64 x.1))]) (fun _ => []) (fun _ => [amb w]) (fun x => xs.length - x.1) ⟨0, by omega, fun j hj => absurd hj (by omega)⟩ (by simp [subE, Env.get]) ⟨[], by simp⟩ (by simp [okL]) (Ent.refl _) ?_
  rintro ⟨i, hi, hpre⟩
  refine wpk_sound 1000 ?_
  simp only [go_sem, Nat.reduceBEq, beq_self_eq_true, List.all_cons, List.all_nil, Value.oneCell', Int.reduceEq, Int.reduceLT, Nat.reduceLeDiff, List.getElem?_toArray, Nat.reduceLT, Nat.reduceAdd, Nat.reduceEqDiff, reduceIte]
  refine ⟨fun h1 => ?_, fun h1 => ?_⟩
  · have hx : i < xs.length := by omega
    have hy : i < ys.length := by omega
    obtain ⟨ad, cs, rfl, ⟨r, rfl, hr⟩, hcs⟩ := hv.at' hx
    obtain ⟨ad', cs', rfl, ⟨r', rfl, hr'⟩, hcs'⟩ := hu.at' hy
    refine SEM.drawW 1000 mixed rfl ?_
    simp only [go_sem, Nat.reduceBEq, beq_self_eq_true, List.all_cons, List.all_nil, Value.oneCell', Int.reduceEq, Int.reduceLT, Nat.reduceLeDiff, List.getElem?_toArray, Nat.reduceLT, Nat.reduceAdd, Nat.reduceEqDiff, reduceIte]
    refine ⟨⟨by omega, by omega⟩, ?_⟩
    refine QG.load 1000 (amb_cells 0 rfl hcs) (loadC_one (by simp only [go_sem, Nat.reduceBEq, beq_self_eq_true, List.all_cons, List.all_nil, Value.oneCell', Int.reduceEq, Int.reduceLT, Nat.reduceLeDiff, List.getElem?_toArray, Nat.reduceLT, Nat.reduceAdd, Nat.reduceEqDiff, reduceIte])) ?_ rfl rfl
    simp only [go_sem, Nat.reduceBEq, beq_self_eq_true, List.all_cons, List.all_nil, Value.oneCell', Int.reduceEq, Int.reduceLT, Nat.reduceLeDiff, List.getElem?_toArray, Nat.reduceLT, Nat.reduceAdd, Nat.reduceEqDiff, reduceIte]
    refine ⟨⟨by omega, by omega⟩, ?_⟩
    refine QG.load 1000 (amb_cells 0 rfl hcs') (loadC_one (by simp only [go_sem, Nat.reduceBEq, beq_self_eq_true, List.all_cons, List.all_nil, Value.oneCell', Int.reduceEq, Int.reduceLT, Nat.reduceLeDiff, List.getElem?_toArray, Nat.reduceLT, Nat.reduceAdd, Nat.reduceEqDiff, reduceIte])) ?_ rfl rfl
    simp only [go_sem, Nat.reduceBEq, beq_self_eq_true, List.all_cons, List.all_nil, Value.oneCell', Int.reduceEq, Int.reduceLT, Nat.reduceLeDiff, List.getElem?_toArray, Nat.reduceLT, Nat.reduceAdd, Nat.reduceEqDiff, reduceIte]
    refine QG.callR 1000 (fun w' hs => eqCellS_c (hr.still (sat_still 0 hs rfl)) (hr'.still (sat_still 0 hs rfl))) ?_ rfl rfl rfl rfl rfl cf59
    simp only [go_sem, Nat.reduceBEq, beq_self_eq_true, List.all_cons, List.all_nil, Value.oneCell', Int.reduceEq, Int.reduceLT, Nat.reduceLeDiff, List.getElem?_toArray, Nat.reduceLT, Nat.reduceAdd, Nat.reduceEqDiff, reduceIte]
    refine ⟨fun h2 => ret_fact (i := 0) rfl (by simp at h2; simp; exact pre_not hx hy h2), fun h2 => ?_⟩
    have hw : IntKind.i64.wrap ((i : Int) + 1) = ((i + 1 : Nat) : Int) := by rw [IntKind.wrap_i64]; omega
    exact ⟨⟨i + 1, by omega, pre_succ hpre hx hy (by simpa using h2)⟩, [], by simp [subE, get_cons, hw], rfl, by simp [okL], Ent.refl _, by simp only; omega⟩
  · exact ret_fact (i := 0) rfl (by simp; exact pre_all hpre (by omega) hl)
theorem eqGrid_c {w : World} {cs ds : List Value} {a b : SGrid} (ha : kGrid.rd w a cs) (hb : kGrid.rd w b ds) : RFn Try.prog 49 [.agg cs.toArray, .agg ds.toArray] w (.bool (decide (a = b))) := by
  obtain ⟨_, _, rfl, rfl, _, _, rfl, ⟨_, rfl, prows⟩, rfl⟩ := ha
  obtain ⟨_, _, rfl, rfl, _, _, rfl, ⟨_, rfl, qrows⟩, rfl⟩ := hb
  refine RFn.run 3000 Try.func49 Try.ntmps49 rfl rfl (by simp) ?_
  simp only [go_sem, Nat.reduceBEq, beq_self_eq_true, List.all_cons, List.all_nil, Value.oneCell', Int.reduceEq, Int.reduceLT, Nat.reduceLeDiff, List.getElem?_toArray, Nat.reduceLT, Nat.reduceAdd, Nat.reduceEqDiff, reduceIte, List.append_nil, List.cons_append, List.nil_append]
  intro b0 b1
  refine ⟨fun hcols => ret_fact (i := 0) rfl (by simp at hcols; simp; rintro rfl; exact hcols rfl), fun hcols => ?_⟩
  refine SEM.callR (fun w' hs => eqCellSS_c (prows.still (sat_still 0 hs rfl)) (qrows.still (sat_still 0 hs rfl))) (wpk_sound 3000 ?_) rfl rfl rfl rfl rfl rfl rfl cf57
  simp only [go_sem, Nat.reduceBEq, beq_self_eq_true, List.all_cons, List.all_nil, Value.oneCell', Int.reduceEq, Int.reduceLT, Nat.reduceLeDiff, List.getElem?_toArray, Nat.reduceLT, Nat.reduceAdd, Nat.reduceEqDiff, reduceIte, List.append_nil, List.cons_append, List.nil_append]
  refine ⟨fun hrows => ret_fact (i := 0) rfl (by simp at hrows; simp; rintro rfl; exact hrows rfl), fun hrows => ?_⟩
  exact ret_fact (i := 0) rfl (by cases a; cases b; simp at hcols hrows; simp [*])
theorem eqStringS_c {w : World} {v u : Value} {xs ys : List ByteArray} (hv : RdS kT w v xs) (hu : RdS kT w u ys) : RFn Try.prog 15 [v, u] w (.bool (decide (xs = ys))) := by
  have hv' := hv
  have hu' := hu
  obtain ⟨A, c, rfl, ⟨hc, hm⟩, -⟩ := hv'
  obtain ⟨B, d, rfl, ⟨hd, hm'⟩, -⟩ := hu'
  refine RFn.run 1000 Try.func15 Try.ntmps15 rfl rfl (by simp) ?_
  simp only [go_sem, Nat.reduceBEq, beq_self_eq_true, List.all_cons, List.all_nil, Value.oneCell', Int.reduceEq, Int.reduceLT, Nat.reduceLeDiff, List.getElem?_toArray, Nat.reduceLT, Nat.reduceAdd, Nat.reduceEqDiff, reduceIte]
  refine ⟨fun h => ret_fact (i := 0) rfl (by simp at h; simp; rintro rfl; exact h rfl), fun h => ?_⟩
  have hl : xs.length = ys.length := by simp at h; omega
  refine SEM.loopI (X := { i : Nat // i ≤ xs.length ∧ ∀ j, j < i → xs[j]? = ys[j]? }) (fun x => [(0, .v (.slice A xs.length c)), (1, .v (.slice B ys.length d)), (5, .v (.int .i64 x.1))]) (fun _ => []) (fun _ => [amb w]) (fun x => xs.length - x.1) ⟨0, by omega, fun j hj => absurd hj (by omega)⟩ (by simp [subE, Env.get]) ⟨[], by simp⟩ (by simp [okL]) (Ent.refl _) ?_
  rintro ⟨i, hi, hpre⟩
  refine wpk_sound 1000 ?_
  simp only [go_sem, Nat.reduceBEq, beq_self_eq_true, List.all_cons, List.all_nil, Value.oneCell', Int.reduceEq, Int.reduceLT, Nat.reduceLeDiff, List.getElem?_toArray, Nat.reduceLT, Nat.reduceAdd, Nat.reduceEqDiff, reduceIte]
  refine ⟨fun h1 => ?_, fun h1 => ?_⟩
  · have hx : i < xs.length := by omega
    have hy : i < ys.length := by omega
    obtain ⟨ad, cs, rfl, rfl, hcs⟩ := hv.at' hx
    obtain ⟨ad', cs', rfl, rfl, hcs'⟩ := hu.at' hy
    refine SEM.drawW 1000 mixed rfl ?_
    simp only [go_sem, Nat.reduceBEq, beq_self_eq_true, List.all_cons, List.all_nil, Value.oneCell', Int.reduceEq, Int.reduceLT, Nat.reduceLeDiff, List.getElem?_toArray, Nat.reduceLT, Nat.reduceAdd, Nat.reduceEqDiff, reduceIte]
    refine ⟨⟨by omega, by omega⟩, ?_⟩
    refine QG.load 1000 (amb_cells 0 rfl hcs) (by simp only [go_sem, Nat.reduceBEq, beq_self_eq_true, List.all_cons, List.all_nil, Value.oneCell', Int.reduceEq, Int.reduceLT, Nat.reduceLeDiff, List.getElem?_toArray, Nat.reduceLT, Nat.reduceAdd, Nat.reduceEqDiff, reduceIte] <;> rfl) ?_ rfl rfl
    simp only [go_sem, Nat.reduceBEq, beq_self_eq_true, List.all_cons, List.all_nil, Value.oneCell', Int.reduceEq, Int.reduceLT, Nat.reduceLeDiff, List.getElem?_toArray, Nat.reduceLT, Nat.reduceAdd, Nat.reduceEqDiff, reduceIte]
    refine ⟨⟨by omega, by omega⟩, ?_⟩
    refine QG.load 1000 (amb_cells 0 rfl hcs') (by simp only [go_sem, Nat.reduceBEq, beq_self_eq_true, List.all_cons, List.all_nil, Value.oneCell', Int.reduceEq, Int.reduceLT, Nat.reduceLeDiff, List.getElem?_toArray, Nat.reduceLT, Nat.reduceAdd, Nat.reduceEqDiff, reduceIte] <;> rfl) ?_ rfl rfl
    simp only [go_sem, Nat.reduceBEq, beq_self_eq_true, List.all_cons, List.all_nil, Value.oneCell', Int.reduceEq, Int.reduceLT, Nat.reduceLeDiff, List.getElem?_toArray, Nat.reduceLT, Nat.reduceAdd, Nat.reduceEqDiff, reduceIte]
    refine ⟨fun h2 => ret_fact (i := 0) rfl (by simp at h2; simp; exact pre_not hx hy h2), fun h2 => ?_⟩
    have hw : IntKind.i64.wrap ((i : Int) + 1) = ((i + 1 : Nat) : Int) := by rw [IntKind.wrap_i64]; omega
    exact ⟨⟨i + 1, by omega, pre_succ hpre hx hy (by simpa using h2)⟩, [], by simp [subE, get_cons, hw], rfl, by simp [okL], Ent.refl _, by simp only; omega⟩
  · exact ret_fact (i := 0) rfl (by simp; exact pre_all hpre (by omega) hl)
theorem eqWindow_c {w : World} {cs ds : List Value} {a b : SWindow} (ha : kWindow.rd w a cs) (hb : kWindow.rd w b ds) : RFn Try.prog 50 [.agg cs.toArray, .agg ds.toArray] w (.bool (decide (a = b))) := by
  obtain ⟨_, _, rfl, rfl, _, _, rfl, ⟨_, rfl, pseen⟩, rfl⟩ := ha
  obtain ⟨_, _, rfl, rfl, _, _, rfl, ⟨_, rfl, qseen⟩, rfl⟩ := hb
  refine RFn.run 3000 Try.func50 Try.ntmps50 rfl rfl (by simp) ?_
  simp only [go_sem, Nat.reduceBEq, beq_self_eq_true, List.all_cons, List.all_nil, Value.oneCell', Int.reduceEq, Int.reduceLT, Nat.reduceLeDiff, List.getElem?_toArray, Nat.reduceLT, Nat.reduceAdd, Nat.reduceEqDiff, reduceIte, List.append_nil, List.cons_append, List.nil_append]
  intro b0 b1
  refine ⟨fun htop => ret_fact (i := 0) rfl (by simp at htop; simp; rintro rfl; exact htop rfl), fun htop => ?_⟩
  refine SEM.callR (fun w' hs => eqInt64S_c (pseen.still (sat_still 0 hs rfl)) (qseen.still (sat_still 0 hs rfl))) (wpk_sound 3000 ?_) rfl rfl rfl rfl rfl rfl rfl cf48
  simp only [go_sem, Nat.reduceBEq, beq_self_eq_true, List.all_cons, List.all_nil, Value.oneCell', Int.reduceEq, Int.reduceLT, Nat.reduceLeDiff, List.getElem?_toArray, Nat.reduceLT, Nat.reduceAdd, Nat.reduceEqDiff, reduceIte, List.append_nil, List.cons_append, List.nil_append]
  refine ⟨fun hseen => ret_fact (i := 0) rfl (by simp at hseen; simp; rintro rfl; exact hseen rfl), fun hseen => ?_⟩
  exact ret_fact (i := 0) rfl (by cases a; cases b; simp at htop hseen; simp [*])
theorem eqServer_c {w : World} {cs ds : List Value} {a b : SServer} (ha : kServer.rd w a cs) (hb : kServer.rd w b ds) : RFn Try.prog 47 [.agg cs.toArray, .agg ds.toArray] w (.bool (decide (a = b))) := by
  obtain ⟨_, _, rfl, ⟨_, rfl, plog⟩, _, _, rfl, rfl, rfl⟩ := ha
  obtain ⟨_, _, rfl, ⟨_, rfl, qlog⟩, _, _, rfl, rfl, rfl⟩ := hb
  refine RFn.run 3000 Try.func47 Try.ntmps47 rfl rfl (by simp) ?_
  simp only [go_sem, Nat.reduceBEq, beq_self_eq_true, List.all_cons, List.all_nil, Value.oneCell', Int.reduceEq, Int.reduceLT, Nat.reduceLeDiff, List.getElem?_toArray, Nat.reduceLT, Nat.reduceAdd, Nat.reduceEqDiff, reduceIte, List.append_nil, List.cons_append, List.nil_append]
  intro b0 b1
  refine SEM.callR (fun w' hs => eqStringS_c (plog.still (sat_still 0 hs rfl)) (qlog.still (sat_still 0 hs rfl))) (wpk_sound 3000 ?_) rfl rfl rfl rfl rfl rfl rfl cf15
  simp only [go_sem, Nat.reduceBEq, beq_self_eq_true, List.all_cons, List.all_nil, Value.oneCell', Int.reduceEq, Int.reduceLT, Nat.reduceLeDiff, List.getElem?_toArray, Nat.reduceLT, Nat.reduceAdd, Nat.reduceEqDiff, reduceIte, List.append_nil, List.cons_append, List.nil_append]
  refine ⟨fun hlog => ret_fact (i := 0) rfl (by simp at hlog; simp; rintro rfl; exact hlog rfl), fun hlog => ?_⟩
  refine ⟨fun hsure => ret_fact (i := 0) rfl (by simp at hsure; simp; rintro rfl; exact hsure rfl), fun hsure => ?_⟩
  exact ret_fact (i := 0) rfl (by cases a; cases b; simp at hlog hsure; simp [*])
theorem eqServerS_c {w : World} {v u : Value} {xs ys : List SServer} (hv : RdS kServer w v xs) (hu : RdS kServer w u ys) : RFn Try.prog 29 [v, u] w (.bool (decide (xs = ys))) := by
  have hv' := hv
  have hu' := hu
  obtain ⟨A, c, rfl, ⟨hc, hm⟩, -⟩ := hv'
  obtain ⟨B, d, rfl, ⟨hd, hm'⟩, -⟩ := hu'
  refine RFn.run 1000 Try.func29 Try.ntmps29 rfl rfl (by simp) ?_
  simp only [go_sem, Nat.reduceBEq, beq_self_eq_true, List.all_cons, List.all_nil, Value.oneCell', Int.reduceEq, Int.reduceLT, Nat.reduceLeDiff, List.getElem?_toArray, Nat.reduceLT, Nat.reduceAdd, Nat.reduceEqDiff, reduceIte]
  refine ⟨fun h => ret_fact (i := 0) rfl (by simp at h; simp; rintro rfl; exact h rfl), fun h => ?_⟩
  have hl : xs.length = ys.length := by simp at h; omega
  refine SEM.loopI (X := { i : Nat // i ≤ xs.length ∧ ∀ j, j < i → xs[j]? = ys[j]? }) (fun x => [(0, .v (.slice A xs.length c)), (1, .v (.slice B ys.length d)), (5, .v (.int .i64 x.1))]) (fun _ => []) (fun _ => [amb w]) (fun x => xs.length - x.1) ⟨0, by omega, fun j hj => absurd hj (by omega)⟩ (by simp [subE, Env.get]) ⟨[], by simp⟩ (by simp [okL]) (Ent.refl _) ?_
  rintro ⟨i, hi, hpre⟩
  refine wpk_sound 1000 ?_
  simp only [go_sem, Nat.reduceBEq, beq_self_eq_true, List.all_cons, List.all_nil, Value.oneCell', Int.reduceEq, Int.reduceLT, Nat.reduceLeDiff, List.getElem?_toArray, Nat.reduceLT, Nat.reduceAdd, Nat.reduceEqDiff, reduceIte]
  refine ⟨fun h1 => ?_, fun h1 => ?_⟩
  · have hx : i < xs.length := by omega
    have hy : i < ys.length := by omega
    obtain ⟨ad, cs, rfl, hr, hcs⟩ := hv.at' hx
    obtain ⟨ad', cs', rfl, hr', hcs'⟩ := hu.at' hy
    refine SEM.drawW 1000 mixed rfl ?_
    simp only [go_sem, Nat.reduceBEq, beq_self_eq_true, List.all_cons, List.all_nil, Value.oneCell', Int.reduceEq, Int.reduceLT, Nat.reduceLeDiff, List.getElem?_toArray, Nat.reduceLT, Nat.reduceAdd, Nat.reduceEqDiff, reduceIte]
    refine ⟨⟨by omega, by omega⟩, ?_⟩
    refine QG.load 1000 (amb_cells 0 rfl hcs) (loadC_agg (kServer.len hr) (by simp only [go_sem, Nat.reduceBEq, beq_self_eq_true, List.all_cons, List.all_nil, Value.oneCell', Int.reduceEq, Int.reduceLT, Nat.reduceLeDiff, List.getElem?_toArray, Nat.reduceLT, Nat.reduceAdd, Nat.reduceEqDiff, reduceIte] <;> rfl) (by simp only [go_sem, Nat.reduceBEq, beq_self_eq_true, List.all_cons, List.all_nil, Value.oneCell', Int.reduceEq, Int.reduceLT, Nat.reduceLeDiff, List.getElem?_toArray, Nat.reduceLT, Nat.reduceAdd, Nat.reduceEqDiff, reduceIte])) ?_ rfl rfl
    simp only [go_sem, Nat.reduceBEq, beq_self_eq_true, List.all_cons, List.all_nil, Value.oneCell', Int.reduceEq, Int.reduceLT, Nat.reduceLeDiff, List.getElem?_toArray, Nat.reduceLT, Nat.reduceAdd, Nat.reduceEqDiff, reduceIte]
    refine ⟨⟨by omega, by omega⟩, ?_⟩
    refine QG.load 1000 (amb_cells 0 rfl hcs') (loadC_agg (kServer.len hr') (by simp only [go_sem, Nat.reduceBEq, beq_self_eq_true, List.all_cons, List.all_nil, Value.oneCell', Int.reduceEq, Int.reduceLT, Nat.reduceLeDiff, List.getElem?_toArray, Nat.reduceLT, Nat.reduceAdd, Nat.reduceEqDiff, reduceIte] <;> rfl) (by simp only [go_sem, Nat.reduceBEq, beq_self_eq_true, List.all_cons, List.all_nil, Value.oneCell', Int.reduceEq, Int.reduceLT, Nat.reduceLeDiff, List.getElem?_toArray, Nat.reduceLT, Nat.reduceAdd, Nat.reduceEqDiff, reduceIte])) ?_ rfl rfl
    simp only [go_sem, Nat.reduceBEq, beq_self_eq_true, List.all_cons, List.all_nil, Value.oneCell', Int.reduceEq, Int.reduceLT, Nat.reduceLeDiff, List.getElem?_toArray, Nat.reduceLT, Nat.reduceAdd, Nat.reduceEqDiff, reduceIte]
    refine QG.callR 1000 (fun w' hs => eqServer_c (kServer.keep hr (sat_still 0 hs rfl)) (kServer.keep hr' (sat_still 0 hs rfl))) ?_ rfl rfl rfl rfl rfl cf47
    simp only [go_sem, Nat.reduceBEq, beq_self_eq_true, List.all_cons, List.all_nil, Value.oneCell', Int.reduceEq, Int.reduceLT, Nat.reduceLeDiff, List.getElem?_toArray, Nat.reduceLT, Nat.reduceAdd, Nat.reduceEqDiff, reduceIte]
    refine ⟨fun h2 => ret_fact (i := 0) rfl (by simp at h2; simp; exact pre_not hx hy h2), fun h2 => ?_⟩
    have hw : IntKind.i64.wrap ((i : Int) + 1) = ((i + 1 : Nat) : Int) := by rw [IntKind.wrap_i64]; omega
    exact ⟨⟨i + 1, by omega, pre_succ hpre hx hy (by simpa using h2)⟩, [], by simp [subE, get_cons, hw], rfl, by simp [okL], Ent.refl _, by simp only; omega⟩
  · exact ret_fact (i := 0) rfl (by simp; exact pre_all hpre (by omega) hl)
theorem eqStringSS_c {w : World} {v u : Value} {xs ys : List (List ByteArray)} (hv : RdS (kS kT) w v xs) (hu : RdS (kS kT) w u ys) : RFn Try.prog 30 [v, u] w (.bool (decide (xs = ys))) := by
  have hv' := hv
  have hu' := hu
  obtain ⟨A, c, rfl, ⟨hc, hm⟩, -⟩ := hv'
  obtain ⟨B, d, rfl, ⟨hd, hm'⟩, -⟩ := hu'
  refine RFn.run 1000 Try.func30 Try.ntmps30 rfl rfl (by simp) ?_
  simp only [go_sem, Nat.reduceBEq, beq_self_eq_true, List.all_cons, List.all_nil, Value.oneCell', Int.reduceEq, Int.reduceLT, Nat.reduceLeDiff, List.getElem?_toArray, Nat.reduceLT, Nat.reduceAdd, Nat.reduceEqDiff, reduceIte]
  refine ⟨fun h => ret_fact (i := 0) rfl (by simp at h; simp; rintro rfl; exact h rfl), fun h => ?_⟩
  have hl : xs.length = ys.length := by simp at h; omega
  refine SEM.loopI (X := { i : Nat // i ≤ xs.length ∧ ∀ j, j < i → xs[j]? = ys[j]? }) (fun x => [(0, .v (.slice A xs.length c)), (1, .v (.slice B ys.length d)), (5, .v (.int .i64 x.1))]) (fun _ => []) (fun _ => [amb w]) (fun x => xs.length - x.1) ⟨0, by omega, fun j hj => absurd hj (by omega)⟩ (by simp [subE, Env.get]) ⟨[], by simp⟩ (by simp [okL]) (Ent.refl _) ?_
  rintro ⟨i, hi, hpre⟩
  refine wpk_sound 1000 ?_
  simp only [go_sem, Nat.reduceBEq, beq_self_eq_true, List.all_cons, List.all_nil, Value.oneCell', Int.reduceEq, Int.reduceLT, Nat.reduceLeDiff, List.getElem?_toArray, Nat.reduceLT, Nat.reduceAdd, Nat.reduceEqDiff, reduceIte]
  refine ⟨fun h1 => ?_, fun h1 => ?_⟩
  · have hx : i < xs.length := by omega
    have hy : i < ys.length := by omega
    obtain ⟨ad, cs, rfl, ⟨r, rfl, hr⟩, hcs⟩ := hv.at' hx
    obtain ⟨ad', cs', rfl, ⟨r', rfl, hr'⟩, hcs'⟩ := hu.at' hy
    refine SEM.drawW 1000 mixed rfl ?_
    simp only [go_sem, Nat.reduceBEq, beq_self_eq_true, List.all_cons, List.all_nil, Value.oneCell', Int.reduceEq, Int.reduceLT, Nat.reduceLeDiff, List.getElem?_toArray, Nat.reduceLT, Nat.reduceAdd, Nat.reduceEqDiff, reduceIte]
    refine ⟨⟨by omega, by omega⟩, ?_⟩
    refine QG.load 1000 (amb_cells 0 rfl hcs) (loadC_one (by simp only [go_sem, Nat.reduceBEq, beq_self_eq_true, List.all_cons, List.all_nil, Value.oneCell', Int.reduceEq, Int.reduceLT, Nat.reduceLeDiff, List.getElem?_toArray, Nat.reduceLT, Nat.reduceAdd, Nat.reduceEqDiff, reduceIte])) ?_ rfl rfl
    simp only [go_sem, Nat.reduceBEq, beq_self_eq_true, List.all_cons, List.all_nil, Value.oneCell', Int.reduceEq, Int.reduceLT, Nat.reduceLeDiff, List.getElem?_toArray, Nat.reduceLT, Nat.reduceAdd, Nat.reduceEqDiff, reduceIte]
    refine ⟨⟨by omega, by omega⟩, ?_⟩
    refine QG.load 1000 (amb_cells 0 rfl hcs') (loadC_one (by simp only [go_sem, Nat.reduceBEq, beq_self_eq_true, List.all_cons, List.all_nil, Value.oneCell', Int.reduceEq, Int.reduceLT, Nat.reduceLeDiff, List.getElem?_toArray, Nat.reduceLT, Nat.reduceAdd, Nat.reduceEqDiff, reduceIte])) ?_ rfl rfl
    simp only [go_sem, Nat.reduceBEq, beq_self_eq_true, List.all_cons, List.all_nil, Value.oneCell', Int.reduceEq, Int.reduceLT, Nat.reduceLeDiff, List.getElem?_toArray, Nat.reduceLT, Nat.reduceAdd, Nat.reduceEqDiff, reduceIte]
    refine QG.callR 1000 (fun w' hs => eqStringS_c (hr.still (sat_still 0 hs rfl)) (hr'.still (sat_still 0 hs rfl))) ?_ rfl rfl rfl rfl rfl cf15
    simp only [go_sem, Nat.reduceBEq, beq_self_eq_true, List.all_cons, List.all_nil, Value.oneCell', Int.reduceEq, Int.reduceLT, Nat.reduceLeDiff, List.getElem?_toArray, Nat.reduceLT, Nat.reduceAdd, Nat.reduceEqDiff, reduceIte]
    refine ⟨fun h2 => ret_fact (i := 0) rfl (by simp at h2; simp; exact pre_not hx hy h2), fun h2 => ?_⟩
    have hw : IntKind.i64.wrap ((i : Int) + 1) = ((i + 1 : Nat) : Int) := by rw [IntKind.wrap_i64]; omega
    exact ⟨⟨i + 1, by omega, pre_succ hpre hx hy (by simpa using h2)⟩, [], by simp [subE, get_cons, hw], rfl, by simp [okL], Ent.refl _, by simp only; omega⟩
  · exact ret_fact (i := 0) rfl (by simp; exact pre_all hpre (by omega) hl)
theorem eqInt64SS_c {w : World} {v u : Value} {xs ys : List (List Int)} (hv : RdS (kS kI) w v xs) (hu : RdS (kS kI) w u ys) : RFn Try.prog 31 [v, u] w (.bool (decide (xs = ys))) := by
  have hv' := hv
  have hu' := hu
  obtain ⟨A, c, rfl, ⟨hc, hm⟩, -⟩ := hv'
  obtain ⟨B, d, rfl, ⟨hd, hm'⟩, -⟩ := hu'
  refine RFn.run 1000 Try.func31 Try.ntmps31 rfl rfl (by simp) ?_
  simp only [go_sem, Nat.reduceBEq, beq_self_eq_true, List.all_cons, List.all_nil, Value.oneCell', Int.reduceEq, Int.reduceLT, Nat.reduceLeDiff, List.getElem?_toArray, Nat.reduceLT, Nat.reduceAdd, Nat.reduceEqDiff, reduceIte]
  refine ⟨fun h => ret_fact (i := 0) rfl (by simp at h; simp; rintro rfl; exact h rfl), fun h => ?_⟩
  have hl : xs.length = ys.length := by simp at h; omega
  refine SEM.loopI (X := { i : Nat // i ≤ xs.length ∧ ∀ j, j < i → xs[j]? = ys[j]? }) (fun x => [(0, .v (.slice A xs.length c)), (1, .v (.slice B ys.length d)), (5, .v (.int .i64 x.1))]) (fun _ => []) (fun _ => [amb w]) (fun x => xs.length - x.1) ⟨0, by omega, fun j hj => absurd hj (by omega)⟩ (by simp [subE, Env.get]) ⟨[], by simp⟩ (by simp [okL]) (Ent.refl _) ?_
  rintro ⟨i, hi, hpre⟩
  refine wpk_sound 1000 ?_
  simp only [go_sem, Nat.reduceBEq, beq_self_eq_true, List.all_cons, List.all_nil, Value.oneCell', Int.reduceEq, Int.reduceLT, Nat.reduceLeDiff, List.getElem?_toArray, Nat.reduceLT, Nat.reduceAdd, Nat.reduceEqDiff, reduceIte]
  refine ⟨fun h1 => ?_, fun h1 => ?_⟩
  · have hx : i < xs.length := by omega
    have hy : i < ys.length := by omega
    obtain ⟨ad, cs, rfl, ⟨r, rfl, hr⟩, hcs⟩ := hv.at' hx
    obtain ⟨ad', cs', rfl, ⟨r', rfl, hr'⟩, hcs'⟩ := hu.at' hy
    refine SEM.drawW 1000 mixed rfl ?_
    simp only [go_sem, Nat.reduceBEq, beq_self_eq_true, List.all_cons, List.all_nil, Value.oneCell', Int.reduceEq, Int.reduceLT, Nat.reduceLeDiff, List.getElem?_toArray, Nat.reduceLT, Nat.reduceAdd, Nat.reduceEqDiff, reduceIte]
    refine ⟨⟨by omega, by omega⟩, ?_⟩
    refine QG.load 1000 (amb_cells 0 rfl hcs) (loadC_one (by simp only [go_sem, Nat.reduceBEq, beq_self_eq_true, List.all_cons, List.all_nil, Value.oneCell', Int.reduceEq, Int.reduceLT, Nat.reduceLeDiff, List.getElem?_toArray, Nat.reduceLT, Nat.reduceAdd, Nat.reduceEqDiff, reduceIte])) ?_ rfl rfl
    simp only [go_sem, Nat.reduceBEq, beq_self_eq_true, List.all_cons, List.all_nil, Value.oneCell', Int.reduceEq, Int.reduceLT, Nat.reduceLeDiff, List.getElem?_toArray, Nat.reduceLT, Nat.reduceAdd, Nat.reduceEqDiff, reduceIte]
    refine ⟨⟨by omega, by omega⟩, ?_⟩
    refine QG.load 1000 (amb_cells 0 rfl hcs') (loadC_one (by simp only [go_sem, Nat.reduceBEq, beq_self_eq_true, List.all_cons, List.all_nil, Value.oneCell', Int.reduceEq, Int.reduceLT, Nat.reduceLeDiff, List.getElem?_toArray, Nat.reduceLT, Nat.reduceAdd, Nat.reduceEqDiff, reduceIte])) ?_ rfl rfl
    simp only [go_sem, Nat.reduceBEq, beq_self_eq_true, List.all_cons, List.all_nil, Value.oneCell', Int.reduceEq, Int.reduceLT, Nat.reduceLeDiff, List.getElem?_toArray, Nat.reduceLT, Nat.reduceAdd, Nat.reduceEqDiff, reduceIte]
    refine QG.callR 1000 (fun w' hs => eqInt64S_c (hr.still (sat_still 0 hs rfl)) (hr'.still (sat_still 0 hs rfl))) ?_ rfl rfl rfl rfl rfl cf48
    simp only [go_sem, Nat.reduceBEq, beq_self_eq_true, List.all_cons, List.all_nil, Value.oneCell', Int.reduceEq, Int.reduceLT, Nat.reduceLeDiff, List.getElem?_toArray, Nat.reduceLT, Nat.reduceAdd, Nat.reduceEqDiff, reduceIte]
    refine ⟨fun h2 => ret_fact (i := 0) rfl (by simp at h2; simp; exact pre_not hx hy h2), fun h2 => ?_⟩
    have hw : IntKind.i64.wrap ((i : Int) + 1) = ((i + 1 : Nat) : Int) := by rw [IntKind.wrap_i64]; omega
    exact ⟨⟨i + 1, by omega, pre_succ hpre hx hy (by simpa using h2)⟩, [], by simp [subE, get_cons, hw], rfl, by simp [okL], Ent.refl _, by simp only; omega⟩
  · exact ret_fact (i := 0) rfl (by simp; exact pre_all hpre (by omega) hl)
theorem eqChain_c {w : World} {cs ds : List Value} {a b : SChain} (ha : kChain.rd w a cs) (hb : kChain.rd w b ds) : RFn Try.prog 13 [.agg cs.toArray, .agg ds.toArray] w (.bool (decide (a = b))) := by
  obtain ⟨_, _, rfl, ⟨_, rfl, pservers⟩, _, _, rfl, ⟨_, rfl, pdown⟩, _, _, rfl, ⟨_, rfl, pup⟩, rfl⟩ := ha
  obtain ⟨_, _, rfl, ⟨_, rfl, qservers⟩, _, _, rfl, ⟨_, rfl, qdown⟩, _, _, rfl, ⟨_, rfl, qup⟩, rfl⟩ := hb
  refine RFn.run 3000 Try.func13 Try.ntmps13 rfl rfl (by simp) ?_
  simp only [go_sem, Nat.reduceBEq, beq_self_eq_true, List.all_cons, List.all_nil, Value.oneCell', Int.reduceEq, Int.reduceLT, Nat.reduceLeDiff, List.getElem?_toArray, Nat.reduceLT, Nat.reduceAdd, Nat.reduceEqDiff, reduceIte, List.append_nil, List.cons_append, List.nil_append]
  intro b0 b1
  refine SEM.callR (fun w' hs => eqServerS_c (pservers.still (sat_still 0 hs rfl)) (qservers.still (sat_still 0 hs rfl))) (wpk_sound 3000 ?_) rfl rfl rfl rfl rfl rfl rfl cf29
  simp only [go_sem, Nat.reduceBEq, beq_self_eq_true, List.all_cons, List.all_nil, Value.oneCell', Int.reduceEq, Int.reduceLT, Nat.reduceLeDiff, List.getElem?_toArray, Nat.reduceLT, Nat.reduceAdd, Nat.reduceEqDiff, reduceIte, List.append_nil, List.cons_append, List.nil_append]
  refine ⟨fun hservers => ret_fact (i := 0) rfl (by simp at hservers; simp; rintro rfl; exact hservers rfl), fun hservers => ?_⟩
  refine SEM.callR (fun w' hs => eqStringSS_c (pdown.still (sat_still 0 hs rfl)) (qdown.still (sat_still 0 hs rfl))) (wpk_sound 3000 ?_) rfl rfl rfl rfl rfl rfl rfl cf30
  simp only [go_sem, Nat.reduceBEq, beq_self_eq_true, List.all_cons, List.all_nil, Value.oneCell', Int.reduceEq, Int.reduceLT, Nat.reduceLeDiff, List.getElem?_toArray, Nat.reduceLT, Nat.reduceAdd, Nat.reduceEqDiff, reduceIte, List.append_nil, List.cons_append, List.nil_append]
  refine ⟨fun hdown => ret_fact (i := 0) rfl (by simp at hdown; simp; rintro rfl; exact hdown rfl), fun hdown => ?_⟩
  refine SEM.callR (fun w' hs => eqInt64SS_c (pup.still (sat_still 0 hs rfl)) (qup.still (sat_still 0 hs rfl))) (wpk_sound 3000 ?_) rfl rfl rfl rfl rfl rfl rfl cf31
  simp only [go_sem, Nat.reduceBEq, beq_self_eq_true, List.all_cons, List.all_nil, Value.oneCell', Int.reduceEq, Int.reduceLT, Nat.reduceLeDiff, List.getElem?_toArray, Nat.reduceLT, Nat.reduceAdd, Nat.reduceEqDiff, reduceIte, List.append_nil, List.cons_append, List.nil_append]
  refine ⟨fun hup => ret_fact (i := 0) rfl (by simp at hup; simp; rintro rfl; exact hup rfl), fun hup => ?_⟩
  exact ret_fact (i := 0) rfl (by cases a; cases b; simp at hservers hdown hup; simp [*])
theorem eqClient_c {w : World} {cs ds : List Value} {a b : SClient} (ha : kClient.rd w a cs) (hb : kClient.rd w b ds) : RFn Try.prog 32 [.agg cs.toArray, .agg ds.toArray] w (.bool (decide (a = b))) := by
  obtain ⟨_, _, rfl, rfl, _, _, rfl, ⟨_, rfl, pqueue⟩, _, _, rfl, rfl, _, _, rfl, pscreen, _, _, rfl, rfl, _, _, rfl, pwindow, _, _, rfl, rfl, rfl⟩ := ha
  obtain ⟨_, _, rfl, rfl, _, _, rfl, ⟨_, rfl, qqueue⟩, _, _, rfl, rfl, _, _, rfl, qscreen, _, _, rfl, rfl, _, _, rfl, qwindow, _, _, rfl, rfl, rfl⟩ := hb
  have pscreen_ := pscreen
  obtain ⟨_, _, rfl, rfl, _, _, rfl, ⟨_, rfl, pscreenrows⟩, rfl⟩ := pscreen_
  have qscreen_ := qscreen
  obtain ⟨_, _, rfl, rfl, _, _, rfl, ⟨_, rfl, qscreenrows⟩, rfl⟩ := qscreen_
  have pwindow_ := pwindow
  obtain ⟨_, _, rfl, rfl, _, _, rfl, ⟨_, rfl, pwindowseen⟩, rfl⟩ := pwindow_
  have qwindow_ := qwindow
  obtain ⟨_, _, rfl, rfl, _, _, rfl, ⟨_, rfl, qwindowseen⟩, rfl⟩ := qwindow_
  refine RFn.run 3000 Try.func32 Try.ntmps32 rfl rfl (by simp) ?_
  simp only [go_sem, Nat.reduceBEq, beq_self_eq_true, List.all_cons, List.all_nil, Value.oneCell', Int.reduceEq, Int.reduceLT, Nat.reduceLeDiff, List.getElem?_toArray, Nat.reduceLT, Nat.reduceAdd, Nat.reduceEqDiff, reduceIte, List.append_nil, List.cons_append, List.nil_append]
  intro b0 b1
  refine ⟨fun hid => ret_fact (i := 0) rfl (by simp at hid; simp; rintro rfl; exact hid rfl), fun hid => ?_⟩
  refine SEM.callR (fun w' hs => eqStringS_c (pqueue.still (sat_still 0 hs rfl)) (qqueue.still (sat_still 0 hs rfl))) (wpk_sound 3000 ?_) rfl rfl rfl rfl rfl rfl rfl cf15
  simp only [go_sem, Nat.reduceBEq, beq_self_eq_true, List.all_cons, List.all_nil, Value.oneCell', Int.reduceEq, Int.reduceLT, Nat.reduceLeDiff, List.getElem?_toArray, Nat.reduceLT, Nat.reduceAdd, Nat.reduceEqDiff, reduceIte, List.append_nil, List.cons_append, List.nil_append]
  refine ⟨fun hqueue => ret_fact (i := 0) rfl (by simp at hqueue; simp; rintro rfl; exact hqueue rfl), fun hqueue => ?_⟩
  refine ⟨fun hfirst => ret_fact (i := 0) rfl (by simp at hfirst; simp; rintro rfl; exact hfirst rfl), fun hfirst => ?_⟩
  refine SEM.callR (fun w' hs => eqGrid_c (kGrid.keep pscreen (sat_still 0 hs rfl)) (kGrid.keep qscreen (sat_still 0 hs rfl))) (wpk_sound 3000 ?_) rfl rfl rfl rfl rfl rfl rfl cf49
  simp only [go_sem, Nat.reduceBEq, beq_self_eq_true, List.all_cons, List.all_nil, Value.oneCell', Int.reduceEq, Int.reduceLT, Nat.reduceLeDiff, List.getElem?_toArray, Nat.reduceLT, Nat.reduceAdd, Nat.reduceEqDiff, reduceIte, List.append_nil, List.cons_append, List.nil_append]
  refine ⟨fun hscreen => ret_fact (i := 0) rfl (by simp at hscreen; simp; rintro rfl; exact hscreen rfl), fun hscreen => ?_⟩
  refine ⟨fun hnumber => ret_fact (i := 0) rfl (by simp at hnumber; simp; rintro rfl; exact hnumber rfl), fun hnumber => ?_⟩
  refine SEM.callR (fun w' hs => eqWindow_c (kWindow.keep pwindow (sat_still 0 hs rfl)) (kWindow.keep qwindow (sat_still 0 hs rfl))) (wpk_sound 3000 ?_) rfl rfl rfl rfl rfl rfl rfl cf50
  simp only [go_sem, Nat.reduceBEq, beq_self_eq_true, List.all_cons, List.all_nil, Value.oneCell', Int.reduceEq, Int.reduceLT, Nat.reduceLeDiff, List.getElem?_toArray, Nat.reduceLT, Nat.reduceAdd, Nat.reduceEqDiff, reduceIte, List.append_nil, List.cons_append, List.nil_append]
  refine ⟨fun hwindow => ret_fact (i := 0) rfl (by simp at hwindow; simp; rintro rfl; exact hwindow rfl), fun hwindow => ?_⟩
  refine ⟨fun hsends => ret_fact (i := 0) rfl (by simp at hsends; simp; rintro rfl; exact hsends rfl), fun hsends => ?_⟩
  exact ret_fact (i := 0) rfl (by cases a; cases b; simp at hid hqueue hfirst hscreen hnumber hwindow hsends; simp [*])
theorem eqClientS_c {w : World} {v u : Value} {xs ys : List SClient} (hv : RdS kClient w v xs) (hu : RdS kClient w u ys) : RFn Try.prog 14 [v, u] w (.bool (decide (xs = ys))) := by
  have hv' := hv
  have hu' := hu
  obtain ⟨A, c, rfl, ⟨hc, hm⟩, -⟩ := hv'
  obtain ⟨B, d, rfl, ⟨hd, hm'⟩, -⟩ := hu'
  refine RFn.run 1000 Try.func14 Try.ntmps14 rfl rfl (by simp) ?_
  simp only [go_sem, Nat.reduceBEq, beq_self_eq_true, List.all_cons, List.all_nil, Value.oneCell', Int.reduceEq, Int.reduceLT, Nat.reduceLeDiff, List.getElem?_toArray, Nat.reduceLT, Nat.reduceAdd, Nat.reduceEqDiff, reduceIte]
  refine ⟨fun h => ret_fact (i := 0) rfl (by simp at h; simp; rintro rfl; exact h rfl), fun h => ?_⟩
  have hl : xs.length = ys.length := by simp at h; omega
  refine SEM.loopI (X := { i : Nat // i ≤ xs.length ∧ ∀ j, j < i → xs[j]? = ys[j]? }) (fun x => [(0, .v (.slice A xs.length c)), (1, .v (.slice B ys.length d)), (5, .v (.int .i64 x.1))]) (fun _ => []) (fun _ => [amb w]) (fun x => xs.length - x.1) ⟨0, by omega, fun j hj => absurd hj (by omega)⟩ (by simp [subE, Env.get]) ⟨[], by simp⟩ (by simp [okL]) (Ent.refl _) ?_
  rintro ⟨i, hi, hpre⟩
  refine wpk_sound 1000 ?_
  simp only [go_sem, Nat.reduceBEq, beq_self_eq_true, List.all_cons, List.all_nil, Value.oneCell', Int.reduceEq, Int.reduceLT, Nat.reduceLeDiff, List.getElem?_toArray, Nat.reduceLT, Nat.reduceAdd, Nat.reduceEqDiff, reduceIte]
  refine ⟨fun h1 => ?_, fun h1 => ?_⟩
  · have hx : i < xs.length := by omega
    have hy : i < ys.length := by omega
    obtain ⟨ad, cs, rfl, hr, hcs⟩ := hv.at' hx
    obtain ⟨ad', cs', rfl, hr', hcs'⟩ := hu.at' hy
    refine SEM.drawW 1000 mixed rfl ?_
    simp only [go_sem, Nat.reduceBEq, beq_self_eq_true, List.all_cons, List.all_nil, Value.oneCell', Int.reduceEq, Int.reduceLT, Nat.reduceLeDiff, List.getElem?_toArray, Nat.reduceLT, Nat.reduceAdd, Nat.reduceEqDiff, reduceIte]
    refine ⟨⟨by omega, by omega⟩, ?_⟩
    refine QG.load 1000 (amb_cells 0 rfl hcs) (loadC_agg (kClient.len hr) (by simp only [go_sem, Nat.reduceBEq, beq_self_eq_true, List.all_cons, List.all_nil, Value.oneCell', Int.reduceEq, Int.reduceLT, Nat.reduceLeDiff, List.getElem?_toArray, Nat.reduceLT, Nat.reduceAdd, Nat.reduceEqDiff, reduceIte] <;> rfl) (by simp only [go_sem, Nat.reduceBEq, beq_self_eq_true, List.all_cons, List.all_nil, Value.oneCell', Int.reduceEq, Int.reduceLT, Nat.reduceLeDiff, List.getElem?_toArray, Nat.reduceLT, Nat.reduceAdd, Nat.reduceEqDiff, reduceIte])) ?_ rfl rfl
    simp only [go_sem, Nat.reduceBEq, beq_self_eq_true, List.all_cons, List.all_nil, Value.oneCell', Int.reduceEq, Int.reduceLT, Nat.reduceLeDiff, List.getElem?_toArray, Nat.reduceLT, Nat.reduceAdd, Nat.reduceEqDiff, reduceIte]
    refine ⟨⟨by omega, by omega⟩, ?_⟩
    refine QG.load 1000 (amb_cells 0 rfl hcs') (loadC_agg (kClient.len hr') (by simp only [go_sem, Nat.reduceBEq, beq_self_eq_true, List.all_cons, List.all_nil, Value.oneCell', Int.reduceEq, Int.reduceLT, Nat.reduceLeDiff, List.getElem?_toArray, Nat.reduceLT, Nat.reduceAdd, Nat.reduceEqDiff, reduceIte] <;> rfl) (by simp only [go_sem, Nat.reduceBEq, beq_self_eq_true, List.all_cons, List.all_nil, Value.oneCell', Int.reduceEq, Int.reduceLT, Nat.reduceLeDiff, List.getElem?_toArray, Nat.reduceLT, Nat.reduceAdd, Nat.reduceEqDiff, reduceIte])) ?_ rfl rfl
    simp only [go_sem, Nat.reduceBEq, beq_self_eq_true, List.all_cons, List.all_nil, Value.oneCell', Int.reduceEq, Int.reduceLT, Nat.reduceLeDiff, List.getElem?_toArray, Nat.reduceLT, Nat.reduceAdd, Nat.reduceEqDiff, reduceIte]
    refine QG.callR 1000 (fun w' hs => eqClient_c (kClient.keep hr (sat_still 0 hs rfl)) (kClient.keep hr' (sat_still 0 hs rfl))) ?_ rfl rfl rfl rfl rfl cf32
    simp only [go_sem, Nat.reduceBEq, beq_self_eq_true, List.all_cons, List.all_nil, Value.oneCell', Int.reduceEq, Int.reduceLT, Nat.reduceLeDiff, List.getElem?_toArray, Nat.reduceLT, Nat.reduceAdd, Nat.reduceEqDiff, reduceIte]
    refine ⟨fun h2 => ret_fact (i := 0) rfl (by simp at h2; simp; exact pre_not hx hy h2), fun h2 => ?_⟩
    have hw : IntKind.i64.wrap ((i : Int) + 1) = ((i + 1 : Nat) : Int) := by rw [IntKind.wrap_i64]; omega
    exact ⟨⟨i + 1, by omega, pre_succ hpre hx hy (by simpa using h2)⟩, [], by simp [subE, get_cons, hw], rfl, by simp [okL], Ent.refl _, by simp only; omega⟩
  · exact ret_fact (i := 0) rfl (by simp; exact pre_all hpre (by omega) hl)
theorem eqDatagram_c {w : World} {cs ds : List Value} {a b : SDatagram} (ha : kDatagram.rd w a cs) (hb : kDatagram.rd w b ds) : RFn Try.prog 33 [.agg cs.toArray, .agg ds.toArray] w (.bool (decide (a = b))) := by
  obtain rfl := ha
  obtain rfl := hb
  refine RFn.run 3000 Try.func33 Try.ntmps33 rfl rfl (by simp) ?_
  simp only [go_sem, Nat.reduceBEq, beq_self_eq_true, List.all_cons, List.all_nil, Value.oneCell', Int.reduceEq, Int.reduceLT, Nat.reduceLeDiff, List.getElem?_toArray, Nat.reduceLT, Nat.reduceAdd, Nat.reduceEqDiff, reduceIte, List.append_nil, List.cons_append, List.nil_append]
  intro b0 b1
  refine ⟨fun hto_ => ret_fact (i := 0) rfl (by simp at hto_; simp; rintro rfl; exact hto_ rfl), fun hto_ => ?_⟩
  refine ⟨fun htext_ => ret_fact (i := 0) rfl (by simp at htext_; simp; rintro rfl; exact htext_ rfl), fun htext_ => ?_⟩
  exact ret_fact (i := 0) rfl (by cases a; cases b; simp at hto_ htext_; simp [*])
theorem eqDatagramS_c {w : World} {v u : Value} {xs ys : List SDatagram} (hv : RdS kDatagram w v xs) (hu : RdS kDatagram w u ys) : RFn Try.prog 16 [v, u] w (.bool (decide (xs = ys))) := by
  have hv' := hv
  have hu' := hu
  obtain ⟨A, c, rfl, ⟨hc, hm⟩, -⟩ := hv'
  obtain ⟨B, d, rfl, ⟨hd, hm'⟩, -⟩ := hu'
  refine RFn.run 1000 Try.func16 Try.ntmps16 rfl rfl (by simp) ?_
  simp only [go_sem, Nat.reduceBEq, beq_self_eq_true, List.all_cons, List.all_nil, Value.oneCell', Int.reduceEq, Int.reduceLT, Nat.reduceLeDiff, List.getElem?_toArray, Nat.reduceLT, Nat.reduceAdd, Nat.reduceEqDiff, reduceIte]
  refine ⟨fun h => ret_fact (i := 0) rfl (by simp at h; simp; rintro rfl; exact h rfl), fun h => ?_⟩
  have hl : xs.length = ys.length := by simp at h; omega
  refine SEM.loopI (X := { i : Nat // i ≤ xs.length ∧ ∀ j, j < i → xs[j]? = ys[j]? }) (fun x => [(0, .v (.slice A xs.length c)), (1, .v (.slice B ys.length d)), (5, .v (.int .i64 x.1))]) (fun _ => []) (fun _ => [amb w]) (fun x => xs.length - x.1) ⟨0, by omega, fun j hj => absurd hj (by omega)⟩ (by simp [subE, Env.get]) ⟨[], by simp⟩ (by simp [okL]) (Ent.refl _) ?_
  rintro ⟨i, hi, hpre⟩
  refine wpk_sound 1000 ?_
  simp only [go_sem, Nat.reduceBEq, beq_self_eq_true, List.all_cons, List.all_nil, Value.oneCell', Int.reduceEq, Int.reduceLT, Nat.reduceLeDiff, List.getElem?_toArray, Nat.reduceLT, Nat.reduceAdd, Nat.reduceEqDiff, reduceIte]
  refine ⟨fun h1 => ?_, fun h1 => ?_⟩
  · have hx : i < xs.length := by omega
    have hy : i < ys.length := by omega
    obtain ⟨ad, cs, rfl, hr, hcs⟩ := hv.at' hx
    obtain ⟨ad', cs', rfl, hr', hcs'⟩ := hu.at' hy
    refine SEM.drawW 1000 mixed rfl ?_
    simp only [go_sem, Nat.reduceBEq, beq_self_eq_true, List.all_cons, List.all_nil, Value.oneCell', Int.reduceEq, Int.reduceLT, Nat.reduceLeDiff, List.getElem?_toArray, Nat.reduceLT, Nat.reduceAdd, Nat.reduceEqDiff, reduceIte]
    refine ⟨⟨by omega, by omega⟩, ?_⟩
    refine QG.load 1000 (amb_cells 0 rfl hcs) (loadC_agg (kDatagram.len hr) (by simp only [go_sem, Nat.reduceBEq, beq_self_eq_true, List.all_cons, List.all_nil, Value.oneCell', Int.reduceEq, Int.reduceLT, Nat.reduceLeDiff, List.getElem?_toArray, Nat.reduceLT, Nat.reduceAdd, Nat.reduceEqDiff, reduceIte] <;> rfl) (by simp only [go_sem, Nat.reduceBEq, beq_self_eq_true, List.all_cons, List.all_nil, Value.oneCell', Int.reduceEq, Int.reduceLT, Nat.reduceLeDiff, List.getElem?_toArray, Nat.reduceLT, Nat.reduceAdd, Nat.reduceEqDiff, reduceIte])) ?_ rfl rfl
    simp only [go_sem, Nat.reduceBEq, beq_self_eq_true, List.all_cons, List.all_nil, Value.oneCell', Int.reduceEq, Int.reduceLT, Nat.reduceLeDiff, List.getElem?_toArray, Nat.reduceLT, Nat.reduceAdd, Nat.reduceEqDiff, reduceIte]
    refine ⟨⟨by omega, by omega⟩, ?_⟩
    refine QG.load 1000 (amb_cells 0 rfl hcs') (loadC_agg (kDatagram.len hr') (by simp only [go_sem, Nat.reduceBEq, beq_self_eq_true, List.all_cons, List.all_nil, Value.oneCell', Int.reduceEq, Int.reduceLT, Nat.reduceLeDiff, List.getElem?_toArray, Nat.reduceLT, Nat.reduceAdd, Nat.reduceEqDiff, reduceIte] <;> rfl) (by simp only [go_sem, Nat.reduceBEq, beq_self_eq_true, List.all_cons, List.all_nil, Value.oneCell', Int.reduceEq, Int.reduceLT, Nat.reduceLeDiff, List.getElem?_toArray, Nat.reduceLT, Nat.reduceAdd, Nat.reduceEqDiff, reduceIte])) ?_ rfl rfl
    simp only [go_sem, Nat.reduceBEq, beq_self_eq_true, List.all_cons, List.all_nil, Value.oneCell', Int.reduceEq, Int.reduceLT, Nat.reduceLeDiff, List.getElem?_toArray, Nat.reduceLT, Nat.reduceAdd, Nat.reduceEqDiff, reduceIte]
    refine QG.callR 1000 (fun w' hs => eqDatagram_c (kDatagram.keep hr (sat_still 0 hs rfl)) (kDatagram.keep hr' (sat_still 0 hs rfl))) ?_ rfl rfl rfl rfl rfl cf33
    simp only [go_sem, Nat.reduceBEq, beq_self_eq_true, List.all_cons, List.all_nil, Value.oneCell', Int.reduceEq, Int.reduceLT, Nat.reduceLeDiff, List.getElem?_toArray, Nat.reduceLT, Nat.reduceAdd, Nat.reduceEqDiff, reduceIte]
    refine ⟨fun h2 => ret_fact (i := 0) rfl (by simp at h2; simp; exact pre_not hx hy h2), fun h2 => ?_⟩
    have hw : IntKind.i64.wrap ((i : Int) + 1) = ((i + 1 : Nat) : Int) := by rw [IntKind.wrap_i64]; omega
    exact ⟨⟨i + 1, by omega, pre_succ hpre hx hy (by simpa using h2)⟩, [], by simp [subE, get_cons, hw], rfl, by simp [okL], Ent.refl _, by simp only; omega⟩
  · exact ret_fact (i := 0) rfl (by simp; exact pre_all hpre (by omega) hl)
theorem eqWorld_c {w : World} {cs ds : List Value} {a b : SWorld} (ha : kWorld.rd w a cs) (hb : kWorld.rd w b ds) : RFn Try.prog 6 [.agg cs.toArray, .agg ds.toArray] w (.bool (decide (a = b))) := by
  obtain ⟨_, _, rfl, pchain, _, _, rfl, ⟨_, rfl, pclients⟩, _, _, rfl, ⟨_, rfl, pnet⟩, _, _, rfl, ⟨_, rfl, pframes⟩, rfl⟩ := ha
  obtain ⟨_, _, rfl, qchain, _, _, rfl, ⟨_, rfl, qclients⟩, _, _, rfl, ⟨_, rfl, qnet⟩, _, _, rfl, ⟨_, rfl, qframes⟩, rfl⟩ := hb
  have pchain_ := pchain
  obtain ⟨_, _, rfl, ⟨_, rfl, pchainservers⟩, _, _, rfl, ⟨_, rfl, pchaindown⟩, _, _, rfl, ⟨_, rfl, pchainup⟩, rfl⟩ := pchain_
  have qchain_ := qchain
  obtain ⟨_, _, rfl, ⟨_, rfl, qchainservers⟩, _, _, rfl, ⟨_, rfl, qchaindown⟩, _, _, rfl, ⟨_, rfl, qchainup⟩, rfl⟩ := qchain_
  refine RFn.run 3000 Try.func6 Try.ntmps6 rfl rfl (by simp) ?_
  simp only [go_sem, Nat.reduceBEq, beq_self_eq_true, List.all_cons, List.all_nil, Value.oneCell', Int.reduceEq, Int.reduceLT, Nat.reduceLeDiff, List.getElem?_toArray, Nat.reduceLT, Nat.reduceAdd, Nat.reduceEqDiff, reduceIte, List.append_nil, List.cons_append, List.nil_append]
  intro b0 b1
  refine SEM.callR (fun w' hs => eqChain_c (kChain.keep pchain (sat_still 0 hs rfl)) (kChain.keep qchain (sat_still 0 hs rfl))) (wpk_sound 3000 ?_) rfl rfl rfl rfl rfl rfl rfl cf13
  simp only [go_sem, Nat.reduceBEq, beq_self_eq_true, List.all_cons, List.all_nil, Value.oneCell', Int.reduceEq, Int.reduceLT, Nat.reduceLeDiff, List.getElem?_toArray, Nat.reduceLT, Nat.reduceAdd, Nat.reduceEqDiff, reduceIte, List.append_nil, List.cons_append, List.nil_append]
  refine ⟨fun hchain => ret_fact (i := 0) rfl (by simp at hchain; simp; rintro rfl; exact hchain rfl), fun hchain => ?_⟩
  refine SEM.callR (fun w' hs => eqClientS_c (pclients.still (sat_still 0 hs rfl)) (qclients.still (sat_still 0 hs rfl))) (wpk_sound 3000 ?_) rfl rfl rfl rfl rfl rfl rfl cf14
  simp only [go_sem, Nat.reduceBEq, beq_self_eq_true, List.all_cons, List.all_nil, Value.oneCell', Int.reduceEq, Int.reduceLT, Nat.reduceLeDiff, List.getElem?_toArray, Nat.reduceLT, Nat.reduceAdd, Nat.reduceEqDiff, reduceIte, List.append_nil, List.cons_append, List.nil_append]
  refine ⟨fun hclients => ret_fact (i := 0) rfl (by simp at hclients; simp; rintro rfl; exact hclients rfl), fun hclients => ?_⟩
  refine SEM.callR (fun w' hs => eqStringS_c (pnet.still (sat_still 0 hs rfl)) (qnet.still (sat_still 0 hs rfl))) (wpk_sound 3000 ?_) rfl rfl rfl rfl rfl rfl rfl cf15
  simp only [go_sem, Nat.reduceBEq, beq_self_eq_true, List.all_cons, List.all_nil, Value.oneCell', Int.reduceEq, Int.reduceLT, Nat.reduceLeDiff, List.getElem?_toArray, Nat.reduceLT, Nat.reduceAdd, Nat.reduceEqDiff, reduceIte, List.append_nil, List.cons_append, List.nil_append]
  refine ⟨fun hnet => ret_fact (i := 0) rfl (by simp at hnet; simp; rintro rfl; exact hnet rfl), fun hnet => ?_⟩
  refine SEM.callR (fun w' hs => eqDatagramS_c (pframes.still (sat_still 0 hs rfl)) (qframes.still (sat_still 0 hs rfl))) (wpk_sound 3000 ?_) rfl rfl rfl rfl rfl rfl rfl cf16
  simp only [go_sem, Nat.reduceBEq, beq_self_eq_true, List.all_cons, List.all_nil, Value.oneCell', Int.reduceEq, Int.reduceLT, Nat.reduceLeDiff, List.getElem?_toArray, Nat.reduceLT, Nat.reduceAdd, Nat.reduceEqDiff, reduceIte, List.append_nil, List.cons_append, List.nil_append]
  refine ⟨fun hframes => ret_fact (i := 0) rfl (by simp at hframes; simp; rintro rfl; exact hframes rfl), fun hframes => ?_⟩
  exact ret_fact (i := 0) rfl (by cases a; cases b; simp at hchain hclients hnet hframes; simp [*])
end Go.Proofs.Ytfdhfnoljejkkaa
