/-
  What functions of the program do, each once. Printed by my programs con.py and fam.py for seat Ytfdhfnoljejkkaa.
-/
import Derived.Test.YtfdhfnoljejkkaaCtext
set_option linter.unusedVariables false
set_option linter.unusedSimpArgs false
namespace Go.Proofs.Ytfdhfnoljejkkaa
open Go Go.Sep Classical
theorem heldInt64S_c {w : World} {v : Value} {xs : List Int} {k : Int} (h0 : 0 ≤ k) (hb : k + (cntL cI xs : Nat) ≤ 4611686018427387904) (hv : RdS kI w v (mkL mkI cI xs k)) : RFn Try.prog 44 [v, .int .i64 k] w (.int .i64 (k + (cntL cI xs : Nat))) := by
  have hv' := hv
  obtain ⟨A, c, rfl, ⟨hc, hm⟩, -⟩ := hv'
  rw [mkL_len] at hv hc hm ⊢
  refine RFn.run 1000 Try.func44 Try.ntmps44 rfl rfl (by simp) ?_
  simp only [go_sem, Nat.reduceBEq, beq_self_eq_true, List.all_cons, List.all_nil, Value.oneCell', Int.reduceEq, Int.reduceLT, Nat.reduceLeDiff, List.getElem?_toArray, Nat.reduceLT, Nat.reduceAdd, Nat.reduceEqDiff, reduceIte]
  refine SEM.loopI (X := { i : Nat // i ≤ xs.length }) (fun x => [(0, .v (.slice A xs.length c)), (1, .v (.int .i64 (k + (cntL cI (xs.take x.1) : Nat)))), (5, .v (.int .i64 x.1))]) (fun _ => []) (fun x => [amb w]) (fun x => xs.length - x.1) ⟨0, by omega⟩ (by simp [subE, Env.get, cntL]) ⟨[], by simp⟩ (by simp [okL]) (Ent.refl _) ?_
  rintro ⟨i, hi⟩
  by_cases hx : i < xs.length
  · obtain ⟨ad, cs, rfl, hr, hcs⟩ := hv.at' (i := i) (by rw [mkL_len]; exact hx)
    rw [mkL_at _ _ _ _ _ hx] at hr
    have hK := cntL_take cI xs i hx
    have hle := cntL_le cI xs (i + 1)
    obtain ⟨K, hKd⟩ : ∃ K, K = k + (cntL cI (xs.take i) : Nat) := ⟨_, rfl⟩
    rw [← hKd] at hr
    rw [← hKd]
    have hb' : K + (cI xs[i] : Nat) ≤ 4611686018427387904 := by (try simp only [] at hK); (try simp only []); omega
    have hK0 : 0 ≤ K := by omega
    simp only [cI] at hb'
    obtain rfl := hr
    have w1 : IntKind.i64.wrap (K + 1) = K + 1 := w64 (by omega) (by omega)
    refine wpk_sound 3000 ?_
    simp only [go_sem, Nat.reduceBEq, beq_self_eq_true, List.all_cons, List.all_nil, Value.oneCell', Int.reduceEq, Int.reduceLT, Nat.reduceLeDiff, List.getElem?_toArray, Nat.reduceLT, Nat.reduceAdd, Nat.reduceEqDiff, reduceIte, List.append_nil, List.cons_append, List.nil_append, eq_self, mkI, w1]
    refine ⟨fun h1 => ?_, fun h1 => absurd (show (i : Int) < xs.length by omega) h1⟩
    refine ⟨⟨by omega, by omega⟩, ?_⟩
    refine SEM.loadF 0 (amb_cells 0 rfl hcs) rfl (by simp only [go_sem, Nat.reduceBEq, beq_self_eq_true, List.all_cons, List.all_nil, Value.oneCell', Int.reduceEq, Int.reduceLT, Nat.reduceLeDiff, List.getElem?_toArray, Nat.reduceLT, Nat.reduceAdd, Nat.reduceEqDiff, reduceIte, List.append_nil, List.cons_append, List.nil_append, eq_self, mkI, w1] <;> rfl) (wpk_sound 3000 ?_) rfl rfl rfl rfl
    simp only [go_sem, Nat.reduceBEq, beq_self_eq_true, List.all_cons, List.all_nil, Value.oneCell', Int.reduceEq, Int.reduceLT, Nat.reduceLeDiff, List.getElem?_toArray, Nat.reduceLT, Nat.reduceAdd, Nat.reduceEqDiff, reduceIte, List.append_nil, List.cons_append, List.nil_append, eq_self, mkI, w1]
    have hi1 : IntKind.i64.wrap ((i : Int) + 1) = ((i + 1 : Nat) : Int) := w64 (by omega) (by omega)
    refine ⟨⟨i + 1, by omega⟩, [], ?_, rfl, by simp [okL], Ent.refl _, by simp only; omega⟩
    simp only [subE, get_cons, Nat.reduceEqDiff, reduceIte, hi1, hK, and_true, true_and, Int.natCast_add, ← Int.add_assoc, ← hKd]
    rw [show K + 1 = K + (cI xs[i] : Nat) from by simp only [cI]; omega]
  · refine wpk_sound 1000 ?_
    simp only [go_sem, Nat.reduceBEq, beq_self_eq_true, List.all_cons, List.all_nil, Value.oneCell', Int.reduceEq, Int.reduceLT, Nat.reduceLeDiff, List.getElem?_toArray, Nat.reduceLT, Nat.reduceAdd, Nat.reduceEqDiff, reduceIte]
    refine ⟨fun h1 => absurd h1 (by omega), fun h1 => ?_⟩
    exact ret_fact (i := 0) rfl (by rw [List.take_of_length_le (by omega)])
theorem heldCellS_c {w : World} {v : Value} {xs : List SCell} {k : Int} (h0 : 0 ≤ k) (hb : k + (cntL cCell xs : Nat) ≤ 4611686018427387904) (hv : RdS kCell w v (mkL mkCell cCell xs k)) : RFn Try.prog 52 [v, .int .i64 k] w (.int .i64 (k + (cntL cCell xs : Nat))) := by
  have hv' := hv
  obtain ⟨A, c, rfl, ⟨hc, hm⟩, -⟩ := hv'
  rw [mkL_len] at hv hc hm ⊢
  refine RFn.run 1000 Try.func52 Try.ntmps52 rfl rfl (by simp) ?_
  simp only [go_sem, Nat.reduceBEq, beq_self_eq_true, List.all_cons, List.all_nil, Value.oneCell', Int.reduceEq, Int.reduceLT, Nat.reduceLeDiff, List.getElem?_toArray, Nat.reduceLT, Nat.reduceAdd, Nat.reduceEqDiff, reduceIte]
  refine SEM.loopI (X := { i : Nat // i ≤ xs.length }) (fun x => [(0, .v (.slice A xs.length c)), (1, .v (.int .i64 (k + (cntL cCell (xs.take x.1) : Nat)))), (5, .v (.int .i64 x.1))]) (fun _ => []) (fun x => [amb w]) (fun x => xs.length - x.1) ⟨0, by omega⟩ (by simp [subE, Env.get, cntL]) ⟨[], by simp⟩ (by simp [okL]) (Ent.refl _) ?_
  rintro ⟨i, hi⟩
  by_cases hx : i < xs.length
  · obtain ⟨ad, cs, rfl, hr, hcs⟩ := hv.at' (i := i) (by rw [mkL_len]; exact hx)
    rw [mkL_at _ _ _ _ _ hx] at hr
    have hK := cntL_take cCell xs i hx
    have hle := cntL_le cCell xs (i + 1)
    obtain ⟨K, hKd⟩ : ∃ K, K = k + (cntL cCell (xs.take i) : Nat) := ⟨_, rfl⟩
    rw [← hKd] at hr
    rw [← hKd]
    have hb' : K + (cCell xs[i] : Nat) ≤ 4611686018427387904 := by (try simp only [] at hK); (try simp only []); omega
    have hK0 : 0 ≤ K := by omega
    simp only [cCell] at hb'
    obtain rfl := hr
    have w1 : IntKind.i64.wrap (K + 1) = K + 1 := w64 (by omega) (by omega)
    have w3 : IntKind.i64.wrap (K + 1 + 1) = K + 1 + 1 := w64 (by omega) (by omega)
    have w5 : IntKind.i64.wrap (K + 1 + 1 + 1) = K + 1 + 1 + 1 := w64 (by omega) (by omega)
    have w7 : IntKind.i64.wrap (K + 1 + 1 + 1 + 1) = K + 1 + 1 + 1 + 1 := w64 (by omega) (by omega)
    have w9 : IntKind.i64.wrap (K + 1 + 1 + 1 + 1 + 1) = K + 1 + 1 + 1 + 1 + 1 := w64 (by omega) (by omega)
    have w11 : IntKind.i64.wrap (K + 1 + 1 + 1 + 1 + 1 + 1) = K + 1 + 1 + 1 + 1 + 1 + 1 := w64 (by omega) (by omega)
    have w13 : IntKind.i64.wrap (K + 1 + 1 + 1 + 1 + 1 + 1 + 1) = K + 1 + 1 + 1 + 1 + 1 + 1 + 1 := w64 (by omega) (by omega)
    refine wpk_sound 3000 ?_
    simp only [go_sem, Nat.reduceBEq, beq_self_eq_true, List.all_cons, List.all_nil, Value.oneCell', Int.reduceEq, Int.reduceLT, Nat.reduceLeDiff, List.getElem?_toArray, Nat.reduceLT, Nat.reduceAdd, Nat.reduceEqDiff, reduceIte, List.append_nil, List.cons_append, List.nil_append, eq_self, mkCell, w1, w3, w5, w7, w9, w11, w13]
    refine ⟨fun h1 => ?_, fun h1 => absurd (show (i : Int) < xs.length by omega) h1⟩
    refine ⟨⟨by omega, by omega⟩, ?_⟩
    refine SEM.loadF 0 (amb_cells 0 rfl hcs) rfl (by simp only [go_sem, Nat.reduceBEq, beq_self_eq_true, List.all_cons, List.all_nil, Value.oneCell', Int.reduceEq, Int.reduceLT, Nat.reduceLeDiff, List.getElem?_toArray, Nat.reduceLT, Nat.reduceAdd, Nat.reduceEqDiff, reduceIte, List.append_nil, List.cons_append, List.nil_append, eq_self, mkCell, w1, w3, w5, w7, w9, w11, w13] <;> rfl) (wpk_sound 3000 ?_) rfl rfl rfl rfl
    simp only [go_sem, Nat.reduceBEq, beq_self_eq_true, List.all_cons, List.all_nil, Value.oneCell', Int.reduceEq, Int.reduceLT, Nat.reduceLeDiff, List.getElem?_toArray, Nat.reduceLT, Nat.reduceAdd, Nat.reduceEqDiff, reduceIte, List.append_nil, List.cons_append, List.nil_append, eq_self, mkCell, w1, w3, w5, w7, w9, w11, w13]
    refine ⟨⟨by omega, by omega⟩, ?_⟩
    refine SEM.loadF 1 (amb_cells 0 rfl hcs) rfl (by simp only [go_sem, Nat.reduceBEq, beq_self_eq_true, List.all_cons, List.all_nil, Value.oneCell', Int.reduceEq, Int.reduceLT, Nat.reduceLeDiff, List.getElem?_toArray, Nat.reduceLT, Nat.reduceAdd, Nat.reduceEqDiff, reduceIte, List.append_nil, List.cons_append, List.nil_append, eq_self, mkCell, w1, w3, w5, w7, w9, w11, w13] <;> rfl) (wpk_sound 3000 ?_) rfl rfl rfl rfl
    simp only [go_sem, Nat.reduceBEq, beq_self_eq_true, List.all_cons, List.all_nil, Value.oneCell', Int.reduceEq, Int.reduceLT, Nat.reduceLeDiff, List.getElem?_toArray, Nat.reduceLT, Nat.reduceAdd, Nat.reduceEqDiff, reduceIte, List.append_nil, List.cons_append, List.nil_append, eq_self, mkCell, w1, w3, w5, w7, w9, w11, w13]
    refine ⟨⟨by omega, by omega⟩, ?_⟩
    refine SEM.loadF 2 (amb_cells 0 rfl hcs) rfl (by simp only [go_sem, Nat.reduceBEq, beq_self_eq_true, List.all_cons, List.all_nil, Value.oneCell', Int.reduceEq, Int.reduceLT, Nat.reduceLeDiff, List.getElem?_toArray, Nat.reduceLT, Nat.reduceAdd, Nat.reduceEqDiff, reduceIte, List.append_nil, List.cons_append, List.nil_append, eq_self, mkCell, w1, w3, w5, w7, w9, w11, w13] <;> rfl) (wpk_sound 3000 ?_) rfl rfl rfl rfl
    simp only [go_sem, Nat.reduceBEq, beq_self_eq_true, List.all_cons, List.all_nil, Value.oneCell', Int.reduceEq, Int.reduceLT, Nat.reduceLeDiff, List.getElem?_toArray, Nat.reduceLT, Nat.reduceAdd, Nat.reduceEqDiff, reduceIte, List.append_nil, List.cons_append, List.nil_append, eq_self, mkCell, w1, w3, w5, w7, w9, w11, w13]
    refine ⟨⟨by omega, by omega⟩, ?_⟩
    refine SEM.loadF 3 (amb_cells 0 rfl hcs) rfl (by simp only [go_sem, Nat.reduceBEq, beq_self_eq_true, List.all_cons, List.all_nil, Value.oneCell', Int.reduceEq, Int.reduceLT, Nat.reduceLeDiff, List.getElem?_toArray, Nat.reduceLT, Nat.reduceAdd, Nat.reduceEqDiff, reduceIte, List.append_nil, List.cons_append, List.nil_append, eq_self, mkCell, w1, w3, w5, w7, w9, w11, w13] <;> rfl) (wpk_sound 3000 ?_) rfl rfl rfl rfl
    simp only [go_sem, Nat.reduceBEq, beq_self_eq_true, List.all_cons, List.all_nil, Value.oneCell', Int.reduceEq, Int.reduceLT, Nat.reduceLeDiff, List.getElem?_toArray, Nat.reduceLT, Nat.reduceAdd, Nat.reduceEqDiff, reduceIte, List.append_nil, List.cons_append, List.nil_append, eq_self, mkCell, w1, w3, w5, w7, w9, w11, w13]
    refine ⟨⟨by omega, by omega⟩, ?_⟩
    refine SEM.loadF 4 (amb_cells 0 rfl hcs) rfl (by simp only [go_sem, Nat.reduceBEq, beq_self_eq_true, List.all_cons, List.all_nil, Value.oneCell', Int.reduceEq, Int.reduceLT, Nat.reduceLeDiff, List.getElem?_toArray, Nat.reduceLT, Nat.reduceAdd, Nat.reduceEqDiff, reduceIte, List.append_nil, List.cons_append, List.nil_append, eq_self, mkCell, w1, w3, w5, w7, w9, w11, w13] <;> rfl) (wpk_sound 3000 ?_) rfl rfl rfl rfl
    simp only [go_sem, Nat.reduceBEq, beq_self_eq_true, List.all_cons, List.all_nil, Value.oneCell', Int.reduceEq, Int.reduceLT, Nat.reduceLeDiff, List.getElem?_toArray, Nat.reduceLT, Nat.reduceAdd, Nat.reduceEqDiff, reduceIte, List.append_nil, List.cons_append, List.nil_append, eq_self, mkCell, w1, w3, w5, w7, w9, w11, w13]
    refine ⟨⟨by omega, by omega⟩, ?_⟩
    refine SEM.loadF 5 (amb_cells 0 rfl hcs) rfl (by simp only [go_sem, Nat.reduceBEq, beq_self_eq_true, List.all_cons, List.all_nil, Value.oneCell', Int.reduceEq, Int.reduceLT, Nat.reduceLeDiff, List.getElem?_toArray, Nat.reduceLT, Nat.reduceAdd, Nat.reduceEqDiff, reduceIte, List.append_nil, List.cons_append, List.nil_append, eq_self, mkCell, w1, w3, w5, w7, w9, w11, w13] <;> rfl) (wpk_sound 3000 ?_) rfl rfl rfl rfl
    simp only [go_sem, Nat.reduceBEq, beq_self_eq_true, List.all_cons, List.all_nil, Value.oneCell', Int.reduceEq, Int.reduceLT, Nat.reduceLeDiff, List.getElem?_toArray, Nat.reduceLT, Nat.reduceAdd, Nat.reduceEqDiff, reduceIte, List.append_nil, List.cons_append, List.nil_append, eq_self, mkCell, w1, w3, w5, w7, w9, w11, w13]
    refine ⟨⟨by omega, by omega⟩, ?_⟩
    refine SEM.loadF 6 (amb_cells 0 rfl hcs) rfl (by simp only [go_sem, Nat.reduceBEq, beq_self_eq_true, List.all_cons, List.all_nil, Value.oneCell', Int.reduceEq, Int.reduceLT, Nat.reduceLeDiff, List.getElem?_toArray, Nat.reduceLT, Nat.reduceAdd, Nat.reduceEqDiff, reduceIte, List.append_nil, List.cons_append, List.nil_append, eq_self, mkCell, w1, w3, w5, w7, w9, w11, w13] <;> rfl) (wpk_sound 3000 ?_) rfl rfl rfl rfl
    simp only [go_sem, Nat.reduceBEq, beq_self_eq_true, List.all_cons, List.all_nil, Value.oneCell', Int.reduceEq, Int.reduceLT, Nat.reduceLeDiff, List.getElem?_toArray, Nat.reduceLT, Nat.reduceAdd, Nat.reduceEqDiff, reduceIte, List.append_nil, List.cons_append, List.nil_append, eq_self, mkCell, w1, w3, w5, w7, w9, w11, w13]
    have hi1 : IntKind.i64.wrap ((i : Int) + 1) = ((i + 1 : Nat) : Int) := w64 (by omega) (by omega)
    refine ⟨⟨i + 1, by omega⟩, [], ?_, rfl, by simp [okL], Ent.refl _, by simp only; omega⟩
    simp only [subE, get_cons, Nat.reduceEqDiff, reduceIte, hi1, hK, and_true, true_and, Int.natCast_add, ← Int.add_assoc, ← hKd]
    rw [show K + 1 + 1 + 1 + 1 + 1 + 1 + 1 = K + (cCell xs[i] : Nat) from by simp only [cCell]; omega]
  · refine wpk_sound 1000 ?_
    simp only [go_sem, Nat.reduceBEq, beq_self_eq_true, List.all_cons, List.all_nil, Value.oneCell', Int.reduceEq, Int.reduceLT, Nat.reduceLeDiff, List.getElem?_toArray, Nat.reduceLT, Nat.reduceAdd, Nat.reduceEqDiff, reduceIte]
    refine ⟨fun h1 => absurd h1 (by omega), fun h1 => ?_⟩
    exact ret_fact (i := 0) rfl (by rw [List.take_of_length_le (by omega)])
theorem heldCellSS_c {w : World} {v : Value} {xs : List (List SCell)} {k : Int} (h0 : 0 ≤ k) (hb : k + (cntL (fun y => cntL cCell y) xs : Nat) ≤ 4611686018427387904) (hv : RdS (kS kCell) w v (mkL (fun y j => mkL mkCell cCell y j) (fun y => cntL cCell y) xs k)) : RFn Try.prog 43 [v, .int .i64 k] w (.int .i64 (k + (cntL (fun y => cntL cCell y) xs : Nat))) := by
  have hv' := hv
  obtain ⟨A, c, rfl, ⟨hc, hm⟩, -⟩ := hv'
  rw [mkL_len] at hv hc hm ⊢
  refine RFn.run 1000 Try.func43 Try.ntmps43 rfl rfl (by simp) ?_
  simp only [go_sem, Nat.reduceBEq, beq_self_eq_true, List.all_cons, List.all_nil, Value.oneCell', Int.reduceEq, Int.reduceLT, Nat.reduceLeDiff, List.getElem?_toArray, Nat.reduceLT, Nat.reduceAdd, Nat.reduceEqDiff, reduceIte]
  refine SEM.loopI (X := { i : Nat // i ≤ xs.length }) (fun x => [(0, .v (.slice A xs.length c)), (1, .v (.int .i64 (k + (cntL (fun y => cntL cCell y) (xs.take x.1) : Nat)))), (5, .v (.int .i64 x.1))]) (fun _ => []) (fun x => [amb w]) (fun x => xs.length - x.1) ⟨0, by omega⟩ (by simp [subE, Env.get, cntL]) ⟨[], by simp⟩ (by simp [okL]) (Ent.refl _) ?_
  rintro ⟨i, hi⟩
  by_cases hx : i < xs.length
  · obtain ⟨ad, cs, rfl, hr, hcs⟩ := hv.at' (i := i) (by rw [mkL_len]; exact hx)
    rw [mkL_at _ _ _ _ _ hx] at hr
    have hK := cntL_take (fun y => cntL cCell y) xs i hx
    have hle := cntL_le (fun y => cntL cCell y) xs (i + 1)
    obtain ⟨K, hKd⟩ : ∃ K, K = k + (cntL (fun y => cntL cCell y) (xs.take i) : Nat) := ⟨_, rfl⟩
    rw [← hKd] at hr
    rw [← hKd]
    have hb' : K + ((fun y => cntL cCell y) xs[i] : Nat) ≤ 4611686018427387904 := by (try simp only [] at hK); (try simp only []); omega
    have hK0 : 0 ≤ K := by omega
    try simp only [] at hb'
    obtain ⟨q, rfl, hr⟩ := hr
    refine wpk_sound 3000 ?_
    simp only [go_sem, Nat.reduceBEq, beq_self_eq_true, List.all_cons, List.all_nil, Value.oneCell', Int.reduceEq, Int.reduceLT, Nat.reduceLeDiff, List.getElem?_toArray, Nat.reduceLT, Nat.reduceAdd, Nat.reduceEqDiff, reduceIte, List.append_nil, List.cons_append, List.nil_append, eq_self]
    refine ⟨fun h1 => ?_, fun h1 => absurd (show (i : Int) < xs.length by omega) h1⟩
    refine ⟨⟨by omega, by omega⟩, ?_⟩
    refine SEM.loadF 0 (amb_cells 0 rfl hcs) rfl (by simp only [go_sem, Nat.reduceBEq, beq_self_eq_true, List.all_cons, List.all_nil, Value.oneCell', Int.reduceEq, Int.reduceLT, Nat.reduceLeDiff, List.getElem?_toArray, Nat.reduceLT, Nat.reduceAdd, Nat.reduceEqDiff, reduceIte, List.append_nil, List.cons_append, List.nil_append, eq_self] <;> rfl) (wpk_sound 3000 ?_) rfl rfl rfl rfl
    simp only [go_sem, Nat.reduceBEq, beq_self_eq_true, List.all_cons, List.all_nil, Value.oneCell', Int.reduceEq, Int.reduceLT, Nat.reduceLeDiff, List.getElem?_toArray, Nat.reduceLT, Nat.reduceAdd, Nat.reduceEqDiff, reduceIte, List.append_nil, List.cons_append, List.nil_append, eq_self]
    refine SEM.callR (fun w' hs => heldCellS_c (by omega) (by omega) (RdS.still hr (sat_still 0 hs rfl))) (wpk_sound 3000 ?_) rfl rfl rfl rfl rfl rfl rfl cf52
    simp only [go_sem, Nat.reduceBEq, beq_self_eq_true, List.all_cons, List.all_nil, Value.oneCell', Int.reduceEq, Int.reduceLT, Nat.reduceLeDiff, List.getElem?_toArray, Nat.reduceLT, Nat.reduceAdd, Nat.reduceEqDiff, reduceIte, List.append_nil, List.cons_append, List.nil_append, eq_self]
    refine ⟨fun h2 => absurd h2 (by omega), fun h2 => ?_⟩
    have hi1 : IntKind.i64.wrap ((i : Int) + 1) = ((i + 1 : Nat) : Int) := w64 (by omega) (by omega)
    refine ⟨⟨i + 1, by omega⟩, [], ?_, rfl, by simp [okL], Ent.refl _, by simp only; omega⟩
    simp only [subE, get_cons, Nat.reduceEqDiff, reduceIte, hi1, hK, and_true, true_and, Int.natCast_add, ← Int.add_assoc, ← hKd]

  · refine wpk_sound 1000 ?_
    simp only [go_sem, Nat.reduceBEq, beq_self_eq_true, List.all_cons, List.all_nil, Value.oneCell', Int.reduceEq, Int.reduceLT, Nat.reduceLeDiff, List.getElem?_toArray, Nat.reduceLT, Nat.reduceAdd, Nat.reduceEqDiff, reduceIte]
    refine ⟨fun h1 => absurd h1 (by omega), fun h1 => ?_⟩
    exact ret_fact (i := 0) rfl (by rw [List.take_of_length_le (by omega)])
theorem heldStringS_c {w : World} {v : Value} {xs : List ByteArray} {k : Int} (h0 : 0 ≤ k) (hb : k + (cntL cT xs : Nat) ≤ 4611686018427387904) (hv : RdS kT w v (mkL mkT cT xs k)) : RFn Try.prog 23 [v, .int .i64 k] w (.int .i64 (k + (cntL cT xs : Nat))) := by
  have hv' := hv
  obtain ⟨A, c, rfl, ⟨hc, hm⟩, -⟩ := hv'
  rw [mkL_len] at hv hc hm ⊢
  refine RFn.run 1000 Try.func23 Try.ntmps23 rfl rfl (by simp) ?_
  simp only [go_sem, Nat.reduceBEq, beq_self_eq_true, List.all_cons, List.all_nil, Value.oneCell', Int.reduceEq, Int.reduceLT, Nat.reduceLeDiff, List.getElem?_toArray, Nat.reduceLT, Nat.reduceAdd, Nat.reduceEqDiff, reduceIte]
  refine SEM.loopI (X := { i : Nat // i ≤ xs.length }) (fun x => [(0, .v (.slice A xs.length c)), (1, .v (.int .i64 (k + (cntL cT (xs.take x.1) : Nat)))), (5, .v (.int .i64 x.1))]) (fun _ => []) (fun x => [amb w]) (fun x => xs.length - x.1) ⟨0, by omega⟩ (by simp [subE, Env.get, cntL]) ⟨[], by simp⟩ (by simp [okL]) (Ent.refl _) ?_
  rintro ⟨i, hi⟩
  by_cases hx : i < xs.length
  · obtain ⟨ad, cs, rfl, hr, hcs⟩ := hv.at' (i := i) (by rw [mkL_len]; exact hx)
    rw [mkL_at _ _ _ _ _ hx] at hr
    have hK := cntL_take cT xs i hx
    have hle := cntL_le cT xs (i + 1)
    obtain ⟨K, hKd⟩ : ∃ K, K = k + (cntL cT (xs.take i) : Nat) := ⟨_, rfl⟩
    rw [← hKd] at hr
    rw [← hKd]
    have hb' : K + (cT xs[i] : Nat) ≤ 4611686018427387904 := by (try simp only [] at hK); (try simp only []); omega
    have hK0 : 0 ≤ K := by omega
    simp only [cT] at hb'
    obtain rfl := hr
    have w1 : IntKind.i64.wrap (K + 1) = K + 1 := w64 (by omega) (by omega)
    refine wpk_sound 3000 ?_
    simp only [go_sem, Nat.reduceBEq, beq_self_eq_true, List.all_cons, List.all_nil, Value.oneCell', Int.reduceEq, Int.reduceLT, Nat.reduceLeDiff, List.getElem?_toArray, Nat.reduceLT, Nat.reduceAdd, Nat.reduceEqDiff, reduceIte, List.append_nil, List.cons_append, List.nil_append, eq_self, mkT, w1]
    refine ⟨fun h1 => ?_, fun h1 => absurd (show (i : Int) < xs.length by omega) h1⟩
    refine SEM.drawW 3000 mixed rfl ?_
    simp only [go_sem, Nat.reduceBEq, beq_self_eq_true, List.all_cons, List.all_nil, Value.oneCell', Int.reduceEq, Int.reduceLT, Nat.reduceLeDiff, List.getElem?_toArray, Nat.reduceLT, Nat.reduceAdd, Nat.reduceEqDiff, reduceIte, List.append_nil, List.cons_append, List.nil_append, eq_self, mkT, w1]
    refine ⟨⟨by omega, by omega⟩, ?_⟩
    refine QG.loadF 3000 0 (amb_cells 0 rfl hcs) rfl (by simp only [go_sem, Nat.reduceBEq, beq_self_eq_true, List.all_cons, List.all_nil, Value.oneCell', Int.reduceEq, Int.reduceLT, Nat.reduceLeDiff, List.getElem?_toArray, Nat.reduceLT, Nat.reduceAdd, Nat.reduceEqDiff, reduceIte, List.append_nil, List.cons_append, List.nil_append, eq_self, mkT, w1] <;> rfl) ?_ rfl rfl
    simp only [go_sem, Nat.reduceBEq, beq_self_eq_true, List.all_cons, List.all_nil, Value.oneCell', Int.reduceEq, Int.reduceLT, Nat.reduceLeDiff, List.getElem?_toArray, Nat.reduceLT, Nat.reduceAdd, Nat.reduceEqDiff, reduceIte, List.append_nil, List.cons_append, List.nil_append, eq_self, mkT, w1]
    refine QG.callP 3000 (markText_c (by omega)) ?_ rfl rfl rfl rfl rfl cf39
    simp only [go_sem, Nat.reduceBEq, beq_self_eq_true, List.all_cons, List.all_nil, Value.oneCell', Int.reduceEq, Int.reduceLT, Nat.reduceLeDiff, List.getElem?_toArray, Nat.reduceLT, Nat.reduceAdd, Nat.reduceEqDiff, reduceIte, List.append_nil, List.cons_append, List.nil_append, eq_self, mkT, w1]
    have hi1 : IntKind.i64.wrap ((i : Int) + 1) = ((i + 1 : Nat) : Int) := w64 (by omega) (by omega)
    refine ⟨⟨i + 1, by omega⟩, [], ?_, rfl, by simp [okL], Ent.refl _, by simp only; omega⟩
    simp only [subE, get_cons, Nat.reduceEqDiff, reduceIte, hi1, hK, and_true, true_and, Int.natCast_add, ← Int.add_assoc, ← hKd]
    rw [show K + 1 = K + (cT xs[i] : Nat) from by simp only [cT]; omega]
  · refine wpk_sound 1000 ?_
    simp only [go_sem, Nat.reduceBEq, beq_self_eq_true, List.all_cons, List.all_nil, Value.oneCell', Int.reduceEq, Int.reduceLT, Nat.reduceLeDiff, List.getElem?_toArray, Nat.reduceLT, Nat.reduceAdd, Nat.reduceEqDiff, reduceIte]
    refine ⟨fun h1 => absurd h1 (by omega), fun h1 => ?_⟩
    exact ret_fact (i := 0) rfl (by rw [List.take_of_length_le (by omega)])
theorem heldServerS_c {w : World} {v : Value} {xs : List SServer} {k : Int} (h0 : 0 ≤ k) (hb : k + (cntL cServer xs : Nat) ≤ 4611686018427387904) (hv : RdS kServer w v (mkL mkServer cServer xs k)) : RFn Try.prog 40 [v, .int .i64 k] w (.int .i64 (k + (cntL cServer xs : Nat))) := by
  have hv' := hv
  obtain ⟨A, c, rfl, ⟨hc, hm⟩, -⟩ := hv'
  rw [mkL_len] at hv hc hm ⊢
  refine RFn.run 1000 Try.func40 Try.ntmps40 rfl rfl (by simp) ?_
  simp only [go_sem, Nat.reduceBEq, beq_self_eq_true, List.all_cons, List.all_nil, Value.oneCell', Int.reduceEq, Int.reduceLT, Nat.reduceLeDiff, List.getElem?_toArray, Nat.reduceLT, Nat.reduceAdd, Nat.reduceEqDiff, reduceIte]
  refine SEM.loopI (X := { i : Nat // i ≤ xs.length }) (fun x => [(0, .v (.slice A xs.length c)), (1, .v (.int .i64 (k + (cntL cServer (xs.take x.1) : Nat)))), (5, .v (.int .i64 x.1))]) (fun _ => []) (fun x => [amb w]) (fun x => xs.length - x.1) ⟨0, by omega⟩ (by simp [subE, Env.get, cntL]) ⟨[], by simp⟩ (by simp [okL]) (Ent.refl _) ?_
  rintro ⟨i, hi⟩
  by_cases hx : i < xs.length
  · obtain ⟨ad, cs, rfl, hr, hcs⟩ := hv.at' (i := i) (by rw [mkL_len]; exact hx)
    rw [mkL_at _ _ _ _ _ hx] at hr
    have hK := cntL_take cServer xs i hx
    have hle := cntL_le cServer xs (i + 1)
    obtain ⟨K, hKd⟩ : ∃ K, K = k + (cntL cServer (xs.take i) : Nat) := ⟨_, rfl⟩
    rw [← hKd] at hr
    rw [← hKd]
    have hb' : K + (cServer xs[i] : Nat) ≤ 4611686018427387904 := by (try simp only [] at hK); (try simp only []); omega
    have hK0 : 0 ≤ K := by omega
    simp only [cServer] at hb'
    obtain ⟨_, _, rfl, ⟨_, rfl, hrlog⟩, _, _, rfl, rfl, rfl⟩ := hr
    have w1 : IntKind.i64.wrap (K + (cntL cT xs[i].log : Nat) + 1) = K + (cntL cT xs[i].log : Nat) + 1 := w64 (by omega) (by omega)
    refine wpk_sound 3000 ?_
    simp only [go_sem, Nat.reduceBEq, beq_self_eq_true, List.all_cons, List.all_nil, Value.oneCell', Int.reduceEq, Int.reduceLT, Nat.reduceLeDiff, List.getElem?_toArray, Nat.reduceLT, Nat.reduceAdd, Nat.reduceEqDiff, reduceIte, List.append_nil, List.cons_append, List.nil_append, eq_self, mkServer, w1]
    refine ⟨fun h1 => ?_, fun h1 => absurd (show (i : Int) < xs.length by omega) h1⟩
    refine ⟨⟨by omega, by omega⟩, ?_⟩
    refine SEM.loadF 0 (amb_cells 0 rfl hcs) rfl (by simp only [go_sem, Nat.reduceBEq, beq_self_eq_true, List.all_cons, List.all_nil, Value.oneCell', Int.reduceEq, Int.reduceLT, Nat.reduceLeDiff, List.getElem?_toArray, Nat.reduceLT, Nat.reduceAdd, Nat.reduceEqDiff, reduceIte, List.append_nil, List.cons_append, List.nil_append, eq_self, mkServer, w1] <;> rfl) (wpk_sound 3000 ?_) rfl rfl rfl rfl
    simp only [go_sem, Nat.reduceBEq, beq_self_eq_true, List.all_cons, List.all_nil, Value.oneCell', Int.reduceEq, Int.reduceLT, Nat.reduceLeDiff, List.getElem?_toArray, Nat.reduceLT, Nat.reduceAdd, Nat.reduceEqDiff, reduceIte, List.append_nil, List.cons_append, List.nil_append, eq_self, mkServer, w1]
    refine SEM.callR (fun w' hs => heldStringS_c (by omega) (by omega) (RdS.still hrlog (sat_still 0 hs rfl))) (wpk_sound 3000 ?_) rfl rfl rfl rfl rfl rfl rfl cf23
    simp only [go_sem, Nat.reduceBEq, beq_self_eq_true, List.all_cons, List.all_nil, Value.oneCell', Int.reduceEq, Int.reduceLT, Nat.reduceLeDiff, List.getElem?_toArray, Nat.reduceLT, Nat.reduceAdd, Nat.reduceEqDiff, reduceIte, List.append_nil, List.cons_append, List.nil_append, eq_self, mkServer, w1]
    refine ⟨fun h2 => absurd h2 (by omega), fun h2 => ?_⟩
    refine ⟨⟨by omega, by omega⟩, ?_⟩
    refine SEM.loadF 1 (amb_cells 0 rfl hcs) rfl (by simp only [go_sem, Nat.reduceBEq, beq_self_eq_true, List.all_cons, List.all_nil, Value.oneCell', Int.reduceEq, Int.reduceLT, Nat.reduceLeDiff, List.getElem?_toArray, Nat.reduceLT, Nat.reduceAdd, Nat.reduceEqDiff, reduceIte, List.append_nil, List.cons_append, List.nil_append, eq_self, mkServer, w1] <;> rfl) (wpk_sound 3000 ?_) rfl rfl rfl rfl
    simp only [go_sem, Nat.reduceBEq, beq_self_eq_true, List.all_cons, List.all_nil, Value.oneCell', Int.reduceEq, Int.reduceLT, Nat.reduceLeDiff, List.getElem?_toArray, Nat.reduceLT, Nat.reduceAdd, Nat.reduceEqDiff, reduceIte, List.append_nil, List.cons_append, List.nil_append, eq_self, mkServer, w1]
    have hi1 : IntKind.i64.wrap ((i : Int) + 1) = ((i + 1 : Nat) : Int) := w64 (by omega) (by omega)
    refine ⟨⟨i + 1, by omega⟩, [], ?_, rfl, by simp [okL], Ent.refl _, by simp only; omega⟩
    simp only [subE, get_cons, Nat.reduceEqDiff, reduceIte, hi1, hK, and_true, true_and, Int.natCast_add, ← Int.add_assoc, ← hKd]
    rw [show K + (cntL cT xs[i].log : Nat) + 1 = K + (cServer xs[i] : Nat) from by simp only [cServer]; omega]
  · refine wpk_sound 1000 ?_
    simp only [go_sem, Nat.reduceBEq, beq_self_eq_true, List.all_cons, List.all_nil, Value.oneCell', Int.reduceEq, Int.reduceLT, Nat.reduceLeDiff, List.getElem?_toArray, Nat.reduceLT, Nat.reduceAdd, Nat.reduceEqDiff, reduceIte]
    refine ⟨fun h1 => absurd h1 (by omega), fun h1 => ?_⟩
    exact ret_fact (i := 0) rfl (by rw [List.take_of_length_le (by omega)])
theorem heldStringSS_c {w : World} {v : Value} {xs : List (List ByteArray)} {k : Int} (h0 : 0 ≤ k) (hb : k + (cntL (fun y => cntL cT y) xs : Nat) ≤ 4611686018427387904) (hv : RdS (kS kT) w v (mkL (fun y j => mkL mkT cT y j) (fun y => cntL cT y) xs k)) : RFn Try.prog 41 [v, .int .i64 k] w (.int .i64 (k + (cntL (fun y => cntL cT y) xs : Nat))) := by
  have hv' := hv
  obtain ⟨A, c, rfl, ⟨hc, hm⟩, -⟩ := hv'
  rw [mkL_len] at hv hc hm ⊢
  refine RFn.run 1000 Try.func41 Try.ntmps41 rfl rfl (by simp) ?_
  simp only [go_sem, Nat.reduceBEq, beq_self_eq_true, List.all_cons, List.all_nil, Value.oneCell', Int.reduceEq, Int.reduceLT, Nat.reduceLeDiff, List.getElem?_toArray, Nat.reduceLT, Nat.reduceAdd, Nat.reduceEqDiff, reduceIte]
  refine SEM.loopI (X := { i : Nat // i ≤ xs.length }) (fun x => [(0, .v (.slice A xs.length c)), (1, .v (.int .i64 (k + (cntL (fun y => cntL cT y) (xs.take x.1) : Nat)))), (5, .v (.int .i64 x.1))]) (fun _ => []) (fun x => [amb w]) (fun x => xs.length - x.1) ⟨0, by omega⟩ (by simp [subE, Env.get, cntL]) ⟨[], by simp⟩ (by simp [okL]) (Ent.refl _) ?_
  rintro ⟨i, hi⟩
  by_cases hx : i < xs.length
  · obtain ⟨ad, cs, rfl, hr, hcs⟩ := hv.at' (i := i) (by rw [mkL_len]; exact hx)
    rw [mkL_at _ _ _ _ _ hx] at hr
    have hK := cntL_take (fun y => cntL cT y) xs i hx
    have hle := cntL_le (fun y => cntL cT y) xs (i + 1)
    obtain ⟨K, hKd⟩ : ∃ K, K = k + (cntL (fun y => cntL cT y) (xs.take i) : Nat) := ⟨_, rfl⟩
    rw [← hKd] at hr
    rw [← hKd]
    have hb' : K + ((fun y => cntL cT y) xs[i] : Nat) ≤ 4611686018427387904 := by (try simp only [] at hK); (try simp only []); omega
    have hK0 : 0 ≤ K := by omega
    try simp only [] at hb'
    obtain ⟨q, rfl, hr⟩ := hr
    refine wpk_sound 3000 ?_
    simp only [go_sem, Nat.reduceBEq, beq_self_eq_true, List.all_cons, List.all_nil, Value.oneCell', Int.reduceEq, Int.reduceLT, Nat.reduceLeDiff, List.getElem?_toArray, Nat.reduceLT, Nat.reduceAdd, Nat.reduceEqDiff, reduceIte, List.append_nil, List.cons_append, List.nil_append, eq_self]
    refine ⟨fun h1 => ?_, fun h1 => absurd (show (i : Int) < xs.length by omega) h1⟩
    refine ⟨⟨by omega, by omega⟩, ?_⟩
    refine SEM.loadF 0 (amb_cells 0 rfl hcs) rfl (by simp only [go_sem, Nat.reduceBEq, beq_self_eq_true, List.all_cons, List.all_nil, Value.oneCell', Int.reduceEq, Int.reduceLT, Nat.reduceLeDiff, List.getElem?_toArray, Nat.reduceLT, Nat.reduceAdd, Nat.reduceEqDiff, reduceIte, List.append_nil, List.cons_append, List.nil_append, eq_self] <;> rfl) (wpk_sound 3000 ?_) rfl rfl rfl rfl
    simp only [go_sem, Nat.reduceBEq, beq_self_eq_true, List.all_cons, List.all_nil, Value.oneCell', Int.reduceEq, Int.reduceLT, Nat.reduceLeDiff, List.getElem?_toArray, Nat.reduceLT, Nat.reduceAdd, Nat.reduceEqDiff, reduceIte, List.append_nil, List.cons_append, List.nil_append, eq_self]
    refine SEM.callR (fun w' hs => heldStringS_c (by omega) (by omega) (RdS.still hr (sat_still 0 hs rfl))) (wpk_sound 3000 ?_) rfl rfl rfl rfl rfl rfl rfl cf23
    simp only [go_sem, Nat.reduceBEq, beq_self_eq_true, List.all_cons, List.all_nil, Value.oneCell', Int.reduceEq, Int.reduceLT, Nat.reduceLeDiff, List.getElem?_toArray, Nat.reduceLT, Nat.reduceAdd, Nat.reduceEqDiff, reduceIte, List.append_nil, List.cons_append, List.nil_append, eq_self]
    refine ⟨fun h2 => absurd h2 (by omega), fun h2 => ?_⟩
    have hi1 : IntKind.i64.wrap ((i : Int) + 1) = ((i + 1 : Nat) : Int) := w64 (by omega) (by omega)
    refine ⟨⟨i + 1, by omega⟩, [], ?_, rfl, by simp [okL], Ent.refl _, by simp only; omega⟩
    simp only [subE, get_cons, Nat.reduceEqDiff, reduceIte, hi1, hK, and_true, true_and, Int.natCast_add, ← Int.add_assoc, ← hKd]

  · refine wpk_sound 1000 ?_
    simp only [go_sem, Nat.reduceBEq, beq_self_eq_true, List.all_cons, List.all_nil, Value.oneCell', Int.reduceEq, Int.reduceLT, Nat.reduceLeDiff, List.getElem?_toArray, Nat.reduceLT, Nat.reduceAdd, Nat.reduceEqDiff, reduceIte]
    refine ⟨fun h1 => absurd h1 (by omega), fun h1 => ?_⟩
    exact ret_fact (i := 0) rfl (by rw [List.take_of_length_le (by omega)])
theorem heldInt64SS_c {w : World} {v : Value} {xs : List (List Int)} {k : Int} (h0 : 0 ≤ k) (hb : k + (cntL (fun y => cntL cI y) xs : Nat) ≤ 4611686018427387904) (hv : RdS (kS kI) w v (mkL (fun y j => mkL mkI cI y j) (fun y => cntL cI y) xs k)) : RFn Try.prog 42 [v, .int .i64 k] w (.int .i64 (k + (cntL (fun y => cntL cI y) xs : Nat))) := by
  have hv' := hv
  obtain ⟨A, c, rfl, ⟨hc, hm⟩, -⟩ := hv'
  rw [mkL_len] at hv hc hm ⊢
  refine RFn.run 1000 Try.func42 Try.ntmps42 rfl rfl (by simp) ?_
  simp only [go_sem, Nat.reduceBEq, beq_self_eq_true, List.all_cons, List.all_nil, Value.oneCell', Int.reduceEq, Int.reduceLT, Nat.reduceLeDiff, List.getElem?_toArray, Nat.reduceLT, Nat.reduceAdd, Nat.reduceEqDiff, reduceIte]
  refine SEM.loopI (X := { i : Nat // i ≤ xs.length }) (fun x => [(0, .v (.slice A xs.length c)), (1, .v (.int .i64 (k + (cntL (fun y => cntL cI y) (xs.take x.1) : Nat)))), (5, .v (.int .i64 x.1))]) (fun _ => []) (fun x => [amb w]) (fun x => xs.length - x.1) ⟨0, by omega⟩ (by simp [subE, Env.get, cntL]) ⟨[], by simp⟩ (by simp [okL]) (Ent.refl _) ?_
  rintro ⟨i, hi⟩
  by_cases hx : i < xs.length
  · obtain ⟨ad, cs, rfl, hr, hcs⟩ := hv.at' (i := i) (by rw [mkL_len]; exact hx)
    rw [mkL_at _ _ _ _ _ hx] at hr
    have hK := cntL_take (fun y => cntL cI y) xs i hx
    have hle := cntL_le (fun y => cntL cI y) xs (i + 1)
    obtain ⟨K, hKd⟩ : ∃ K, K = k + (cntL (fun y => cntL cI y) (xs.take i) : Nat) := ⟨_, rfl⟩
    rw [← hKd] at hr
    rw [← hKd]
    have hb' : K + ((fun y => cntL cI y) xs[i] : Nat) ≤ 4611686018427387904 := by (try simp only [] at hK); (try simp only []); omega
    have hK0 : 0 ≤ K := by omega
    try simp only [] at hb'
    obtain ⟨q, rfl, hr⟩ := hr
    refine wpk_sound 3000 ?_
    simp only [go_sem, Nat.reduceBEq, beq_self_eq_true, List.all_cons, List.all_nil, Value.oneCell', Int.reduceEq, Int.reduceLT, Nat.reduceLeDiff, List.getElem?_toArray, Nat.reduceLT, Nat.reduceAdd, Nat.reduceEqDiff, reduceIte, List.append_nil, List.cons_append, List.nil_append, eq_self]
    refine ⟨fun h1 => ?_, fun h1 => absurd (show (i : Int) < xs.length by omega) h1⟩
    refine ⟨⟨by omega, by omega⟩, ?_⟩
    refine SEM.loadF 0 (amb_cells 0 rfl hcs) rfl (by simp only [go_sem, Nat.reduceBEq, beq_self_eq_true, List.all_cons, List.all_nil, Value.oneCell', Int.reduceEq, Int.reduceLT, Nat.reduceLeDiff, List.getElem?_toArray, Nat.reduceLT, Nat.reduceAdd, Nat.reduceEqDiff, reduceIte, List.append_nil, List.cons_append, List.nil_append, eq_self] <;> rfl) (wpk_sound 3000 ?_) rfl rfl rfl rfl
    simp only [go_sem, Nat.reduceBEq, beq_self_eq_true, List.all_cons, List.all_nil, Value.oneCell', Int.reduceEq, Int.reduceLT, Nat.reduceLeDiff, List.getElem?_toArray, Nat.reduceLT, Nat.reduceAdd, Nat.reduceEqDiff, reduceIte, List.append_nil, List.cons_append, List.nil_append, eq_self]
    refine SEM.callR (fun w' hs => heldInt64S_c (by omega) (by omega) (RdS.still hr (sat_still 0 hs rfl))) (wpk_sound 3000 ?_) rfl rfl rfl rfl rfl rfl rfl cf44
    simp only [go_sem, Nat.reduceBEq, beq_self_eq_true, List.all_cons, List.all_nil, Value.oneCell', Int.reduceEq, Int.reduceLT, Nat.reduceLeDiff, List.getElem?_toArray, Nat.reduceLT, Nat.reduceAdd, Nat.reduceEqDiff, reduceIte, List.append_nil, List.cons_append, List.nil_append, eq_self]
    refine ⟨fun h2 => absurd h2 (by omega), fun h2 => ?_⟩
    have hi1 : IntKind.i64.wrap ((i : Int) + 1) = ((i + 1 : Nat) : Int) := w64 (by omega) (by omega)
    refine ⟨⟨i + 1, by omega⟩, [], ?_, rfl, by simp [okL], Ent.refl _, by simp only; omega⟩
    simp only [subE, get_cons, Nat.reduceEqDiff, reduceIte, hi1, hK, and_true, true_and, Int.natCast_add, ← Int.add_assoc, ← hKd]

  · refine wpk_sound 1000 ?_
    simp only [go_sem, Nat.reduceBEq, beq_self_eq_true, List.all_cons, List.all_nil, Value.oneCell', Int.reduceEq, Int.reduceLT, Nat.reduceLeDiff, List.getElem?_toArray, Nat.reduceLT, Nat.reduceAdd, Nat.reduceEqDiff, reduceIte]
    refine ⟨fun h1 => absurd h1 (by omega), fun h1 => ?_⟩
    exact ret_fact (i := 0) rfl (by rw [List.take_of_length_le (by omega)])
theorem heldChain_c {w : World} {cs : List Value} {x : SChain} {k : Int} (h0 : 0 ≤ k) (hb : k + (cvChain x : Nat) ≤ 4611686018427387904) (hr : kChain.rd w (mkvChain x k) cs) : RFn Try.prog 21 [.agg cs.toArray, .int .i64 k] w (.int .i64 (k + (cvChain x : Nat))) := by
  simp only [cvChain] at hb
  obtain ⟨_, _, rfl, ⟨_, rfl, hrservers⟩, _, _, rfl, ⟨_, rfl, hrdown⟩, _, _, rfl, ⟨_, rfl, hrup⟩, rfl⟩ := hr
  refine RFn.run 3000 Try.func21 Try.ntmps21 rfl rfl (by simp) ?_
  simp only [go_sem, Nat.reduceBEq, beq_self_eq_true, List.all_cons, List.all_nil, Value.oneCell', Int.reduceEq, Int.reduceLT, Nat.reduceLeDiff, List.getElem?_toArray, Nat.reduceLT, Nat.reduceAdd, Nat.reduceEqDiff, reduceIte, List.append_nil, List.cons_append, List.nil_append]
  intro b0
  refine SEM.callR (fun w' hs => heldServerS_c (by omega) (by omega) (RdS.still hrservers (sat_still 0 hs rfl))) (wpk_sound 3000 ?_) rfl rfl rfl rfl rfl rfl rfl cf40
  simp only [go_sem, Nat.reduceBEq, beq_self_eq_true, List.all_cons, List.all_nil, Value.oneCell', Int.reduceEq, Int.reduceLT, Nat.reduceLeDiff, List.getElem?_toArray, Nat.reduceLT, Nat.reduceAdd, Nat.reduceEqDiff, reduceIte, List.append_nil, List.cons_append, List.nil_append]
  refine ⟨fun h2 => absurd h2 (by omega), fun h2 => ?_⟩
  refine SEM.callR (fun w' hs => heldStringSS_c (by omega) (by omega) (RdS.still hrdown (sat_still 0 hs rfl))) (wpk_sound 3000 ?_) rfl rfl rfl rfl rfl rfl rfl cf41
  simp only [go_sem, Nat.reduceBEq, beq_self_eq_true, List.all_cons, List.all_nil, Value.oneCell', Int.reduceEq, Int.reduceLT, Nat.reduceLeDiff, List.getElem?_toArray, Nat.reduceLT, Nat.reduceAdd, Nat.reduceEqDiff, reduceIte, List.append_nil, List.cons_append, List.nil_append]
  refine ⟨fun h2 => absurd h2 (by omega), fun h2 => ?_⟩
  refine SEM.callR (fun w' hs => heldInt64SS_c (by omega) (by omega) (RdS.still hrup (sat_still 0 hs rfl))) (wpk_sound 3000 ?_) rfl rfl rfl rfl rfl rfl rfl cf42
  simp only [go_sem, Nat.reduceBEq, beq_self_eq_true, List.all_cons, List.all_nil, Value.oneCell', Int.reduceEq, Int.reduceLT, Nat.reduceLeDiff, List.getElem?_toArray, Nat.reduceLT, Nat.reduceAdd, Nat.reduceEqDiff, reduceIte, List.append_nil, List.cons_append, List.nil_append]
  refine ⟨fun h2 => absurd h2 (by omega), fun h2 => ?_⟩
  exact ret_fact (i := 0) rfl (by simp only [cvChain]; congr 1; omega)
theorem heldClientS_c {w : World} {v : Value} {xs : List SClient} {k : Int} (h0 : 0 ≤ k) (hb : k + (cntL cClient xs : Nat) ≤ 4611686018427387904) (hv : RdS kClient w v (mkL mkClient cClient xs k)) : RFn Try.prog 22 [v, .int .i64 k] w (.int .i64 (k + (cntL cClient xs : Nat))) := by
  have hv' := hv
  obtain ⟨A, c, rfl, ⟨hc, hm⟩, -⟩ := hv'
  rw [mkL_len] at hv hc hm ⊢
  refine RFn.run 1000 Try.func22 Try.ntmps22 rfl rfl (by simp) ?_
  simp only [go_sem, Nat.reduceBEq, beq_self_eq_true, List.all_cons, List.all_nil, Value.oneCell', Int.reduceEq, Int.reduceLT, Nat.reduceLeDiff, List.getElem?_toArray, Nat.reduceLT, Nat.reduceAdd, Nat.reduceEqDiff, reduceIte]
  refine SEM.loopI (X := { i : Nat // i ≤ xs.length }) (fun x => [(0, .v (.slice A xs.length c)), (1, .v (.int .i64 (k + (cntL cClient (xs.take x.1) : Nat)))), (5, .v (.int .i64 x.1))]) (fun _ => []) (fun x => [amb w]) (fun x => xs.length - x.1) ⟨0, by omega⟩ (by simp [subE, Env.get, cntL]) ⟨[], by simp⟩ (by simp [okL]) (Ent.refl _) ?_
  rintro ⟨i, hi⟩
  by_cases hx : i < xs.length
  · obtain ⟨ad, cs, rfl, hr, hcs⟩ := hv.at' (i := i) (by rw [mkL_len]; exact hx)
    rw [mkL_at _ _ _ _ _ hx] at hr
    have hK := cntL_take cClient xs i hx
    have hle := cntL_le cClient xs (i + 1)
    obtain ⟨K, hKd⟩ : ∃ K, K = k + (cntL cClient (xs.take i) : Nat) := ⟨_, rfl⟩
    rw [← hKd] at hr
    rw [← hKd]
    have hb' : K + (cClient xs[i] : Nat) ≤ 4611686018427387904 := by (try simp only [] at hK); (try simp only []); omega
    have hK0 : 0 ≤ K := by omega
    simp only [cClient] at hb'
    obtain ⟨_, _, rfl, rfl, _, _, rfl, ⟨_, rfl, hrqueue⟩, _, _, rfl, rfl, _, _, rfl, hrscreen, _, _, rfl, rfl, _, _, rfl, hrwindow, _, _, rfl, rfl, rfl⟩ := hr
    have hrscreen_ := hrscreen
    obtain ⟨_, _, rfl, rfl, _, _, rfl, ⟨_, rfl, hrscreenrows⟩, rfl⟩ := hrscreen
    have hrwindow_ := hrwindow
    obtain ⟨_, _, rfl, rfl, _, _, rfl, ⟨_, rfl, hrwindowseen⟩, rfl⟩ := hrwindow
    have w1 : IntKind.i64.wrap (K + 1) = K + 1 := w64 (by omega) (by omega)
    have w3 : IntKind.i64.wrap (K + 1 + (cntL cT xs[i].queue : Nat) + 1) = K + 1 + (cntL cT xs[i].queue : Nat) + 1 := w64 (by omega) (by omega)
    have w5 : IntKind.i64.wrap (K + 1 + (cntL cT xs[i].queue : Nat) + 1 + 1) = K + 1 + (cntL cT xs[i].queue : Nat) + 1 + 1 := w64 (by omega) (by omega)
    have w7 : IntKind.i64.wrap (K + 1 + (cntL cT xs[i].queue : Nat) + 1 + 1 + (cntL (fun y => cntL cCell y) xs[i].screen.rows : Nat) + 1) = K + 1 + (cntL cT xs[i].queue : Nat) + 1 + 1 + (cntL (fun y => cntL cCell y) xs[i].screen.rows : Nat) + 1 := w64 (by omega) (by omega)
    have w9 : IntKind.i64.wrap (K + 1 + (cntL cT xs[i].queue : Nat) + 1 + 1 + (cntL (fun y => cntL cCell y) xs[i].screen.rows : Nat) + 1 + 1) = K + 1 + (cntL cT xs[i].queue : Nat) + 1 + 1 + (cntL (fun y => cntL cCell y) xs[i].screen.rows : Nat) + 1 + 1 := w64 (by omega) (by omega)
    have w11 : IntKind.i64.wrap (K + 1 + (cntL cT xs[i].queue : Nat) + 1 + 1 + (cntL (fun y => cntL cCell y) xs[i].screen.rows : Nat) + 1 + 1 + (cntL cI xs[i].window.seen : Nat) + 1) = K + 1 + (cntL cT xs[i].queue : Nat) + 1 + 1 + (cntL (fun y => cntL cCell y) xs[i].screen.rows : Nat) + 1 + 1 + (cntL cI xs[i].window.seen : Nat) + 1 := w64 (by omega) (by omega)
    refine wpk_sound 3000 ?_
    simp only [go_sem, Nat.reduceBEq, beq_self_eq_true, List.all_cons, List.all_nil, Value.oneCell', Int.reduceEq, Int.reduceLT, Nat.reduceLeDiff, List.getElem?_toArray, Nat.reduceLT, Nat.reduceAdd, Nat.reduceEqDiff, reduceIte, List.append_nil, List.cons_append, List.nil_append, eq_self, mkClient, w1, w3, w5, w7, w9, w11]
    refine ⟨fun h1 => ?_, fun h1 => absurd (show (i : Int) < xs.length by omega) h1⟩
    refine ⟨⟨by omega, by omega⟩, ?_⟩
    refine SEM.loadF 0 (amb_cells 0 rfl hcs) rfl (by simp only [go_sem, Nat.reduceBEq, beq_self_eq_true, List.all_cons, List.all_nil, Value.oneCell', Int.reduceEq, Int.reduceLT, Nat.reduceLeDiff, List.getElem?_toArray, Nat.reduceLT, Nat.reduceAdd, Nat.reduceEqDiff, reduceIte, List.append_nil, List.cons_append, List.nil_append, eq_self, mkClient, w1, w3, w5, w7, w9, w11] <;> rfl) (wpk_sound 3000 ?_) rfl rfl rfl rfl
    simp only [go_sem, Nat.reduceBEq, beq_self_eq_true, List.all_cons, List.all_nil, Value.oneCell', Int.reduceEq, Int.reduceLT, Nat.reduceLeDiff, List.getElem?_toArray, Nat.reduceLT, Nat.reduceAdd, Nat.reduceEqDiff, reduceIte, List.append_nil, List.cons_append, List.nil_append, eq_self, mkClient, w1, w3, w5, w7, w9, w11]
    refine ⟨⟨by omega, by omega⟩, ?_⟩
    refine SEM.loadF 1 (amb_cells 0 rfl hcs) rfl (by simp only [go_sem, Nat.reduceBEq, beq_self_eq_true, List.all_cons, List.all_nil, Value.oneCell', Int.reduceEq, Int.reduceLT, Nat.reduceLeDiff, List.getElem?_toArray, Nat.reduceLT, Nat.reduceAdd, Nat.reduceEqDiff, reduceIte, List.append_nil, List.cons_append, List.nil_append, eq_self, mkClient, w1, w3, w5, w7, w9, w11] <;> rfl) (wpk_sound 3000 ?_) rfl rfl rfl rfl
    simp only [go_sem, Nat.reduceBEq, beq_self_eq_true, List.all_cons, List.all_nil, Value.oneCell', Int.reduceEq, Int.reduceLT, Nat.reduceLeDiff, List.getElem?_toArray, Nat.reduceLT, Nat.reduceAdd, Nat.reduceEqDiff, reduceIte, List.append_nil, List.cons_append, List.nil_append, eq_self, mkClient, w1, w3, w5, w7, w9, w11]
    refine SEM.callR (fun w' hs => heldStringS_c (by omega) (by omega) (RdS.still hrqueue (sat_still 0 hs rfl))) (wpk_sound 3000 ?_) rfl rfl rfl rfl rfl rfl rfl cf23
    simp only [go_sem, Nat.reduceBEq, beq_self_eq_true, List.all_cons, List.all_nil, Value.oneCell', Int.reduceEq, Int.reduceLT, Nat.reduceLeDiff, List.getElem?_toArray, Nat.reduceLT, Nat.reduceAdd, Nat.reduceEqDiff, reduceIte, List.append_nil, List.cons_append, List.nil_append, eq_self, mkClient, w1, w3, w5, w7, w9, w11]
    refine ⟨fun h2 => absurd h2 (by omega), fun h2 => ?_⟩
    refine ⟨⟨by omega, by omega⟩, ?_⟩
    refine SEM.loadF 2 (amb_cells 0 rfl hcs) rfl (by simp only [go_sem, Nat.reduceBEq, beq_self_eq_true, List.all_cons, List.all_nil, Value.oneCell', Int.reduceEq, Int.reduceLT, Nat.reduceLeDiff, List.getElem?_toArray, Nat.reduceLT, Nat.reduceAdd, Nat.reduceEqDiff, reduceIte, List.append_nil, List.cons_append, List.nil_append, eq_self, mkClient, w1, w3, w5, w7, w9, w11] <;> rfl) (wpk_sound 3000 ?_) rfl rfl rfl rfl
    simp only [go_sem, Nat.reduceBEq, beq_self_eq_true, List.all_cons, List.all_nil, Value.oneCell', Int.reduceEq, Int.reduceLT, Nat.reduceLeDiff, List.getElem?_toArray, Nat.reduceLT, Nat.reduceAdd, Nat.reduceEqDiff, reduceIte, List.append_nil, List.cons_append, List.nil_append, eq_self, mkClient, w1, w3, w5, w7, w9, w11]
    refine ⟨⟨by omega, by omega⟩, ?_⟩
    refine SEM.loadF 3 (amb_cells 0 rfl hcs) rfl (by simp only [go_sem, Nat.reduceBEq, beq_self_eq_true, List.all_cons, List.all_nil, Value.oneCell', Int.reduceEq, Int.reduceLT, Nat.reduceLeDiff, List.getElem?_toArray, Nat.reduceLT, Nat.reduceAdd, Nat.reduceEqDiff, reduceIte, List.append_nil, List.cons_append, List.nil_append, eq_self, mkClient, w1, w3, w5, w7, w9, w11] <;> rfl) (wpk_sound 3000 ?_) rfl rfl rfl rfl
    simp only [go_sem, Nat.reduceBEq, beq_self_eq_true, List.all_cons, List.all_nil, Value.oneCell', Int.reduceEq, Int.reduceLT, Nat.reduceLeDiff, List.getElem?_toArray, Nat.reduceLT, Nat.reduceAdd, Nat.reduceEqDiff, reduceIte, List.append_nil, List.cons_append, List.nil_append, eq_self, mkClient, w1, w3, w5, w7, w9, w11]
    refine ⟨⟨by omega, by omega⟩, ?_⟩
    refine SEM.loadF 4 (amb_cells 0 rfl hcs) rfl (by simp only [go_sem, Nat.reduceBEq, beq_self_eq_true, List.all_cons, List.all_nil, Value.oneCell', Int.reduceEq, Int.reduceLT, Nat.reduceLeDiff, List.getElem?_toArray, Nat.reduceLT, Nat.reduceAdd, Nat.reduceEqDiff, reduceIte, List.append_nil, List.cons_append, List.nil_append, eq_self, mkClient, w1, w3, w5, w7, w9, w11] <;> rfl) (wpk_sound 3000 ?_) rfl rfl rfl rfl
    simp only [go_sem, Nat.reduceBEq, beq_self_eq_true, List.all_cons, List.all_nil, Value.oneCell', Int.reduceEq, Int.reduceLT, Nat.reduceLeDiff, List.getElem?_toArray, Nat.reduceLT, Nat.reduceAdd, Nat.reduceEqDiff, reduceIte, List.append_nil, List.cons_append, List.nil_append, eq_self, mkClient, w1, w3, w5, w7, w9, w11]
    refine SEM.callR (fun w' hs => heldCellSS_c (by omega) (by omega) (RdS.still hrscreenrows (sat_still 0 hs rfl))) (wpk_sound 3000 ?_) rfl rfl rfl rfl rfl rfl rfl cf43
    simp only [go_sem, Nat.reduceBEq, beq_self_eq_true, List.all_cons, List.all_nil, Value.oneCell', Int.reduceEq, Int.reduceLT, Nat.reduceLeDiff, List.getElem?_toArray, Nat.reduceLT, Nat.reduceAdd, Nat.reduceEqDiff, reduceIte, List.append_nil, List.cons_append, List.nil_append, eq_self, mkClient, w1, w3, w5, w7, w9, w11]
    refine ⟨fun h2 => absurd h2 (by omega), fun h2 => ?_⟩
    refine ⟨⟨by omega, by omega⟩, ?_⟩
    refine SEM.loadF 5 (amb_cells 0 rfl hcs) rfl (by simp only [go_sem, Nat.reduceBEq, beq_self_eq_true, List.all_cons, List.all_nil, Value.oneCell', Int.reduceEq, Int.reduceLT, Nat.reduceLeDiff, List.getElem?_toArray, Nat.reduceLT, Nat.reduceAdd, Nat.reduceEqDiff, reduceIte, List.append_nil, List.cons_append, List.nil_append, eq_self, mkClient, w1, w3, w5, w7, w9, w11] <;> rfl) (wpk_sound 3000 ?_) rfl rfl rfl rfl
    simp only [go_sem, Nat.reduceBEq, beq_self_eq_true, List.all_cons, List.all_nil, Value.oneCell', Int.reduceEq, Int.reduceLT, Nat.reduceLeDiff, List.getElem?_toArray, Nat.reduceLT, Nat.reduceAdd, Nat.reduceEqDiff, reduceIte, List.append_nil, List.cons_append, List.nil_append, eq_self, mkClient, w1, w3, w5, w7, w9, w11]
    refine ⟨⟨by omega, by omega⟩, ?_⟩
    refine SEM.loadF 6 (amb_cells 0 rfl hcs) rfl (by simp only [go_sem, Nat.reduceBEq, beq_self_eq_true, List.all_cons, List.all_nil, Value.oneCell', Int.reduceEq, Int.reduceLT, Nat.reduceLeDiff, List.getElem?_toArray, Nat.reduceLT, Nat.reduceAdd, Nat.reduceEqDiff, reduceIte, List.append_nil, List.cons_append, List.nil_append, eq_self, mkClient, w1, w3, w5, w7, w9, w11] <;> rfl) (wpk_sound 3000 ?_) rfl rfl rfl rfl
    simp only [go_sem, Nat.reduceBEq, beq_self_eq_true, List.all_cons, List.all_nil, Value.oneCell', Int.reduceEq, Int.reduceLT, Nat.reduceLeDiff, List.getElem?_toArray, Nat.reduceLT, Nat.reduceAdd, Nat.reduceEqDiff, reduceIte, List.append_nil, List.cons_append, List.nil_append, eq_self, mkClient, w1, w3, w5, w7, w9, w11]
    refine ⟨⟨by omega, by omega⟩, ?_⟩
    refine SEM.loadF 7 (amb_cells 0 rfl hcs) rfl (by simp only [go_sem, Nat.reduceBEq, beq_self_eq_true, List.all_cons, List.all_nil, Value.oneCell', Int.reduceEq, Int.reduceLT, Nat.reduceLeDiff, List.getElem?_toArray, Nat.reduceLT, Nat.reduceAdd, Nat.reduceEqDiff, reduceIte, List.append_nil, List.cons_append, List.nil_append, eq_self, mkClient, w1, w3, w5, w7, w9, w11] <;> rfl) (wpk_sound 3000 ?_) rfl rfl rfl rfl
    simp only [go_sem, Nat.reduceBEq, beq_self_eq_true, List.all_cons, List.all_nil, Value.oneCell', Int.reduceEq, Int.reduceLT, Nat.reduceLeDiff, List.getElem?_toArray, Nat.reduceLT, Nat.reduceAdd, Nat.reduceEqDiff, reduceIte, List.append_nil, List.cons_append, List.nil_append, eq_self, mkClient, w1, w3, w5, w7, w9, w11]
    refine SEM.callR (fun w' hs => heldInt64S_c (by omega) (by omega) (RdS.still hrwindowseen (sat_still 0 hs rfl))) (wpk_sound 3000 ?_) rfl rfl rfl rfl rfl rfl rfl cf44
    simp only [go_sem, Nat.reduceBEq, beq_self_eq_true, List.all_cons, List.all_nil, Value.oneCell', Int.reduceEq, Int.reduceLT, Nat.reduceLeDiff, List.getElem?_toArray, Nat.reduceLT, Nat.reduceAdd, Nat.reduceEqDiff, reduceIte, List.append_nil, List.cons_append, List.nil_append, eq_self, mkClient, w1, w3, w5, w7, w9, w11]
    refine ⟨fun h2 => absurd h2 (by omega), fun h2 => ?_⟩
    refine ⟨⟨by omega, by omega⟩, ?_⟩
    refine SEM.loadF 8 (amb_cells 0 rfl hcs) rfl (by simp only [go_sem, Nat.reduceBEq, beq_self_eq_true, List.all_cons, List.all_nil, Value.oneCell', Int.reduceEq, Int.reduceLT, Nat.reduceLeDiff, List.getElem?_toArray, Nat.reduceLT, Nat.reduceAdd, Nat.reduceEqDiff, reduceIte, List.append_nil, List.cons_append, List.nil_append, eq_self, mkClient, w1, w3, w5, w7, w9, w11] <;> rfl) (wpk_sound 3000 ?_) rfl rfl rfl rfl
    simp only [go_sem, Nat.reduceBEq, beq_self_eq_true, List.all_cons, List.all_nil, Value.oneCell', Int.reduceEq, Int.reduceLT, Nat.reduceLeDiff, List.getElem?_toArray, Nat.reduceLT, Nat.reduceAdd, Nat.reduceEqDiff, reduceIte, List.append_nil, List.cons_append, List.nil_append, eq_self, mkClient, w1, w3, w5, w7, w9, w11]
    have hi1 : IntKind.i64.wrap ((i : Int) + 1) = ((i + 1 : Nat) : Int) := w64 (by omega) (by omega)
    refine ⟨⟨i + 1, by omega⟩, [], ?_, rfl, by simp [okL], Ent.refl _, by simp only; omega⟩
    simp only [subE, get_cons, Nat.reduceEqDiff, reduceIte, hi1, hK, and_true, true_and, Int.natCast_add, ← Int.add_assoc, ← hKd]
    rw [show K + 1 + (cntL cT xs[i].queue : Nat) + 1 + 1 + (cntL (fun y => cntL cCell y) xs[i].screen.rows : Nat) + 1 + 1 + (cntL cI xs[i].window.seen : Nat) + 1 = K + (cClient xs[i] : Nat) from by simp only [cClient]; omega]
  · refine wpk_sound 1000 ?_
    simp only [go_sem, Nat.reduceBEq, beq_self_eq_true, List.all_cons, List.all_nil, Value.oneCell', Int.reduceEq, Int.reduceLT, Nat.reduceLeDiff, List.getElem?_toArray, Nat.reduceLT, Nat.reduceAdd, Nat.reduceEqDiff, reduceIte]
    refine ⟨fun h1 => absurd h1 (by omega), fun h1 => ?_⟩
    exact ret_fact (i := 0) rfl (by rw [List.take_of_length_le (by omega)])
theorem heldDatagramS_c {w : World} {v : Value} {xs : List SDatagram} {k : Int} (h0 : 0 ≤ k) (hb : k + (cntL cDatagram xs : Nat) ≤ 4611686018427387904) (hv : RdS kDatagram w v (mkL mkDatagram cDatagram xs k)) : RFn Try.prog 24 [v, .int .i64 k] w (.int .i64 (k + (cntL cDatagram xs : Nat))) := by
  have hv' := hv
  obtain ⟨A, c, rfl, ⟨hc, hm⟩, -⟩ := hv'
  rw [mkL_len] at hv hc hm ⊢
  refine RFn.run 1000 Try.func24 Try.ntmps24 rfl rfl (by simp) ?_
  simp only [go_sem, Nat.reduceBEq, beq_self_eq_true, List.all_cons, List.all_nil, Value.oneCell', Int.reduceEq, Int.reduceLT, Nat.reduceLeDiff, List.getElem?_toArray, Nat.reduceLT, Nat.reduceAdd, Nat.reduceEqDiff, reduceIte]
  refine SEM.loopI (X := { i : Nat // i ≤ xs.length }) (fun x => [(0, .v (.slice A xs.length c)), (1, .v (.int .i64 (k + (cntL cDatagram (xs.take x.1) : Nat)))), (5, .v (.int .i64 x.1))]) (fun _ => []) (fun x => [amb w]) (fun x => xs.length - x.1) ⟨0, by omega⟩ (by simp [subE, Env.get, cntL]) ⟨[], by simp⟩ (by simp [okL]) (Ent.refl _) ?_
  rintro ⟨i, hi⟩
  by_cases hx : i < xs.length
  · obtain ⟨ad, cs, rfl, hr, hcs⟩ := hv.at' (i := i) (by rw [mkL_len]; exact hx)
    rw [mkL_at _ _ _ _ _ hx] at hr
    have hK := cntL_take cDatagram xs i hx
    have hle := cntL_le cDatagram xs (i + 1)
    obtain ⟨K, hKd⟩ : ∃ K, K = k + (cntL cDatagram (xs.take i) : Nat) := ⟨_, rfl⟩
    rw [← hKd] at hr
    rw [← hKd]
    have hb' : K + (cDatagram xs[i] : Nat) ≤ 4611686018427387904 := by (try simp only [] at hK); (try simp only []); omega
    have hK0 : 0 ≤ K := by omega
    simp only [cDatagram] at hb'
    obtain rfl := hr
    have w1 : IntKind.i64.wrap (K + 1) = K + 1 := w64 (by omega) (by omega)
    have w3 : IntKind.i64.wrap (K + 1 + 1) = K + 1 + 1 := w64 (by omega) (by omega)
    refine wpk_sound 3000 ?_
    simp only [go_sem, Nat.reduceBEq, beq_self_eq_true, List.all_cons, List.all_nil, Value.oneCell', Int.reduceEq, Int.reduceLT, Nat.reduceLeDiff, List.getElem?_toArray, Nat.reduceLT, Nat.reduceAdd, Nat.reduceEqDiff, reduceIte, List.append_nil, List.cons_append, List.nil_append, eq_self, mkDatagram, w1, w3]
    refine ⟨fun h1 => ?_, fun h1 => absurd (show (i : Int) < xs.length by omega) h1⟩
    refine ⟨⟨by omega, by omega⟩, ?_⟩
    refine SEM.loadF 0 (amb_cells 0 rfl hcs) rfl (by simp only [go_sem, Nat.reduceBEq, beq_self_eq_true, List.all_cons, List.all_nil, Value.oneCell', Int.reduceEq, Int.reduceLT, Nat.reduceLeDiff, List.getElem?_toArray, Nat.reduceLT, Nat.reduceAdd, Nat.reduceEqDiff, reduceIte, List.append_nil, List.cons_append, List.nil_append, eq_self, mkDatagram, w1, w3] <;> rfl) (wpk_sound 3000 ?_) rfl rfl rfl rfl
    simp only [go_sem, Nat.reduceBEq, beq_self_eq_true, List.all_cons, List.all_nil, Value.oneCell', Int.reduceEq, Int.reduceLT, Nat.reduceLeDiff, List.getElem?_toArray, Nat.reduceLT, Nat.reduceAdd, Nat.reduceEqDiff, reduceIte, List.append_nil, List.cons_append, List.nil_append, eq_self, mkDatagram, w1, w3]
    refine SEM.drawW 3000 mixed rfl ?_
    simp only [go_sem, Nat.reduceBEq, beq_self_eq_true, List.all_cons, List.all_nil, Value.oneCell', Int.reduceEq, Int.reduceLT, Nat.reduceLeDiff, List.getElem?_toArray, Nat.reduceLT, Nat.reduceAdd, Nat.reduceEqDiff, reduceIte, List.append_nil, List.cons_append, List.nil_append, eq_self, mkDatagram, w1, w3]
    refine ⟨⟨by omega, by omega⟩, ?_⟩
    refine QG.loadF 3000 1 (amb_cells 0 rfl hcs) rfl (by simp only [go_sem, Nat.reduceBEq, beq_self_eq_true, List.all_cons, List.all_nil, Value.oneCell', Int.reduceEq, Int.reduceLT, Nat.reduceLeDiff, List.getElem?_toArray, Nat.reduceLT, Nat.reduceAdd, Nat.reduceEqDiff, reduceIte, List.append_nil, List.cons_append, List.nil_append, eq_self, mkDatagram, w1, w3] <;> rfl) ?_ rfl rfl
    simp only [go_sem, Nat.reduceBEq, beq_self_eq_true, List.all_cons, List.all_nil, Value.oneCell', Int.reduceEq, Int.reduceLT, Nat.reduceLeDiff, List.getElem?_toArray, Nat.reduceLT, Nat.reduceAdd, Nat.reduceEqDiff, reduceIte, List.append_nil, List.cons_append, List.nil_append, eq_self, mkDatagram, w1, w3]
    refine QG.callP 3000 (markText_c (by omega)) ?_ rfl rfl rfl rfl rfl cf39
    simp only [go_sem, Nat.reduceBEq, beq_self_eq_true, List.all_cons, List.all_nil, Value.oneCell', Int.reduceEq, Int.reduceLT, Nat.reduceLeDiff, List.getElem?_toArray, Nat.reduceLT, Nat.reduceAdd, Nat.reduceEqDiff, reduceIte, List.append_nil, List.cons_append, List.nil_append, eq_self, mkDatagram, w1, w3]
    have hi1 : IntKind.i64.wrap ((i : Int) + 1) = ((i + 1 : Nat) : Int) := w64 (by omega) (by omega)
    refine ⟨⟨i + 1, by omega⟩, [], ?_, rfl, by simp [okL], Ent.refl _, by simp only; omega⟩
    simp only [subE, get_cons, Nat.reduceEqDiff, reduceIte, hi1, hK, and_true, true_and, Int.natCast_add, ← Int.add_assoc, ← hKd]
    rw [show K + 1 + 1 = K + (cDatagram xs[i] : Nat) from by simp only [cDatagram]; omega]
  · refine wpk_sound 1000 ?_
    simp only [go_sem, Nat.reduceBEq, beq_self_eq_true, List.all_cons, List.all_nil, Value.oneCell', Int.reduceEq, Int.reduceLT, Nat.reduceLeDiff, List.getElem?_toArray, Nat.reduceLT, Nat.reduceAdd, Nat.reduceEqDiff, reduceIte]
    refine ⟨fun h1 => absurd h1 (by omega), fun h1 => ?_⟩
    exact ret_fact (i := 0) rfl (by rw [List.take_of_length_le (by omega)])
theorem heldWorld_c {w : World} {cs : List Value} {x : SWorld} {k : Int} (h0 : 0 ≤ k) (hb : k + (cvWorld x : Nat) ≤ 4611686018427387904) (hr : kWorld.rd w (mkvWorld x k) cs) : RFn Try.prog 8 [.agg cs.toArray, .int .i64 k] w (.int .i64 (k + (cvWorld x : Nat))) := by
  simp only [cvWorld] at hb
  obtain ⟨_, _, rfl, hrchain, _, _, rfl, ⟨_, rfl, hrclients⟩, _, _, rfl, ⟨_, rfl, hrnet⟩, _, _, rfl, ⟨_, rfl, hrframes⟩, rfl⟩ := hr
  have hrchain_ := hrchain
  obtain ⟨_, _, rfl, ⟨_, rfl, hrchainservers⟩, _, _, rfl, ⟨_, rfl, hrchaindown⟩, _, _, rfl, ⟨_, rfl, hrchainup⟩, rfl⟩ := hrchain
  refine RFn.run 3000 Try.func8 Try.ntmps8 rfl rfl (by simp) ?_
  simp only [go_sem, Nat.reduceBEq, beq_self_eq_true, List.all_cons, List.all_nil, Value.oneCell', Int.reduceEq, Int.reduceLT, Nat.reduceLeDiff, List.getElem?_toArray, Nat.reduceLT, Nat.reduceAdd, Nat.reduceEqDiff, reduceIte, List.append_nil, List.cons_append, List.nil_append]
  intro b0
  refine SEM.callR (fun w' hs => heldChain_c (by omega) (by omega) (kChain.keep hrchain_ (sat_still 0 hs rfl))) (wpk_sound 3000 ?_) rfl rfl rfl rfl rfl rfl rfl cf21
  simp only [go_sem, Nat.reduceBEq, beq_self_eq_true, List.all_cons, List.all_nil, Value.oneCell', Int.reduceEq, Int.reduceLT, Nat.reduceLeDiff, List.getElem?_toArray, Nat.reduceLT, Nat.reduceAdd, Nat.reduceEqDiff, reduceIte, List.append_nil, List.cons_append, List.nil_append]
  refine ⟨fun h2 => absurd h2 (by omega), fun h2 => ?_⟩
  refine SEM.callR (fun w' hs => heldClientS_c (by omega) (by omega) (RdS.still hrclients (sat_still 0 hs rfl))) (wpk_sound 3000 ?_) rfl rfl rfl rfl rfl rfl rfl cf22
  simp only [go_sem, Nat.reduceBEq, beq_self_eq_true, List.all_cons, List.all_nil, Value.oneCell', Int.reduceEq, Int.reduceLT, Nat.reduceLeDiff, List.getElem?_toArray, Nat.reduceLT, Nat.reduceAdd, Nat.reduceEqDiff, reduceIte, List.append_nil, List.cons_append, List.nil_append]
  refine ⟨fun h2 => absurd h2 (by omega), fun h2 => ?_⟩
  refine SEM.callR (fun w' hs => heldStringS_c (by omega) (by omega) (RdS.still hrnet (sat_still 0 hs rfl))) (wpk_sound 3000 ?_) rfl rfl rfl rfl rfl rfl rfl cf23
  simp only [go_sem, Nat.reduceBEq, beq_self_eq_true, List.all_cons, List.all_nil, Value.oneCell', Int.reduceEq, Int.reduceLT, Nat.reduceLeDiff, List.getElem?_toArray, Nat.reduceLT, Nat.reduceAdd, Nat.reduceEqDiff, reduceIte, List.append_nil, List.cons_append, List.nil_append]
  refine ⟨fun h2 => absurd h2 (by omega), fun h2 => ?_⟩
  refine SEM.callR (fun w' hs => heldDatagramS_c (by omega) (by omega) (RdS.still hrframes (sat_still 0 hs rfl))) (wpk_sound 3000 ?_) rfl rfl rfl rfl rfl rfl rfl cf24
  simp only [go_sem, Nat.reduceBEq, beq_self_eq_true, List.all_cons, List.all_nil, Value.oneCell', Int.reduceEq, Int.reduceLT, Nat.reduceLeDiff, List.getElem?_toArray, Nat.reduceLT, Nat.reduceAdd, Nat.reduceEqDiff, reduceIte, List.append_nil, List.cons_append, List.nil_append]
  refine ⟨fun h2 => absurd h2 (by omega), fun h2 => ?_⟩
  exact ret_fact (i := 0) rfl (by simp only [cvWorld]; congr 1; omega)
end Go.Proofs.Ytfdhfnoljejkkaa
