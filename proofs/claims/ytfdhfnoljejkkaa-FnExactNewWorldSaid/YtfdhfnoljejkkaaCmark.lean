/-
  What functions of the program do, each once. Printed by my programs con.py and fam.py for seat Ytfdhfnoljejkkaa.
-/
import Derived.Test.YtfdhfnoljejkkaaCtext
set_option linter.unusedVariables false
set_option linter.unusedSimpArgs false
namespace Go.Proofs.Ytfdhfnoljejkkaa
open Go Go.Sep Classical
theorem markInt64S_c {v : Value} {xs : List Int} {k : Int} (h0 : 0 ≤ k) (hb : k + (cntL cI xs : Nat) ≤ 4611686018427387904) : Go.Sep.Fn Try.prog 38 [v, .int .i64 k] (OwnS kI v xs) (fun r => star (fact (r = .int .i64 (k + (cntL cI xs : Nat)))) (OwnS kI v (mkL mkI cI xs k))) := by
  refine Go.Sep.Fn.ownS1 fun A c hv hc hm hA => ?_
  subst hv
  refine Go.Sep.Fn.run1 1000 Try.func38 Try.ntmps38 rfl rfl (by simp) ?_
  simp only [go_sem, Nat.reduceBEq, beq_self_eq_true, List.all_cons, List.all_nil, Value.oneCell', Int.reduceEq, Int.reduceLT, Nat.reduceLeDiff, List.getElem?_toArray, Nat.reduceLT, Nat.reduceAdd, Nat.reduceEqDiff, reduceIte]
  refine SEM.loopI (X := { i : Nat // i ≤ xs.length }) (fun x => [(0, .v (.slice A xs.length c)), (1, .v (.int .i64 (k + (cntL cI (xs.take x.1) : Nat)))), (5, .v (.int .i64 x.1))]) (fun _ => []) (fun x => [OwnS kI (.slice A xs.length c) (mkTo mkI cI xs k x.1)]) (fun x => xs.length - x.1) ⟨0, by omega⟩ (by simp [subE, Env.get, cntL]) ⟨[], by simp⟩ (by simp [okL]) (by rw [mkTo_zero]; exact Ent.refl _) ?_
  rintro ⟨i, hi⟩
  by_cases hx : i < xs.length
  · obtain ⟨ad, rfl⟩ := hA (by omega)
    have hK := cntL_take cI xs i hx
    have hle := cntL_le cI xs (i + 1)
    rw [mkTo_at _ _ _ _ _ hx]
    obtain ⟨K, hKd⟩ : ∃ K, K = k + (cntL cI (xs.take i) : Nat) := ⟨_, rfl⟩
    rw [← hKd]
    have hlen : xs.length = (mkL mkI cI (xs.take i) k).length + 1 + (xs.drop (i + 1)).length := by rw [mkL_len]; simp; omega
    have hb' : K + (cI xs[i] : Nat) ≤ 4611686018427387904 := by (try simp only [] at hK); (try simp only []); omega
    have hK0 : 0 ≤ K := by omega
    simp only [cI] at hb'
    refine SEM.takeOut hlen fun P' c' Q' hP => ?_
    have hP' : P'.length = i * 1 := by rw [hP, mkL_len]; simp only [List.length_take, Nat.min_eq_left hi]; rfl
    refine SEM.openFact fun e0 => ?_
    subst e0
    have w0 : IntKind.i64.wrap (K) = K := w64 (by omega) (by omega)
    have w1 : IntKind.i64.wrap (K + 1) = K + 1 := w64 (by omega) (by omega)
    refine wpk_sound 3000 ?_
    simp only [go_sem, Nat.reduceBEq, beq_self_eq_true, List.all_cons, List.all_nil, Value.oneCell', Int.reduceEq, Int.reduceLT, Nat.reduceLeDiff, List.getElem?_toArray, Nat.reduceLT, Nat.reduceAdd, Nat.reduceEqDiff, reduceIte, List.append_nil, List.cons_append, List.nil_append, List.set_cons_zero, List.eraseIdx_cons_zero, List.eraseIdx_cons_succ, w0, w1]
    refine ⟨fun h1 => ?_, fun h1 => absurd (show (i : Int) < xs.length by omega) h1⟩
    refine ⟨⟨by omega, by omega⟩, ?_⟩
    refine SEM.storeF (P' := P') (Q' := Q') 0 0 rfl (by omega) (by simp only [go_sem, Nat.reduceBEq, beq_self_eq_true, List.all_cons, List.all_nil, Value.oneCell', Int.reduceEq, Int.reduceLT, Nat.reduceLeDiff, List.getElem?_toArray, Nat.reduceLT, Nat.reduceAdd, Nat.reduceEqDiff, reduceIte, List.append_nil, List.cons_append, List.nil_append] <;> rfl) (by simp [Value.cells]) (wpk_sound 3000 ?_) rfl rfl rfl rfl rfl rfl
    simp only [go_sem, Nat.reduceBEq, beq_self_eq_true, List.all_cons, List.all_nil, Value.oneCell', Int.reduceEq, Int.reduceLT, Nat.reduceLeDiff, List.getElem?_toArray, Nat.reduceLT, Nat.reduceAdd, Nat.reduceEqDiff, reduceIte, List.append_nil, List.cons_append, List.nil_append, List.set_cons_zero, List.eraseIdx_cons_zero, List.eraseIdx_cons_succ, w0, w1]
    have hi1 : IntKind.i64.wrap ((i : Int) + 1) = ((i + 1 : Nat) : Int) := w64 (by omega) (by omega)
    refine ⟨⟨i + 1, by omega⟩, [], ?_, rfl, by simp [okL], ?_, by simp only; omega⟩
    · simp only [subE, get_cons, Nat.reduceEqDiff, reduceIte, hi1, hK, and_true, true_and, Int.natCast_add, ← Int.add_assoc, ← hKd]
      rw [show K + 1 = K + (cI xs[i] : Nat) from by simp only [cI]; omega]
    · simp only []
      rw [mkTo_succ _ _ _ _ _ hx, ← hKd]
      refine Ent.trans ?_ (Ent.empr _)
      refine OwnS.close (P' := P') (Q' := Q') 0 rfl hlen ?_
      simp only [List.eraseIdx_cons_zero, List.eraseIdx_cons_succ]
      refine Ent.pick 0 rfl (Ent.refl _) ?_
      simp only [List.eraseIdx_cons_zero, List.eraseIdx_cons_succ]
      exact ent_fact rfl
  · refine wpk_sound 1000 ?_
    simp only [go_sem, Nat.reduceBEq, beq_self_eq_true, List.all_cons, List.all_nil, Value.oneCell', Int.reduceEq, Int.reduceLT, Nat.reduceLeDiff, List.getElem?_toArray, Nat.reduceLT, Nat.reduceAdd, Nat.reduceEqDiff, reduceIte]
    refine ⟨fun h1 => absurd h1 (by omega), fun h1 => ?_⟩
    refine Ent.stL ?_
    rw [mkTo_all _ _ _ _ _ (by omega), List.take_of_length_le (by omega)]
    exact Ent.ofact rfl Ent.done
theorem markCellS_c {v : Value} {xs : List SCell} {k : Int} (h0 : 0 ≤ k) (hb : k + (cntL cCell xs : Nat) ≤ 4611686018427387904) : Go.Sep.Fn Try.prog 51 [v, .int .i64 k] (OwnS kCell v xs) (fun r => star (fact (r = .int .i64 (k + (cntL cCell xs : Nat)))) (OwnS kCell v (mkL mkCell cCell xs k))) := by
  refine Go.Sep.Fn.ownS1 fun A c hv hc hm hA => ?_
  subst hv
  refine Go.Sep.Fn.run1 1000 Try.func51 Try.ntmps51 rfl rfl (by simp) ?_
  simp only [go_sem, Nat.reduceBEq, beq_self_eq_true, List.all_cons, List.all_nil, Value.oneCell', Int.reduceEq, Int.reduceLT, Nat.reduceLeDiff, List.getElem?_toArray, Nat.reduceLT, Nat.reduceAdd, Nat.reduceEqDiff, reduceIte]
  refine SEM.loopI (X := { i : Nat // i ≤ xs.length }) (fun x => [(0, .v (.slice A xs.length c)), (1, .v (.int .i64 (k + (cntL cCell (xs.take x.1) : Nat)))), (5, .v (.int .i64 x.1))]) (fun _ => []) (fun x => [OwnS kCell (.slice A xs.length c) (mkTo mkCell cCell xs k x.1)]) (fun x => xs.length - x.1) ⟨0, by omega⟩ (by simp [subE, Env.get, cntL]) ⟨[], by simp⟩ (by simp [okL]) (by rw [mkTo_zero]; exact Ent.refl _) ?_
  rintro ⟨i, hi⟩
  by_cases hx : i < xs.length
  · obtain ⟨ad, rfl⟩ := hA (by omega)
    have hK := cntL_take cCell xs i hx
    have hle := cntL_le cCell xs (i + 1)
    rw [mkTo_at _ _ _ _ _ hx]
    obtain ⟨K, hKd⟩ : ∃ K, K = k + (cntL cCell (xs.take i) : Nat) := ⟨_, rfl⟩
    rw [← hKd]
    have hlen : xs.length = (mkL mkCell cCell (xs.take i) k).length + 1 + (xs.drop (i + 1)).length := by rw [mkL_len]; simp; omega
    have hb' : K + (cCell xs[i] : Nat) ≤ 4611686018427387904 := by (try simp only [] at hK); (try simp only []); omega
    have hK0 : 0 ≤ K := by omega
    simp only [cCell] at hb'
    refine SEM.takeOut hlen fun P' c' Q' hP => ?_
    have hP' : P'.length = i * 7 := by rw [hP, mkL_len]; simp only [List.length_take, Nat.min_eq_left hi]; rfl
    refine SEM.openFact fun e0 => ?_
    subst e0
    have w0 : IntKind.i64.wrap (K) = K := w64 (by omega) (by omega)
    have w1 : IntKind.i64.wrap (K + 1) = K + 1 := w64 (by omega) (by omega)
    have w2 : IntKind.i64.wrap (K + 1) = K + 1 := w64 (by omega) (by omega)
    have w3 : IntKind.i64.wrap (K + 1 + 1) = K + 1 + 1 := w64 (by omega) (by omega)
    have w4 : IntKind.i64.wrap (K + 1 + 1) = K + 1 + 1 := w64 (by omega) (by omega)
    have w5 : IntKind.i64.wrap (K + 1 + 1 + 1) = K + 1 + 1 + 1 := w64 (by omega) (by omega)
    have w6 : IntKind.i64.wrap (K + 1 + 1 + 1) = K + 1 + 1 + 1 := w64 (by omega) (by omega)
    have w7 : IntKind.i64.wrap (K + 1 + 1 + 1 + 1) = K + 1 + 1 + 1 + 1 := w64 (by omega) (by omega)
    have w8 : IntKind.i64.wrap (K + 1 + 1 + 1 + 1) = K + 1 + 1 + 1 + 1 := w64 (by omega) (by omega)
    have w9 : IntKind.i64.wrap (K + 1 + 1 + 1 + 1 + 1) = K + 1 + 1 + 1 + 1 + 1 := w64 (by omega) (by omega)
    have w10 : IntKind.i64.wrap (K + 1 + 1 + 1 + 1 + 1) = K + 1 + 1 + 1 + 1 + 1 := w64 (by omega) (by omega)
    have w11 : IntKind.i64.wrap (K + 1 + 1 + 1 + 1 + 1 + 1) = K + 1 + 1 + 1 + 1 + 1 + 1 := w64 (by omega) (by omega)
    have w12 : IntKind.i64.wrap (K + 1 + 1 + 1 + 1 + 1 + 1) = K + 1 + 1 + 1 + 1 + 1 + 1 := w64 (by omega) (by omega)
    have w13 : IntKind.i64.wrap (K + 1 + 1 + 1 + 1 + 1 + 1 + 1) = K + 1 + 1 + 1 + 1 + 1 + 1 + 1 := w64 (by omega) (by omega)
    refine wpk_sound 3000 ?_
    simp only [go_sem, Nat.reduceBEq, beq_self_eq_true, List.all_cons, List.all_nil, Value.oneCell', Int.reduceEq, Int.reduceLT, Nat.reduceLeDiff, List.getElem?_toArray, Nat.reduceLT, Nat.reduceAdd, Nat.reduceEqDiff, reduceIte, List.append_nil, List.cons_append, List.nil_append, List.set_cons_zero, List.eraseIdx_cons_zero, List.eraseIdx_cons_succ, w0, w1, w2, w3, w4, w5, w6, w7, w8, w9, w10, w11, w12, w13]
    refine ⟨fun h1 => ?_, fun h1 => absurd (show (i : Int) < xs.length by omega) h1⟩
    refine ⟨⟨by omega, by omega⟩, ?_⟩
    refine SEM.storeF (P' := P') (Q' := Q') 0 0 rfl (by omega) (by simp only [go_sem, Nat.reduceBEq, beq_self_eq_true, List.all_cons, List.all_nil, Value.oneCell', Int.reduceEq, Int.reduceLT, Nat.reduceLeDiff, List.getElem?_toArray, Nat.reduceLT, Nat.reduceAdd, Nat.reduceEqDiff, reduceIte, List.append_nil, List.cons_append, List.nil_append] <;> rfl) (by simp [Value.cells]) (wpk_sound 3000 ?_) rfl rfl rfl rfl rfl rfl
    simp only [go_sem, Nat.reduceBEq, beq_self_eq_true, List.all_cons, List.all_nil, Value.oneCell', Int.reduceEq, Int.reduceLT, Nat.reduceLeDiff, List.getElem?_toArray, Nat.reduceLT, Nat.reduceAdd, Nat.reduceEqDiff, reduceIte, List.append_nil, List.cons_append, List.nil_append, List.set_cons_zero, List.eraseIdx_cons_zero, List.eraseIdx_cons_succ, w0, w1, w2, w3, w4, w5, w6, w7, w8, w9, w10, w11, w12, w13]
    refine ⟨⟨by omega, by omega⟩, ?_⟩
    refine SEM.storeF (P' := P') (Q' := Q') 0 1 rfl (by omega) (by simp only [go_sem, Nat.reduceBEq, beq_self_eq_true, List.all_cons, List.all_nil, Value.oneCell', Int.reduceEq, Int.reduceLT, Nat.reduceLeDiff, List.getElem?_toArray, Nat.reduceLT, Nat.reduceAdd, Nat.reduceEqDiff, reduceIte, List.append_nil, List.cons_append, List.nil_append] <;> rfl) (by simp [Value.cells]) (wpk_sound 3000 ?_) rfl rfl rfl rfl rfl rfl
    simp only [go_sem, Nat.reduceBEq, beq_self_eq_true, List.all_cons, List.all_nil, Value.oneCell', Int.reduceEq, Int.reduceLT, Nat.reduceLeDiff, List.getElem?_toArray, Nat.reduceLT, Nat.reduceAdd, Nat.reduceEqDiff, reduceIte, List.append_nil, List.cons_append, List.nil_append, List.set_cons_zero, List.eraseIdx_cons_zero, List.eraseIdx_cons_succ, w0, w1, w2, w3, w4, w5, w6, w7, w8, w9, w10, w11, w12, w13]
    refine ⟨⟨by omega, by omega⟩, ?_⟩
    refine SEM.storeF (P' := P') (Q' := Q') 0 2 rfl (by omega) (by simp only [go_sem, Nat.reduceBEq, beq_self_eq_true, List.all_cons, List.all_nil, Value.oneCell', Int.reduceEq, Int.reduceLT, Nat.reduceLeDiff, List.getElem?_toArray, Nat.reduceLT, Nat.reduceAdd, Nat.reduceEqDiff, reduceIte, List.append_nil, List.cons_append, List.nil_append] <;> rfl) (by simp [Value.cells]) (wpk_sound 3000 ?_) rfl rfl rfl rfl rfl rfl
    simp only [go_sem, Nat.reduceBEq, beq_self_eq_true, List.all_cons, List.all_nil, Value.oneCell', Int.reduceEq, Int.reduceLT, Nat.reduceLeDiff, List.getElem?_toArray, Nat.reduceLT, Nat.reduceAdd, Nat.reduceEqDiff, reduceIte, List.append_nil, List.cons_append, List.nil_append, List.set_cons_zero, List.eraseIdx_cons_zero, List.eraseIdx_cons_succ, w0, w1, w2, w3, w4, w5, w6, w7, w8, w9, w10, w11, w12, w13]
    refine ⟨⟨by omega, by omega⟩, ?_⟩
    refine SEM.storeF (P' := P') (Q' := Q') 0 3 rfl (by omega) (by simp only [go_sem, Nat.reduceBEq, beq_self_eq_true, List.all_cons, List.all_nil, Value.oneCell', Int.reduceEq, Int.reduceLT, Nat.reduceLeDiff, List.getElem?_toArray, Nat.reduceLT, Nat.reduceAdd, Nat.reduceEqDiff, reduceIte, List.append_nil, List.cons_append, List.nil_append] <;> rfl) (by simp [Value.cells]) (wpk_sound 3000 ?_) rfl rfl rfl rfl rfl rfl
    simp only [go_sem, Nat.reduceBEq, beq_self_eq_true, List.all_cons, List.all_nil, Value.oneCell', Int.reduceEq, Int.reduceLT, Nat.reduceLeDiff, List.getElem?_toArray, Nat.reduceLT, Nat.reduceAdd, Nat.reduceEqDiff, reduceIte, List.append_nil, List.cons_append, List.nil_append, List.set_cons_zero, List.eraseIdx_cons_zero, List.eraseIdx_cons_succ, w0, w1, w2, w3, w4, w5, w6, w7, w8, w9, w10, w11, w12, w13]
    refine ⟨⟨by omega, by omega⟩, ?_⟩
    refine SEM.storeF (P' := P') (Q' := Q') 0 4 rfl (by omega) (by simp only [go_sem, Nat.reduceBEq, beq_self_eq_true, List.all_cons, List.all_nil, Value.oneCell', Int.reduceEq, Int.reduceLT, Nat.reduceLeDiff, List.getElem?_toArray, Nat.reduceLT, Nat.reduceAdd, Nat.reduceEqDiff, reduceIte, List.append_nil, List.cons_append, List.nil_append] <;> rfl) (by simp [Value.cells]) (wpk_sound 3000 ?_) rfl rfl rfl rfl rfl rfl
    simp only [go_sem, Nat.reduceBEq, beq_self_eq_true, List.all_cons, List.all_nil, Value.oneCell', Int.reduceEq, Int.reduceLT, Nat.reduceLeDiff, List.getElem?_toArray, Nat.reduceLT, Nat.reduceAdd, Nat.reduceEqDiff, reduceIte, List.append_nil, List.cons_append, List.nil_append, List.set_cons_zero, List.eraseIdx_cons_zero, List.eraseIdx_cons_succ, w0, w1, w2, w3, w4, w5, w6, w7, w8, w9, w10, w11, w12, w13]
    refine ⟨⟨by omega, by omega⟩, ?_⟩
    refine SEM.storeF (P' := P') (Q' := Q') 0 5 rfl (by omega) (by simp only [go_sem, Nat.reduceBEq, beq_self_eq_true, List.all_cons, List.all_nil, Value.oneCell', Int.reduceEq, Int.reduceLT, Nat.reduceLeDiff, List.getElem?_toArray, Nat.reduceLT, Nat.reduceAdd, Nat.reduceEqDiff, reduceIte, List.append_nil, List.cons_append, List.nil_append] <;> rfl) (by simp [Value.cells]) (wpk_sound 3000 ?_) rfl rfl rfl rfl rfl rfl
    simp only [go_sem, Nat.reduceBEq, beq_self_eq_true, List.all_cons, List.all_nil, Value.oneCell', Int.reduceEq, Int.reduceLT, Nat.reduceLeDiff, List.getElem?_toArray, Nat.reduceLT, Nat.reduceAdd, Nat.reduceEqDiff, reduceIte, List.append_nil, List.cons_append, List.nil_append, List.set_cons_zero, List.eraseIdx_cons_zero, List.eraseIdx_cons_succ, w0, w1, w2, w3, w4, w5, w6, w7, w8, w9, w10, w11, w12, w13]
    refine ⟨⟨by omega, by omega⟩, ?_⟩
    refine SEM.storeF (P' := P') (Q' := Q') 0 6 rfl (by omega) (by simp only [go_sem, Nat.reduceBEq, beq_self_eq_true, List.all_cons, List.all_nil, Value.oneCell', Int.reduceEq, Int.reduceLT, Nat.reduceLeDiff, List.getElem?_toArray, Nat.reduceLT, Nat.reduceAdd, Nat.reduceEqDiff, reduceIte, List.append_nil, List.cons_append, List.nil_append] <;> rfl) (by simp [Value.cells]) (wpk_sound 3000 ?_) rfl rfl rfl rfl rfl rfl
    simp only [go_sem, Nat.reduceBEq, beq_self_eq_true, List.all_cons, List.all_nil, Value.oneCell', Int.reduceEq, Int.reduceLT, Nat.reduceLeDiff, List.getElem?_toArray, Nat.reduceLT, Nat.reduceAdd, Nat.reduceEqDiff, reduceIte, List.append_nil, List.cons_append, List.nil_append, List.set_cons_zero, List.eraseIdx_cons_zero, List.eraseIdx_cons_succ, w0, w1, w2, w3, w4, w5, w6, w7, w8, w9, w10, w11, w12, w13]
    have hi1 : IntKind.i64.wrap ((i : Int) + 1) = ((i + 1 : Nat) : Int) := w64 (by omega) (by omega)
    refine ⟨⟨i + 1, by omega⟩, [], ?_, rfl, by simp [okL], ?_, by simp only; omega⟩
    · simp only [subE, get_cons, Nat.reduceEqDiff, reduceIte, hi1, hK, and_true, true_and, Int.natCast_add, ← Int.add_assoc, ← hKd]
      rw [show K + 1 + 1 + 1 + 1 + 1 + 1 + 1 = K + (cCell xs[i] : Nat) from by simp only [cCell]; omega]
    · simp only []
      rw [mkTo_succ _ _ _ _ _ hx, ← hKd]
      refine Ent.trans ?_ (Ent.empr _)
      refine OwnS.close (P' := P') (Q' := Q') 0 rfl hlen ?_
      simp only [List.eraseIdx_cons_zero, List.eraseIdx_cons_succ]
      refine Ent.pick 0 rfl (Ent.refl _) ?_
      simp only [List.eraseIdx_cons_zero, List.eraseIdx_cons_succ]
      exact ent_fact rfl
  · refine wpk_sound 1000 ?_
    simp only [go_sem, Nat.reduceBEq, beq_self_eq_true, List.all_cons, List.all_nil, Value.oneCell', Int.reduceEq, Int.reduceLT, Nat.reduceLeDiff, List.getElem?_toArray, Nat.reduceLT, Nat.reduceAdd, Nat.reduceEqDiff, reduceIte]
    refine ⟨fun h1 => absurd h1 (by omega), fun h1 => ?_⟩
    refine Ent.stL ?_
    rw [mkTo_all _ _ _ _ _ (by omega), List.take_of_length_le (by omega)]
    exact Ent.ofact rfl Ent.done
theorem markCellSS_c {v : Value} {xs : List (List SCell)} {k : Int} (h0 : 0 ≤ k) (hb : k + (cntL (fun y => cntL cCell y) xs : Nat) ≤ 4611686018427387904) : Go.Sep.Fn Try.prog 37 [v, .int .i64 k] (OwnS (kS kCell) v xs) (fun r => star (fact (r = .int .i64 (k + (cntL (fun y => cntL cCell y) xs : Nat)))) (OwnS (kS kCell) v (mkL (fun y j => mkL mkCell cCell y j) (fun y => cntL cCell y) xs k))) := by
  refine Go.Sep.Fn.ownS1 fun A c hv hc hm hA => ?_
  subst hv
  refine Go.Sep.Fn.run1 1000 Try.func37 Try.ntmps37 rfl rfl (by simp) ?_
  simp only [go_sem, Nat.reduceBEq, beq_self_eq_true, List.all_cons, List.all_nil, Value.oneCell', Int.reduceEq, Int.reduceLT, Nat.reduceLeDiff, List.getElem?_toArray, Nat.reduceLT, Nat.reduceAdd, Nat.reduceEqDiff, reduceIte]
  refine SEM.loopI (X := { i : Nat // i ≤ xs.length }) (fun x => [(0, .v (.slice A xs.length c)), (1, .v (.int .i64 (k + (cntL (fun y => cntL cCell y) (xs.take x.1) : Nat)))), (5, .v (.int .i64 x.1))]) (fun _ => []) (fun x => [OwnS (kS kCell) (.slice A xs.length c) (mkTo (fun y j => mkL mkCell cCell y j) (fun y => cntL cCell y) xs k x.1)]) (fun x => xs.length - x.1) ⟨0, by omega⟩ (by simp [subE, Env.get, cntL]) ⟨[], by simp⟩ (by simp [okL]) (by rw [mkTo_zero]; exact Ent.refl _) ?_
  rintro ⟨i, hi⟩
  by_cases hx : i < xs.length
  · obtain ⟨ad, rfl⟩ := hA (by omega)
    have hK := cntL_take (fun y => cntL cCell y) xs i hx
    have hle := cntL_le (fun y => cntL cCell y) xs (i + 1)
    rw [mkTo_at _ _ _ _ _ hx]
    obtain ⟨K, hKd⟩ : ∃ K, K = k + (cntL (fun y => cntL cCell y) (xs.take i) : Nat) := ⟨_, rfl⟩
    rw [← hKd]
    have hlen : xs.length = (mkL (fun y j => mkL mkCell cCell y j) (fun y => cntL cCell y) (xs.take i) k).length + 1 + (xs.drop (i + 1)).length := by rw [mkL_len]; simp; omega
    have hb' : K + ((fun y => cntL cCell y) xs[i] : Nat) ≤ 4611686018427387904 := by (try simp only [] at hK); (try simp only []); omega
    have hK0 : 0 ≤ K := by omega
    try simp only [] at hb'
    refine SEM.takeOut hlen fun P' c' Q' hP => ?_
    have hP' : P'.length = i * 1 := by rw [hP, mkL_len]; simp only [List.length_take, Nat.min_eq_left hi]; rfl
    refine SEM.openEx fun q0 => SEM.openStar (SEM.openFact fun e0 => ?_)
    subst e0
    refine wpk_sound 3000 ?_
    simp only [go_sem, Nat.reduceBEq, beq_self_eq_true, List.all_cons, List.all_nil, Value.oneCell', Int.reduceEq, Int.reduceLT, Nat.reduceLeDiff, List.getElem?_toArray, Nat.reduceLT, Nat.reduceAdd, Nat.reduceEqDiff, reduceIte, List.append_nil, List.cons_append, List.nil_append, List.set_cons_zero, List.eraseIdx_cons_zero, List.eraseIdx_cons_succ]
    refine ⟨fun h1 => ?_, fun h1 => absurd (show (i : Int) < xs.length by omega) h1⟩
    refine ⟨⟨by omega, by omega⟩, ?_⟩
    refine SEM.loadF 0 (row_mid (P' := P') (Q' := Q') 1 rfl) (by omega) (by simp only [go_sem, Nat.reduceBEq, beq_self_eq_true, List.all_cons, List.all_nil, Value.oneCell', Int.reduceEq, Int.reduceLT, Nat.reduceLeDiff, List.getElem?_toArray, Nat.reduceLT, Nat.reduceAdd, Nat.reduceEqDiff, reduceIte, List.append_nil, List.cons_append, List.nil_append] <;> rfl) (wpk_sound 3000 ?_) rfl rfl rfl rfl
    simp only [go_sem, Nat.reduceBEq, beq_self_eq_true, List.all_cons, List.all_nil, Value.oneCell', Int.reduceEq, Int.reduceLT, Nat.reduceLeDiff, List.getElem?_toArray, Nat.reduceLT, Nat.reduceAdd, Nat.reduceEqDiff, reduceIte, List.append_nil, List.cons_append, List.nil_append, List.set_cons_zero, List.eraseIdx_cons_zero, List.eraseIdx_cons_succ]
    refine SEM.pull 0 rfl ?_
    simp only [List.eraseIdx_cons_zero, List.eraseIdx_cons_succ]
    refine SEM.callH (markCellS_c (by omega) (by omega)) (fun r => SEM.openStar (SEM.openFact fun e0 => ?_)) rfl rfl rfl rfl rfl rfl rfl cf51
    subst e0
    refine wpk_sound 3000 ?_
    simp only [go_sem, Nat.reduceBEq, beq_self_eq_true, List.all_cons, List.all_nil, Value.oneCell', Int.reduceEq, Int.reduceLT, Nat.reduceLeDiff, List.getElem?_toArray, Nat.reduceLT, Nat.reduceAdd, Nat.reduceEqDiff, reduceIte, List.append_nil, List.cons_append, List.nil_append, List.set_cons_zero, List.eraseIdx_cons_zero, List.eraseIdx_cons_succ]
    have hi1 : IntKind.i64.wrap ((i : Int) + 1) = ((i + 1 : Nat) : Int) := w64 (by omega) (by omega)
    refine ⟨⟨i + 1, by omega⟩, [], ?_, rfl, by simp [okL], ?_, by simp only; omega⟩
    · simp only [subE, get_cons, Nat.reduceEqDiff, reduceIte, hi1, hK, and_true, true_and, Int.natCast_add, ← Int.add_assoc, ← hKd]

    · simp only []
      rw [mkTo_succ _ _ _ _ _ hx, ← hKd]
      refine Ent.trans ?_ (Ent.empr _)
      refine OwnS.close (P' := P') (Q' := Q') 1 rfl hlen ?_
      simp only [List.eraseIdx_cons_zero, List.eraseIdx_cons_succ]
      refine Ent.pick 1 rfl (Ent.refl _) ?_
      simp only [List.eraseIdx_cons_zero, List.eraseIdx_cons_succ]
      exact Ent.last (kS_own _ _ _)
  · refine wpk_sound 1000 ?_
    simp only [go_sem, Nat.reduceBEq, beq_self_eq_true, List.all_cons, List.all_nil, Value.oneCell', Int.reduceEq, Int.reduceLT, Nat.reduceLeDiff, List.getElem?_toArray, Nat.reduceLT, Nat.reduceAdd, Nat.reduceEqDiff, reduceIte]
    refine ⟨fun h1 => absurd h1 (by omega), fun h1 => ?_⟩
    refine Ent.stL ?_
    rw [mkTo_all _ _ _ _ _ (by omega), List.take_of_length_le (by omega)]
    exact Ent.ofact rfl Ent.done
theorem markStringS_c {v : Value} {xs : List ByteArray} {k : Int} (h0 : 0 ≤ k) (hb : k + (cntL cT xs : Nat) ≤ 4611686018427387904) : Go.Sep.Fn Try.prog 19 [v, .int .i64 k] (OwnS kT v xs) (fun r => star (fact (r = .int .i64 (k + (cntL cT xs : Nat)))) (OwnS kT v (mkL mkT cT xs k))) := by
  refine Go.Sep.Fn.ownS1 fun A c hv hc hm hA => ?_
  subst hv
  refine Go.Sep.Fn.run1 1000 Try.func19 Try.ntmps19 rfl rfl (by simp) ?_
  simp only [go_sem, Nat.reduceBEq, beq_self_eq_true, List.all_cons, List.all_nil, Value.oneCell', Int.reduceEq, Int.reduceLT, Nat.reduceLeDiff, List.getElem?_toArray, Nat.reduceLT, Nat.reduceAdd, Nat.reduceEqDiff, reduceIte]
  refine SEM.loopI (X := { i : Nat // i ≤ xs.length }) (fun x => [(0, .v (.slice A xs.length c)), (1, .v (.int .i64 (k + (cntL cT (xs.take x.1) : Nat)))), (5, .v (.int .i64 x.1))]) (fun _ => []) (fun x => [OwnS kT (.slice A xs.length c) (mkTo mkT cT xs k x.1)]) (fun x => xs.length - x.1) ⟨0, by omega⟩ (by simp [subE, Env.get, cntL]) ⟨[], by simp⟩ (by simp [okL]) (by rw [mkTo_zero]; exact Ent.refl _) ?_
  rintro ⟨i, hi⟩
  by_cases hx : i < xs.length
  · obtain ⟨ad, rfl⟩ := hA (by omega)
    have hK := cntL_take cT xs i hx
    have hle := cntL_le cT xs (i + 1)
    rw [mkTo_at _ _ _ _ _ hx]
    obtain ⟨K, hKd⟩ : ∃ K, K = k + (cntL cT (xs.take i) : Nat) := ⟨_, rfl⟩
    rw [← hKd]
    have hlen : xs.length = (mkL mkT cT (xs.take i) k).length + 1 + (xs.drop (i + 1)).length := by rw [mkL_len]; simp; omega
    have hb' : K + (cT xs[i] : Nat) ≤ 4611686018427387904 := by (try simp only [] at hK); (try simp only []); omega
    have hK0 : 0 ≤ K := by omega
    simp only [cT] at hb'
    refine SEM.takeOut hlen fun P' c' Q' hP => ?_
    have hP' : P'.length = i * 1 := by rw [hP, mkL_len]; simp only [List.length_take, Nat.min_eq_left hi]; rfl
    refine SEM.openFact fun e0 => ?_
    subst e0
    have w0 : IntKind.i64.wrap (K) = K := w64 (by omega) (by omega)
    have w1 : IntKind.i64.wrap (K + 1) = K + 1 := w64 (by omega) (by omega)
    refine wpk_sound 3000 ?_
    simp only [go_sem, Nat.reduceBEq, beq_self_eq_true, List.all_cons, List.all_nil, Value.oneCell', Int.reduceEq, Int.reduceLT, Nat.reduceLeDiff, List.getElem?_toArray, Nat.reduceLT, Nat.reduceAdd, Nat.reduceEqDiff, reduceIte, List.append_nil, List.cons_append, List.nil_append, List.set_cons_zero, List.eraseIdx_cons_zero, List.eraseIdx_cons_succ, w0, w1]
    refine ⟨fun h1 => ?_, fun h1 => absurd (show (i : Int) < xs.length by omega) h1⟩
    refine SEM.callP (markText_c (by omega)) (wpk_sound 3000 ?_) rfl rfl rfl rfl rfl rfl rfl cf39
    simp only [go_sem, Nat.reduceBEq, beq_self_eq_true, List.all_cons, List.all_nil, Value.oneCell', Int.reduceEq, Int.reduceLT, Nat.reduceLeDiff, List.getElem?_toArray, Nat.reduceLT, Nat.reduceAdd, Nat.reduceEqDiff, reduceIte, List.append_nil, List.cons_append, List.nil_append, List.set_cons_zero, List.eraseIdx_cons_zero, List.eraseIdx_cons_succ, w0, w1]
    refine ⟨⟨by omega, by omega⟩, ?_⟩
    refine SEM.storeF (P' := P') (Q' := Q') 0 0 rfl (by omega) (by simp only [go_sem, Nat.reduceBEq, beq_self_eq_true, List.all_cons, List.all_nil, Value.oneCell', Int.reduceEq, Int.reduceLT, Nat.reduceLeDiff, List.getElem?_toArray, Nat.reduceLT, Nat.reduceAdd, Nat.reduceEqDiff, reduceIte, List.append_nil, List.cons_append, List.nil_append] <;> rfl) (by simp [Value.cells]) (wpk_sound 3000 ?_) rfl rfl rfl rfl rfl rfl
    simp only [go_sem, Nat.reduceBEq, beq_self_eq_true, List.all_cons, List.all_nil, Value.oneCell', Int.reduceEq, Int.reduceLT, Nat.reduceLeDiff, List.getElem?_toArray, Nat.reduceLT, Nat.reduceAdd, Nat.reduceEqDiff, reduceIte, List.append_nil, List.cons_append, List.nil_append, List.set_cons_zero, List.eraseIdx_cons_zero, List.eraseIdx_cons_succ, w0, w1]
    have hi1 : IntKind.i64.wrap ((i : Int) + 1) = ((i + 1 : Nat) : Int) := w64 (by omega) (by omega)
    refine ⟨⟨i + 1, by omega⟩, [], ?_, rfl, by simp [okL], ?_, by simp only; omega⟩
    · simp only [subE, get_cons, Nat.reduceEqDiff, reduceIte, hi1, hK, and_true, true_and, Int.natCast_add, ← Int.add_assoc, ← hKd]
      rw [show K + 1 = K + (cT xs[i] : Nat) from by simp only [cT]; omega]
    · simp only []
      rw [mkTo_succ _ _ _ _ _ hx, ← hKd]
      refine Ent.trans ?_ (Ent.empr _)
      refine OwnS.close (P' := P') (Q' := Q') 0 rfl hlen ?_
      simp only [List.eraseIdx_cons_zero, List.eraseIdx_cons_succ]
      refine Ent.pick 0 rfl (Ent.refl _) ?_
      simp only [List.eraseIdx_cons_zero, List.eraseIdx_cons_succ]
      exact ent_fact rfl
  · refine wpk_sound 1000 ?_
    simp only [go_sem, Nat.reduceBEq, beq_self_eq_true, List.all_cons, List.all_nil, Value.oneCell', Int.reduceEq, Int.reduceLT, Nat.reduceLeDiff, List.getElem?_toArray, Nat.reduceLT, Nat.reduceAdd, Nat.reduceEqDiff, reduceIte]
    refine ⟨fun h1 => absurd h1 (by omega), fun h1 => ?_⟩
    refine Ent.stL ?_
    rw [mkTo_all _ _ _ _ _ (by omega), List.take_of_length_le (by omega)]
    exact Ent.ofact rfl Ent.done
theorem markServerS_c {v : Value} {xs : List SServer} {k : Int} (h0 : 0 ≤ k) (hb : k + (cntL cServer xs : Nat) ≤ 4611686018427387904) : Go.Sep.Fn Try.prog 34 [v, .int .i64 k] (OwnS kServer v xs) (fun r => star (fact (r = .int .i64 (k + (cntL cServer xs : Nat)))) (OwnS kServer v (mkL mkServer cServer xs k))) := by
  refine Go.Sep.Fn.ownS1 fun A c hv hc hm hA => ?_
  subst hv
  refine Go.Sep.Fn.run1 1000 Try.func34 Try.ntmps34 rfl rfl (by simp) ?_
  simp only [go_sem, Nat.reduceBEq, beq_self_eq_true, List.all_cons, List.all_nil, Value.oneCell', Int.reduceEq, Int.reduceLT, Nat.reduceLeDiff, List.getElem?_toArray, Nat.reduceLT, Nat.reduceAdd, Nat.reduceEqDiff, reduceIte]
  refine SEM.loopI (X := { i : Nat // i ≤ xs.length }) (fun x => [(0, .v (.slice A xs.length c)), (1, .v (.int .i64 (k + (cntL cServer (xs.take x.1) : Nat)))), (5, .v (.int .i64 x.1))]) (fun _ => []) (fun x => [OwnS kServer (.slice A xs.length c) (mkTo mkServer cServer xs k x.1)]) (fun x => xs.length - x.1) ⟨0, by omega⟩ (by simp [subE, Env.get, cntL]) ⟨[], by simp⟩ (by simp [okL]) (by rw [mkTo_zero]; exact Ent.refl _) ?_
  rintro ⟨i, hi⟩
  by_cases hx : i < xs.length
  · obtain ⟨ad, rfl⟩ := hA (by omega)
    have hK := cntL_take cServer xs i hx
    have hle := cntL_le cServer xs (i + 1)
    rw [mkTo_at _ _ _ _ _ hx]
    obtain ⟨K, hKd⟩ : ∃ K, K = k + (cntL cServer (xs.take i) : Nat) := ⟨_, rfl⟩
    rw [← hKd]
    have hlen : xs.length = (mkL mkServer cServer (xs.take i) k).length + 1 + (xs.drop (i + 1)).length := by rw [mkL_len]; simp; omega
    have hb' : K + (cServer xs[i] : Nat) ≤ 4611686018427387904 := by (try simp only [] at hK); (try simp only []); omega
    have hK0 : 0 ≤ K := by omega
    simp only [cServer] at hb'
    refine SEM.takeOut hlen fun P' c' Q' hP => ?_
    have hP' : P'.length = i * 2 := by rw [hP, mkL_len]; simp only [List.length_take, Nat.min_eq_left hi]; rfl
    refine SEM.openEx fun c1 => SEM.openEx fun c2 => SEM.openStar (SEM.openFact fun e0 => SEM.openStar ?_)
    subst e0
    refine SEM.openEx fun q0 => SEM.openStar (SEM.openFact fun e0 => ?_)
    subst e0
    refine SEM.swap ?_
    refine SEM.openEx fun c1 => SEM.openEx fun c2 => SEM.openStar (SEM.openFact fun e0 => SEM.openStar ?_)
    subst e0
    refine SEM.openFact fun e0 => ?_
    subst e0
    refine SEM.openFact fun e0 => ?_
    subst e0
    have w0 : IntKind.i64.wrap (K + (cntL cT xs[i].log : Nat)) = K + (cntL cT xs[i].log : Nat) := w64 (by omega) (by omega)
    have w1 : IntKind.i64.wrap (K + (cntL cT xs[i].log : Nat) + 1) = K + (cntL cT xs[i].log : Nat) + 1 := w64 (by omega) (by omega)
    refine wpk_sound 3000 ?_
    simp only [go_sem, Nat.reduceBEq, beq_self_eq_true, List.all_cons, List.all_nil, Value.oneCell', Int.reduceEq, Int.reduceLT, Nat.reduceLeDiff, List.getElem?_toArray, Nat.reduceLT, Nat.reduceAdd, Nat.reduceEqDiff, reduceIte, List.append_nil, List.cons_append, List.nil_append, List.set_cons_zero, List.eraseIdx_cons_zero, List.eraseIdx_cons_succ, w0, w1]
    refine ⟨fun h1 => ?_, fun h1 => absurd (show (i : Int) < xs.length by omega) h1⟩
    refine ⟨⟨by omega, by omega⟩, ?_⟩
    refine SEM.loadF 0 (row_mid (P' := P') (Q' := Q') 1 rfl) (by omega) (by simp only [go_sem, Nat.reduceBEq, beq_self_eq_true, List.all_cons, List.all_nil, Value.oneCell', Int.reduceEq, Int.reduceLT, Nat.reduceLeDiff, List.getElem?_toArray, Nat.reduceLT, Nat.reduceAdd, Nat.reduceEqDiff, reduceIte, List.append_nil, List.cons_append, List.nil_append] <;> rfl) (wpk_sound 3000 ?_) rfl rfl rfl rfl
    simp only [go_sem, Nat.reduceBEq, beq_self_eq_true, List.all_cons, List.all_nil, Value.oneCell', Int.reduceEq, Int.reduceLT, Nat.reduceLeDiff, List.getElem?_toArray, Nat.reduceLT, Nat.reduceAdd, Nat.reduceEqDiff, reduceIte, List.append_nil, List.cons_append, List.nil_append, List.set_cons_zero, List.eraseIdx_cons_zero, List.eraseIdx_cons_succ, w0, w1]
    refine SEM.pull 0 rfl ?_
    simp only [List.eraseIdx_cons_zero, List.eraseIdx_cons_succ]
    refine SEM.callH (markStringS_c (by omega) (by omega)) (fun r => SEM.openStar (SEM.openFact fun e0 => ?_)) rfl rfl rfl rfl rfl rfl rfl cf19
    subst e0
    refine wpk_sound 3000 ?_
    simp only [go_sem, Nat.reduceBEq, beq_self_eq_true, List.all_cons, List.all_nil, Value.oneCell', Int.reduceEq, Int.reduceLT, Nat.reduceLeDiff, List.getElem?_toArray, Nat.reduceLT, Nat.reduceAdd, Nat.reduceEqDiff, reduceIte, List.append_nil, List.cons_append, List.nil_append, List.set_cons_zero, List.eraseIdx_cons_zero, List.eraseIdx_cons_succ, w0, w1]
    refine ⟨⟨by omega, by omega⟩, ?_⟩
    refine SEM.storeF (P' := P') (Q' := Q') 1 1 rfl (by omega) (by simp only [go_sem, Nat.reduceBEq, beq_self_eq_true, List.all_cons, List.all_nil, Value.oneCell', Int.reduceEq, Int.reduceLT, Nat.reduceLeDiff, List.getElem?_toArray, Nat.reduceLT, Nat.reduceAdd, Nat.reduceEqDiff, reduceIte, List.append_nil, List.cons_append, List.nil_append] <;> rfl) (by simp [Value.cells]) (wpk_sound 3000 ?_) rfl rfl rfl rfl rfl rfl
    simp only [go_sem, Nat.reduceBEq, beq_self_eq_true, List.all_cons, List.all_nil, Value.oneCell', Int.reduceEq, Int.reduceLT, Nat.reduceLeDiff, List.getElem?_toArray, Nat.reduceLT, Nat.reduceAdd, Nat.reduceEqDiff, reduceIte, List.append_nil, List.cons_append, List.nil_append, List.set_cons_zero, List.eraseIdx_cons_zero, List.eraseIdx_cons_succ, w0, w1]
    have hi1 : IntKind.i64.wrap ((i : Int) + 1) = ((i + 1 : Nat) : Int) := w64 (by omega) (by omega)
    refine ⟨⟨i + 1, by omega⟩, [], ?_, rfl, by simp [okL], ?_, by simp only; omega⟩
    · simp only [subE, get_cons, Nat.reduceEqDiff, reduceIte, hi1, hK, and_true, true_and, Int.natCast_add, ← Int.add_assoc, ← hKd]
      rw [show K + (cntL cT xs[i].log : Nat) + 1 = K + (cServer xs[i] : Nat) from by simp only [cServer]; omega]
    · simp only []
      rw [mkTo_succ _ _ _ _ _ hx, ← hKd]
      refine Ent.trans ?_ (Ent.empr _)
      refine OwnS.close (P' := P') (Q' := Q') 1 rfl hlen ?_
      simp only [List.eraseIdx_cons_zero, List.eraseIdx_cons_succ]
      refine Ent.pick 1 rfl (Ent.refl _) ?_
      simp only [List.eraseIdx_cons_zero, List.eraseIdx_cons_succ]
      refine ownF_step 1 ?_
      simp only [List.take_succ_cons, List.take_zero, List.drop_succ_cons, List.drop_zero]
      refine Ent.pick 0 rfl (kS_own _ _ _) ?_
      simp only [List.eraseIdx_cons_zero, List.eraseIdx_cons_succ]
      refine ownF_step 1 ?_
      simp only [List.take_succ_cons, List.take_zero, List.drop_succ_cons, List.drop_zero]
      refine Ent.ofact rfl ?_
      exact ent_fact rfl
  · refine wpk_sound 1000 ?_
    simp only [go_sem, Nat.reduceBEq, beq_self_eq_true, List.all_cons, List.all_nil, Value.oneCell', Int.reduceEq, Int.reduceLT, Nat.reduceLeDiff, List.getElem?_toArray, Nat.reduceLT, Nat.reduceAdd, Nat.reduceEqDiff, reduceIte]
    refine ⟨fun h1 => absurd h1 (by omega), fun h1 => ?_⟩
    refine Ent.stL ?_
    rw [mkTo_all _ _ _ _ _ (by omega), List.take_of_length_le (by omega)]
    exact Ent.ofact rfl Ent.done
theorem markStringSS_c {v : Value} {xs : List (List ByteArray)} {k : Int} (h0 : 0 ≤ k) (hb : k + (cntL (fun y => cntL cT y) xs : Nat) ≤ 4611686018427387904) : Go.Sep.Fn Try.prog 35 [v, .int .i64 k] (OwnS (kS kT) v xs) (fun r => star (fact (r = .int .i64 (k + (cntL (fun y => cntL cT y) xs : Nat)))) (OwnS (kS kT) v (mkL (fun y j => mkL mkT cT y j) (fun y => cntL cT y) xs k))) := by
  refine Go.Sep.Fn.ownS1 fun A c hv hc hm hA => ?_
  subst hv
  refine Go.Sep.Fn.run1 1000 Try.func35 Try.ntmps35 rfl rfl (by simp) ?_
  simp only [go_sem, Nat.reduceBEq, beq_self_eq_true, List.all_cons, List.all_nil, Value.oneCell', Int.reduceEq, Int.reduceLT, Nat.reduceLeDiff, List.getElem?_toArray, Nat.reduceLT, Nat.reduceAdd, Nat.reduceEqDiff, reduceIte]
  refine SEM.loopI (X := { i : Nat // i ≤ xs.length }) (fun x => [(0, .v (.slice A xs.length c)), (1, .v (.int .i64 (k + (cntL (fun y => cntL cT y) (xs.take x.1) : Nat)))), (5, .v (.int .i64 x.1))]) (fun _ => []) (fun x => [OwnS (kS kT) (.slice A xs.length c) (mkTo (fun y j => mkL mkT cT y j) (fun y => cntL cT y) xs k x.1)]) (fun x => xs.length - x.1) ⟨0, by omega⟩ (by simp [subE, Env.get, cntL]) ⟨[], by simp⟩ (by simp [okL]) (by rw [mkTo_zero]; exact Ent.refl _) ?_
  rintro ⟨i, hi⟩
  by_cases hx : i < xs.length
  · obtain ⟨ad, rfl⟩ := hA (by omega)
    have hK := cntL_take (fun y => cntL cT y) xs i hx
    have hle := cntL_le (fun y => cntL cT y) xs (i + 1)
    rw [mkTo_at _ _ _ _ _ hx]
    obtain ⟨K, hKd⟩ : ∃ K, K = k + (cntL (fun y => cntL cT y) (xs.take i) : Nat) := ⟨_, rfl⟩
    rw [← hKd]
    have hlen : xs.length = (mkL (fun y j => mkL mkT cT y j) (fun y => cntL cT y) (xs.take i) k).length + 1 + (xs.drop (i + 1)).length := by rw [mkL_len]; simp; omega
    have hb' : K + ((fun y => cntL cT y) xs[i] : Nat) ≤ 4611686018427387904 := by (try simp only [] at hK); (try simp only []); omega
    have hK0 : 0 ≤ K := by omega
    try simp only [] at hb'
    refine SEM.takeOut hlen fun P' c' Q' hP => ?_
    have hP' : P'.length = i * 1 := by rw [hP, mkL_len]; simp only [List.length_take, Nat.min_eq_left hi]; rfl
    refine SEM.openEx fun q0 => SEM.openStar (SEM.openFact fun e0 => ?_)
    subst e0
    refine wpk_sound 3000 ?_
    simp only [go_sem, Nat.reduceBEq, beq_self_eq_true, List.all_cons, List.all_nil, Value.oneCell', Int.reduceEq, Int.reduceLT, Nat.reduceLeDiff, List.getElem?_toArray, Nat.reduceLT, Nat.reduceAdd, Nat.reduceEqDiff, reduceIte, List.append_nil, List.cons_append, List.nil_append, List.set_cons_zero, List.eraseIdx_cons_zero, List.eraseIdx_cons_succ]
    refine ⟨fun h1 => ?_, fun h1 => absurd (show (i : Int) < xs.length by omega) h1⟩
    refine ⟨⟨by omega, by omega⟩, ?_⟩
    refine SEM.loadF 0 (row_mid (P' := P') (Q' := Q') 1 rfl) (by omega) (by simp only [go_sem, Nat.reduceBEq, beq_self_eq_true, List.all_cons, List.all_nil, Value.oneCell', Int.reduceEq, Int.reduceLT, Nat.reduceLeDiff, List.getElem?_toArray, Nat.reduceLT, Nat.reduceAdd, Nat.reduceEqDiff, reduceIte, List.append_nil, List.cons_append, List.nil_append] <;> rfl) (wpk_sound 3000 ?_) rfl rfl rfl rfl
    simp only [go_sem, Nat.reduceBEq, beq_self_eq_true, List.all_cons, List.all_nil, Value.oneCell', Int.reduceEq, Int.reduceLT, Nat.reduceLeDiff, List.getElem?_toArray, Nat.reduceLT, Nat.reduceAdd, Nat.reduceEqDiff, reduceIte, List.append_nil, List.cons_append, List.nil_append, List.set_cons_zero, List.eraseIdx_cons_zero, List.eraseIdx_cons_succ]
    refine SEM.pull 0 rfl ?_
    simp only [List.eraseIdx_cons_zero, List.eraseIdx_cons_succ]
    refine SEM.callH (markStringS_c (by omega) (by omega)) (fun r => SEM.openStar (SEM.openFact fun e0 => ?_)) rfl rfl rfl rfl rfl rfl rfl cf19
    subst e0
    refine wpk_sound 3000 ?_
    simp only [go_sem, Nat.reduceBEq, beq_self_eq_true, List.all_cons, List.all_nil, Value.oneCell', Int.reduceEq, Int.reduceLT, Nat.reduceLeDiff, List.getElem?_toArray, Nat.reduceLT, Nat.reduceAdd, Nat.reduceEqDiff, reduceIte, List.append_nil, List.cons_append, List.nil_append, List.set_cons_zero, List.eraseIdx_cons_zero, List.eraseIdx_cons_succ]
    have hi1 : IntKind.i64.wrap ((i : Int) + 1) = ((i + 1 : Nat) : Int) := w64 (by omega) (by omega)
    refine ⟨⟨i + 1, by omega⟩, [], ?_, rfl, by simp [okL], ?_, by simp only; omega⟩
    · simp only [subE, get_cons, Nat.reduceEqDiff, reduceIte, hi1, hK, and_true, true_and, Int.natCast_add, ← Int.add_assoc, ← hKd]

    · simp only []
      rw [mkTo_succ _ _ _ _ _ hx, ← hKd]
      refine Ent.trans ?_ (Ent.empr _)
      refine OwnS.close (P' := P') (Q' := Q') 1 rfl hlen ?_
      simp only [List.eraseIdx_cons_zero, List.eraseIdx_cons_succ]
      refine Ent.pick 1 rfl (Ent.refl _) ?_
      simp only [List.eraseIdx_cons_zero, List.eraseIdx_cons_succ]
      exact Ent.last (kS_own _ _ _)
  · refine wpk_sound 1000 ?_
    simp only [go_sem, Nat.reduceBEq, beq_self_eq_true, List.all_cons, List.all_nil, Value.oneCell', Int.reduceEq, Int.reduceLT, Nat.reduceLeDiff, List.getElem?_toArray, Nat.reduceLT, Nat.reduceAdd, Nat.reduceEqDiff, reduceIte]
    refine ⟨fun h1 => absurd h1 (by omega), fun h1 => ?_⟩
    refine Ent.stL ?_
    rw [mkTo_all _ _ _ _ _ (by omega), List.take_of_length_le (by omega)]
    exact Ent.ofact rfl Ent.done
theorem markInt64SS_c {v : Value} {xs : List (List Int)} {k : Int} (h0 : 0 ≤ k) (hb : k + (cntL (fun y => cntL cI y) xs : Nat) ≤ 4611686018427387904) : Go.Sep.Fn Try.prog 36 [v, .int .i64 k] (OwnS (kS kI) v xs) (fun r => star (fact (r = .int .i64 (k + (cntL (fun y => cntL cI y) xs : Nat)))) (OwnS (kS kI) v (mkL (fun y j => mkL mkI cI y j) (fun y => cntL cI y) xs k))) := by
  refine Go.Sep.Fn.ownS1 fun A c hv hc hm hA => ?_
  subst hv
  refine Go.Sep.Fn.run1 1000 Try.func36 Try.ntmps36 rfl rfl (by simp) ?_
  simp only [go_sem, Nat.reduceBEq, beq_self_eq_true, List.all_cons, List.all_nil, Value.oneCell', Int.reduceEq, Int.reduceLT, Nat.reduceLeDiff, List.getElem?_toArray, Nat.reduceLT, Nat.reduceAdd, Nat.reduceEqDiff, reduceIte]
  refine SEM.loopI (X := { i : Nat // i ≤ xs.length }) (fun x => [(0, .v (.slice A xs.length c)), (1, .v (.int .i64 (k + (cntL (fun y => cntL cI y) (xs.take x.1) : Nat)))), (5, .v (.int .i64 x.1))]) (fun _ => []) (fun x => [OwnS (kS kI) (.slice A xs.length c) (mkTo (fun y j => mkL mkI cI y j) (fun y => cntL cI y) xs k x.1)]) (fun x => xs.length - x.1) ⟨0, by omega⟩ (by simp [subE, Env.get, cntL]) ⟨[], by simp⟩ (by simp [okL]) (by rw [mkTo_zero]; exact Ent.refl _) ?_
  rintro ⟨i, hi⟩
  by_cases hx : i < xs.length
  · obtain ⟨ad, rfl⟩ := hA (by omega)
    have hK := cntL_take (fun y => cntL cI y) xs i hx
    have hle := cntL_le (fun y => cntL cI y) xs (i + 1)
    rw [mkTo_at _ _ _ _ _ hx]
    obtain ⟨K, hKd⟩ : ∃ K, K = k + (cntL (fun y => cntL cI y) (xs.take i) : Nat) := ⟨_, rfl⟩
    rw [← hKd]
    have hlen : xs.length = (mkL (fun y j => mkL mkI cI y j) (fun y => cntL cI y) (xs.take i) k).length + 1 + (xs.drop (i + 1)).length := by rw [mkL_len]; simp; omega
    have hb' : K + ((fun y => cntL cI y) xs[i] : Nat) ≤ 4611686018427387904 := by (try simp only [] at hK); (try simp only []); omega
    have hK0 : 0 ≤ K := by omega
    try simp only [] at hb'
    refine SEM.takeOut hlen fun P' c' Q' hP => ?_
    have hP' : P'.length = i * 1 := by rw [hP, mkL_len]; simp only [List.length_take, Nat.min_eq_left hi]; rfl
    refine SEM.openEx fun q0 => SEM.openStar (SEM.openFact fun e0 => ?_)
    subst e0
    refine wpk_sound 3000 ?_
    simp only [go_sem, Nat.reduceBEq, beq_self_eq_true, List.all_cons, List.all_nil, Value.oneCell', Int.reduceEq, Int.reduceLT, Nat.reduceLeDiff, List.getElem?_toArray, Nat.reduceLT, Nat.reduceAdd, Nat.reduceEqDiff, reduceIte, List.append_nil, List.cons_append, List.nil_append, List.set_cons_zero, List.eraseIdx_cons_zero, List.eraseIdx_cons_succ]
    refine ⟨fun h1 => ?_, fun h1 => absurd (show (i : Int) < xs.length by omega) h1⟩
    refine ⟨⟨by omega, by omega⟩, ?_⟩
    refine SEM.loadF 0 (row_mid (P' := P') (Q' := Q') 1 rfl) (by omega) (by simp only [go_sem, Nat.reduceBEq, beq_self_eq_true, List.all_cons, List.all_nil, Value.oneCell', Int.reduceEq, Int.reduceLT, Nat.reduceLeDiff, List.getElem?_toArray, Nat.reduceLT, Nat.reduceAdd, Nat.reduceEqDiff, reduceIte, List.append_nil, List.cons_append, List.nil_append] <;> rfl) (wpk_sound 3000 ?_) rfl rfl rfl rfl
    simp only [go_sem, Nat.reduceBEq, beq_self_eq_true, List.all_cons, List.all_nil, Value.oneCell', Int.reduceEq, Int.reduceLT, Nat.reduceLeDiff, List.getElem?_toArray, Nat.reduceLT, Nat.reduceAdd, Nat.reduceEqDiff, reduceIte, List.append_nil, List.cons_append, List.nil_append, List.set_cons_zero, List.eraseIdx_cons_zero, List.eraseIdx_cons_succ]
    refine SEM.pull 0 rfl ?_
    simp only [List.eraseIdx_cons_zero, List.eraseIdx_cons_succ]
    refine SEM.callH (markInt64S_c (by omega) (by omega)) (fun r => SEM.openStar (SEM.openFact fun e0 => ?_)) rfl rfl rfl rfl rfl rfl rfl cf38
    subst e0
    refine wpk_sound 3000 ?_
    simp only [go_sem, Nat.reduceBEq, beq_self_eq_true, List.all_cons, List.all_nil, Value.oneCell', Int.reduceEq, Int.reduceLT, Nat.reduceLeDiff, List.getElem?_toArray, Nat.reduceLT, Nat.reduceAdd, Nat.reduceEqDiff, reduceIte, List.append_nil, List.cons_append, List.nil_append, List.set_cons_zero, List.eraseIdx_cons_zero, List.eraseIdx_cons_succ]
    have hi1 : IntKind.i64.wrap ((i : Int) + 1) = ((i + 1 : Nat) : Int) := w64 (by omega) (by omega)
    refine ⟨⟨i + 1, by omega⟩, [], ?_, rfl, by simp [okL], ?_, by simp only; omega⟩
    · simp only [subE, get_cons, Nat.reduceEqDiff, reduceIte, hi1, hK, and_true, true_and, Int.natCast_add, ← Int.add_assoc, ← hKd]

    · simp only []
      rw [mkTo_succ _ _ _ _ _ hx, ← hKd]
      refine Ent.trans ?_ (Ent.empr _)
      refine OwnS.close (P' := P') (Q' := Q') 1 rfl hlen ?_
      simp only [List.eraseIdx_cons_zero, List.eraseIdx_cons_succ]
      refine Ent.pick 1 rfl (Ent.refl _) ?_
      simp only [List.eraseIdx_cons_zero, List.eraseIdx_cons_succ]
      exact Ent.last (kS_own _ _ _)
  · refine wpk_sound 1000 ?_
    simp only [go_sem, Nat.reduceBEq, beq_self_eq_true, List.all_cons, List.all_nil, Value.oneCell', Int.reduceEq, Int.reduceLT, Nat.reduceLeDiff, List.getElem?_toArray, Nat.reduceLT, Nat.reduceAdd, Nat.reduceEqDiff, reduceIte]
    refine ⟨fun h1 => absurd h1 (by omega), fun h1 => ?_⟩
    refine Ent.stL ?_
    rw [mkTo_all _ _ _ _ _ (by omega), List.take_of_length_le (by omega)]
    exact Ent.ofact rfl Ent.done
theorem markChain_c {cs : List Value} {x : SChain} {k : Int} (h0 : 0 ≤ k) (hb : k + (cvChain x : Nat) ≤ 4611686018427387904) : Go.Sep.Fn Try.prog 17 [.agg cs.toArray, .int .i64 k] (kChain.own x cs) (fun r => star (fact (r = .int .i64 (k + (cvChain x : Nat)))) (kChain.own (mkvChain x k) cs)) := by
  simp only [cvChain] at hb
  refine FnH.one ?_
  refine FnH.openEx fun c1 => FnH.openEx fun c2 => FnH.openStar (FnH.openFact fun e0 => FnH.openStar ?_)
  subst e0
  refine FnH.openEx fun q0 => FnH.openStar (FnH.openFact fun e0 => ?_)
  subst e0
  refine FnH.swap ?_
  refine FnH.openEx fun c1 => FnH.openEx fun c2 => FnH.openStar (FnH.openFact fun e0 => FnH.openStar ?_)
  subst e0
  refine FnH.openEx fun q1 => FnH.openStar (FnH.openFact fun e0 => ?_)
  subst e0
  refine FnH.swap ?_
  refine FnH.openEx fun c1 => FnH.openEx fun c2 => FnH.openStar (FnH.openFact fun e0 => FnH.openStar ?_)
  subst e0
  refine FnH.openEx fun q2 => FnH.openStar (FnH.openFact fun e0 => ?_)
  subst e0
  refine FnH.swap ?_
  refine FnH.openFact fun e0 => ?_
  subst e0
  refine Go.Sep.Fn.run 3000 Try.func17 Try.ntmps17 rfl rfl (by simp) ?_
  simp only [go_sem, Nat.reduceBEq, beq_self_eq_true, List.all_cons, List.all_nil, Value.oneCell', Int.reduceEq, Int.reduceLT, Nat.reduceLeDiff, List.getElem?_toArray, Nat.reduceLT, Nat.reduceAdd, Nat.reduceEqDiff, reduceIte, List.append_nil, List.cons_append, List.nil_append, List.eraseIdx_cons_zero, List.eraseIdx_cons_succ]
  intro b0
  refine SEM.pull 2 rfl ?_
  simp only [List.eraseIdx_cons_zero, List.eraseIdx_cons_succ]
  refine SEM.callH (markServerS_c (by omega) (by omega)) (fun r => SEM.openStar (SEM.openFact fun e0 => ?_)) rfl rfl rfl rfl rfl rfl rfl cf34
  subst e0
  refine wpk_sound 3000 ?_
  simp only [go_sem, Nat.reduceBEq, beq_self_eq_true, List.all_cons, List.all_nil, Value.oneCell', Int.reduceEq, Int.reduceLT, Nat.reduceLeDiff, List.getElem?_toArray, Nat.reduceLT, Nat.reduceAdd, Nat.reduceEqDiff, reduceIte, List.append_nil, List.cons_append, List.nil_append, List.eraseIdx_cons_zero, List.eraseIdx_cons_succ]
  refine SEM.pull 2 rfl ?_
  simp only [List.eraseIdx_cons_zero, List.eraseIdx_cons_succ]
  refine SEM.callH (markStringSS_c (by omega) (by omega)) (fun r => SEM.openStar (SEM.openFact fun e0 => ?_)) rfl rfl rfl rfl rfl rfl rfl cf35
  subst e0
  refine wpk_sound 3000 ?_
  simp only [go_sem, Nat.reduceBEq, beq_self_eq_true, List.all_cons, List.all_nil, Value.oneCell', Int.reduceEq, Int.reduceLT, Nat.reduceLeDiff, List.getElem?_toArray, Nat.reduceLT, Nat.reduceAdd, Nat.reduceEqDiff, reduceIte, List.append_nil, List.cons_append, List.nil_append, List.eraseIdx_cons_zero, List.eraseIdx_cons_succ]
  refine SEM.pull 2 rfl ?_
  simp only [List.eraseIdx_cons_zero, List.eraseIdx_cons_succ]
  refine SEM.callH (markInt64SS_c (by omega) (by omega)) (fun r => SEM.openStar (SEM.openFact fun e0 => ?_)) rfl rfl rfl rfl rfl rfl rfl cf36
  subst e0
  refine wpk_sound 3000 ?_
  simp only [go_sem, Nat.reduceBEq, beq_self_eq_true, List.all_cons, List.all_nil, Value.oneCell', Int.reduceEq, Int.reduceLT, Nat.reduceLeDiff, List.getElem?_toArray, Nat.reduceLT, Nat.reduceAdd, Nat.reduceEqDiff, reduceIte, List.append_nil, List.cons_append, List.nil_append, List.eraseIdx_cons_zero, List.eraseIdx_cons_succ]
  refine Ent.stL ?_
  refine Ent.ofact (by simp only [cvChain]; congr 1; omega) ?_
  refine ownF_step 1 ?_
  simp only [List.take_succ_cons, List.take_zero, List.drop_succ_cons, List.drop_zero]
  refine Ent.pick 2 rfl (kS_own _ _ _) ?_
  simp only [List.eraseIdx_cons_zero, List.eraseIdx_cons_succ]
  refine ownF_step 1 ?_
  simp only [List.take_succ_cons, List.take_zero, List.drop_succ_cons, List.drop_zero]
  refine Ent.pick 1 rfl (kS_own _ _ _) ?_
  simp only [List.eraseIdx_cons_zero, List.eraseIdx_cons_succ]
  refine ownF_step 1 ?_
  simp only [List.take_succ_cons, List.take_zero, List.drop_succ_cons, List.drop_zero]
  refine Ent.pick 0 rfl (kS_own _ _ _) ?_
  simp only [List.eraseIdx_cons_zero, List.eraseIdx_cons_succ]
  exact ent_fact rfl
theorem markClientS_c {v : Value} {xs : List SClient} {k : Int} (h0 : 0 ≤ k) (hb : k + (cntL cClient xs : Nat) ≤ 4611686018427387904) : Go.Sep.Fn Try.prog 18 [v, .int .i64 k] (OwnS kClient v xs) (fun r => star (fact (r = .int .i64 (k + (cntL cClient xs : Nat)))) (OwnS kClient v (mkL mkClient cClient xs k))) := by
  refine Go.Sep.Fn.ownS1 fun A c hv hc hm hA => ?_
  subst hv
  refine Go.Sep.Fn.run1 1000 Try.func18 Try.ntmps18 rfl rfl (by simp) ?_
  simp only [go_sem, Nat.reduceBEq, beq_self_eq_true, List.all_cons, List.all_nil, Value.oneCell', Int.reduceEq, Int.reduceLT, Nat.reduceLeDiff, List.getElem?_toArray, Nat.reduceLT, Nat.reduceAdd, Nat.reduceEqDiff, reduceIte]
  refine SEM.loopI (X := { i : Nat // i ≤ xs.length }) (fun x => [(0, .v (.slice A xs.length c)), (1, .v (.int .i64 (k + (cntL cClient (xs.take x.1) : Nat)))), (5, .v (.int .i64 x.1))]) (fun _ => []) (fun x => [OwnS kClient (.slice A xs.length c) (mkTo mkClient cClient xs k x.1)]) (fun x => xs.length - x.1) ⟨0, by omega⟩ (by simp [subE, Env.get, cntL]) ⟨[], by simp⟩ (by simp [okL]) (by rw [mkTo_zero]; exact Ent.refl _) ?_
  rintro ⟨i, hi⟩
  by_cases hx : i < xs.length
  · obtain ⟨ad, rfl⟩ := hA (by omega)
    have hK := cntL_take cClient xs i hx
    have hle := cntL_le cClient xs (i + 1)
    rw [mkTo_at _ _ _ _ _ hx]
    obtain ⟨K, hKd⟩ : ∃ K, K = k + (cntL cClient (xs.take i) : Nat) := ⟨_, rfl⟩
    rw [← hKd]
    have hlen : xs.length = (mkL mkClient cClient (xs.take i) k).length + 1 + (xs.drop (i + 1)).length := by rw [mkL_len]; simp; omega
    have hb' : K + (cClient xs[i] : Nat) ≤ 4611686018427387904 := by (try simp only [] at hK); (try simp only []); omega
    have hK0 : 0 ≤ K := by omega
    simp only [cClient] at hb'
    refine SEM.takeOut hlen fun P' c' Q' hP => ?_
    have hP' : P'.length = i * 9 := by rw [hP, mkL_len]; simp only [List.length_take, Nat.min_eq_left hi]; rfl
    refine SEM.openEx fun c1 => SEM.openEx fun c2 => SEM.openStar (SEM.openFact fun e0 => SEM.openStar ?_)
    subst e0
    refine SEM.openFact fun e0 => ?_
    subst e0
    refine SEM.openEx fun c1 => SEM.openEx fun c2 => SEM.openStar (SEM.openFact fun e0 => SEM.openStar ?_)
    subst e0
    refine SEM.openEx fun q0 => SEM.openStar (SEM.openFact fun e0 => ?_)
    subst e0
    refine SEM.swap ?_
    refine SEM.openEx fun c1 => SEM.openEx fun c2 => SEM.openStar (SEM.openFact fun e0 => SEM.openStar ?_)
    subst e0
    refine SEM.openFact fun e0 => ?_
    subst e0
    refine SEM.openEx fun c1 => SEM.openEx fun c2 => SEM.openStar (SEM.openFact fun e0 => SEM.openStar ?_)
    subst e0
    refine SEM.openEx fun c1 => SEM.openEx fun c2 => SEM.openStar (SEM.openFact fun e0 => SEM.openStar ?_)
    subst e0
    refine SEM.openFact fun e0 => ?_
    subst e0
    refine SEM.openEx fun c1 => SEM.openEx fun c2 => SEM.openStar (SEM.openFact fun e0 => SEM.openStar ?_)
    subst e0
    refine SEM.openEx fun q1 => SEM.openStar (SEM.openFact fun e0 => ?_)
    subst e0
    refine SEM.swap ?_
    refine SEM.openFact fun e0 => ?_
    subst e0
    refine SEM.pull 1 rfl ?_
    simp only [List.eraseIdx_cons_zero, List.eraseIdx_cons_succ]
    refine SEM.openEx fun c1 => SEM.openEx fun c2 => SEM.openStar (SEM.openFact fun e0 => SEM.openStar ?_)
    subst e0
    refine SEM.openFact fun e0 => ?_
    subst e0
    refine SEM.openEx fun c1 => SEM.openEx fun c2 => SEM.openStar (SEM.openFact fun e0 => SEM.openStar ?_)
    subst e0
    refine SEM.openEx fun c1 => SEM.openEx fun c2 => SEM.openStar (SEM.openFact fun e0 => SEM.openStar ?_)
    subst e0
    refine SEM.openFact fun e0 => ?_
    subst e0
    refine SEM.openEx fun c1 => SEM.openEx fun c2 => SEM.openStar (SEM.openFact fun e0 => SEM.openStar ?_)
    subst e0
    refine SEM.openEx fun q2 => SEM.openStar (SEM.openFact fun e0 => ?_)
    subst e0
    refine SEM.swap ?_
    refine SEM.openFact fun e0 => ?_
    subst e0
    refine SEM.pull 1 rfl ?_
    simp only [List.eraseIdx_cons_zero, List.eraseIdx_cons_succ]
    refine SEM.openEx fun c1 => SEM.openEx fun c2 => SEM.openStar (SEM.openFact fun e0 => SEM.openStar ?_)
    subst e0
    refine SEM.openFact fun e0 => ?_
    subst e0
    refine SEM.openFact fun e0 => ?_
    subst e0
    have w0 : IntKind.i64.wrap (K) = K := w64 (by omega) (by omega)
    have w1 : IntKind.i64.wrap (K + 1) = K + 1 := w64 (by omega) (by omega)
    have w2 : IntKind.i64.wrap (K + 1 + (cntL cT xs[i].queue : Nat)) = K + 1 + (cntL cT xs[i].queue : Nat) := w64 (by omega) (by omega)
    have w3 : IntKind.i64.wrap (K + 1 + (cntL cT xs[i].queue : Nat) + 1) = K + 1 + (cntL cT xs[i].queue : Nat) + 1 := w64 (by omega) (by omega)
    have w4 : IntKind.i64.wrap (K + 1 + (cntL cT xs[i].queue : Nat) + 1) = K + 1 + (cntL cT xs[i].queue : Nat) + 1 := w64 (by omega) (by omega)
    have w5 : IntKind.i64.wrap (K + 1 + (cntL cT xs[i].queue : Nat) + 1 + 1) = K + 1 + (cntL cT xs[i].queue : Nat) + 1 + 1 := w64 (by omega) (by omega)
    have w6 : IntKind.i64.wrap (K + 1 + (cntL cT xs[i].queue : Nat) + 1 + 1 + (cntL (fun y => cntL cCell y) xs[i].screen.rows : Nat)) = K + 1 + (cntL cT xs[i].queue : Nat) + 1 + 1 + (cntL (fun y => cntL cCell y) xs[i].screen.rows : Nat) := w64 (by omega) (by omega)
    have w7 : IntKind.i64.wrap (K + 1 + (cntL cT xs[i].queue : Nat) + 1 + 1 + (cntL (fun y => cntL cCell y) xs[i].screen.rows : Nat) + 1) = K + 1 + (cntL cT xs[i].queue : Nat) + 1 + 1 + (cntL (fun y => cntL cCell y) xs[i].screen.rows : Nat) + 1 := w64 (by omega) (by omega)
    have w8 : IntKind.i64.wrap (K + 1 + (cntL cT xs[i].queue : Nat) + 1 + 1 + (cntL (fun y => cntL cCell y) xs[i].screen.rows : Nat) + 1) = K + 1 + (cntL cT xs[i].queue : Nat) + 1 + 1 + (cntL (fun y => cntL cCell y) xs[i].screen.rows : Nat) + 1 := w64 (by omega) (by omega)
    have w9 : IntKind.i64.wrap (K + 1 + (cntL cT xs[i].queue : Nat) + 1 + 1 + (cntL (fun y => cntL cCell y) xs[i].screen.rows : Nat) + 1 + 1) = K + 1 + (cntL cT xs[i].queue : Nat) + 1 + 1 + (cntL (fun y => cntL cCell y) xs[i].screen.rows : Nat) + 1 + 1 := w64 (by omega) (by omega)
    have w10 : IntKind.i64.wrap (K + 1 + (cntL cT xs[i].queue : Nat) + 1 + 1 + (cntL (fun y => cntL cCell y) xs[i].screen.rows : Nat) + 1 + 1 + (cntL cI xs[i].window.seen : Nat)) = K + 1 + (cntL cT xs[i].queue : Nat) + 1 + 1 + (cntL (fun y => cntL cCell y) xs[i].screen.rows : Nat) + 1 + 1 + (cntL cI xs[i].window.seen : Nat) := w64 (by omega) (by omega)
    have w11 : IntKind.i64.wrap (K + 1 + (cntL cT xs[i].queue : Nat) + 1 + 1 + (cntL (fun y => cntL cCell y) xs[i].screen.rows : Nat) + 1 + 1 + (cntL cI xs[i].window.seen : Nat) + 1) = K + 1 + (cntL cT xs[i].queue : Nat) + 1 + 1 + (cntL (fun y => cntL cCell y) xs[i].screen.rows : Nat) + 1 + 1 + (cntL cI xs[i].window.seen : Nat) + 1 := w64 (by omega) (by omega)
    refine wpk_sound 3000 ?_
    simp only [go_sem, Nat.reduceBEq, beq_self_eq_true, List.all_cons, List.all_nil, Value.oneCell', Int.reduceEq, Int.reduceLT, Nat.reduceLeDiff, List.getElem?_toArray, Nat.reduceLT, Nat.reduceAdd, Nat.reduceEqDiff, reduceIte, List.append_nil, List.cons_append, List.nil_append, List.set_cons_zero, List.eraseIdx_cons_zero, List.eraseIdx_cons_succ, w0, w1, w2, w3, w4, w5, w6, w7, w8, w9, w10, w11]
    refine ⟨fun h1 => ?_, fun h1 => absurd (show (i : Int) < xs.length by omega) h1⟩
    refine ⟨⟨by omega, by omega⟩, ?_⟩
    refine SEM.storeF (P' := P') (Q' := Q') 3 0 rfl (by omega) (by simp only [go_sem, Nat.reduceBEq, beq_self_eq_true, List.all_cons, List.all_nil, Value.oneCell', Int.reduceEq, Int.reduceLT, Nat.reduceLeDiff, List.getElem?_toArray, Nat.reduceLT, Nat.reduceAdd, Nat.reduceEqDiff, reduceIte, List.append_nil, List.cons_append, List.nil_append] <;> rfl) (by simp [Value.cells]) (wpk_sound 3000 ?_) rfl rfl rfl rfl rfl rfl
    simp only [go_sem, Nat.reduceBEq, beq_self_eq_true, List.all_cons, List.all_nil, Value.oneCell', Int.reduceEq, Int.reduceLT, Nat.reduceLeDiff, List.getElem?_toArray, Nat.reduceLT, Nat.reduceAdd, Nat.reduceEqDiff, reduceIte, List.append_nil, List.cons_append, List.nil_append, List.set_cons_zero, List.eraseIdx_cons_zero, List.eraseIdx_cons_succ, w0, w1, w2, w3, w4, w5, w6, w7, w8, w9, w10, w11]
    refine ⟨⟨by omega, by omega⟩, ?_⟩
    refine SEM.loadF 1 (row_mid (P' := P') (Q' := Q') 3 rfl) (by omega) (by simp only [go_sem, Nat.reduceBEq, beq_self_eq_true, List.all_cons, List.all_nil, Value.oneCell', Int.reduceEq, Int.reduceLT, Nat.reduceLeDiff, List.getElem?_toArray, Nat.reduceLT, Nat.reduceAdd, Nat.reduceEqDiff, reduceIte, List.append_nil, List.cons_append, List.nil_append] <;> rfl) (wpk_sound 3000 ?_) rfl rfl rfl rfl
    simp only [go_sem, Nat.reduceBEq, beq_self_eq_true, List.all_cons, List.all_nil, Value.oneCell', Int.reduceEq, Int.reduceLT, Nat.reduceLeDiff, List.getElem?_toArray, Nat.reduceLT, Nat.reduceAdd, Nat.reduceEqDiff, reduceIte, List.append_nil, List.cons_append, List.nil_append, List.set_cons_zero, List.eraseIdx_cons_zero, List.eraseIdx_cons_succ, w0, w1, w2, w3, w4, w5, w6, w7, w8, w9, w10, w11]
    refine SEM.pull 2 rfl ?_
    simp only [List.eraseIdx_cons_zero, List.eraseIdx_cons_succ]
    refine SEM.callH (markStringS_c (by omega) (by omega)) (fun r => SEM.openStar (SEM.openFact fun e0 => ?_)) rfl rfl rfl rfl rfl rfl rfl cf19
    subst e0
    refine wpk_sound 3000 ?_
    simp only [go_sem, Nat.reduceBEq, beq_self_eq_true, List.all_cons, List.all_nil, Value.oneCell', Int.reduceEq, Int.reduceLT, Nat.reduceLeDiff, List.getElem?_toArray, Nat.reduceLT, Nat.reduceAdd, Nat.reduceEqDiff, reduceIte, List.append_nil, List.cons_append, List.nil_append, List.set_cons_zero, List.eraseIdx_cons_zero, List.eraseIdx_cons_succ, w0, w1, w2, w3, w4, w5, w6, w7, w8, w9, w10, w11]
    refine ⟨⟨by omega, by omega⟩, ?_⟩
    refine SEM.storeF (P' := P') (Q' := Q') 3 2 rfl (by omega) (by simp only [go_sem, Nat.reduceBEq, beq_self_eq_true, List.all_cons, List.all_nil, Value.oneCell', Int.reduceEq, Int.reduceLT, Nat.reduceLeDiff, List.getElem?_toArray, Nat.reduceLT, Nat.reduceAdd, Nat.reduceEqDiff, reduceIte, List.append_nil, List.cons_append, List.nil_append] <;> rfl) (by simp [Value.cells]) (wpk_sound 3000 ?_) rfl rfl rfl rfl rfl rfl
    simp only [go_sem, Nat.reduceBEq, beq_self_eq_true, List.all_cons, List.all_nil, Value.oneCell', Int.reduceEq, Int.reduceLT, Nat.reduceLeDiff, List.getElem?_toArray, Nat.reduceLT, Nat.reduceAdd, Nat.reduceEqDiff, reduceIte, List.append_nil, List.cons_append, List.nil_append, List.set_cons_zero, List.eraseIdx_cons_zero, List.eraseIdx_cons_succ, w0, w1, w2, w3, w4, w5, w6, w7, w8, w9, w10, w11]
    refine ⟨⟨by omega, by omega⟩, ?_⟩
    refine SEM.storeF (P' := P') (Q' := Q') 3 3 rfl (by omega) (by simp only [go_sem, Nat.reduceBEq, beq_self_eq_true, List.all_cons, List.all_nil, Value.oneCell', Int.reduceEq, Int.reduceLT, Nat.reduceLeDiff, List.getElem?_toArray, Nat.reduceLT, Nat.reduceAdd, Nat.reduceEqDiff, reduceIte, List.append_nil, List.cons_append, List.nil_append] <;> rfl) (by simp [Value.cells]) (wpk_sound 3000 ?_) rfl rfl rfl rfl rfl rfl
    simp only [go_sem, Nat.reduceBEq, beq_self_eq_true, List.all_cons, List.all_nil, Value.oneCell', Int.reduceEq, Int.reduceLT, Nat.reduceLeDiff, List.getElem?_toArray, Nat.reduceLT, Nat.reduceAdd, Nat.reduceEqDiff, reduceIte, List.append_nil, List.cons_append, List.nil_append, List.set_cons_zero, List.eraseIdx_cons_zero, List.eraseIdx_cons_succ, w0, w1, w2, w3, w4, w5, w6, w7, w8, w9, w10, w11]
    refine ⟨⟨by omega, by omega⟩, ?_⟩
    refine SEM.loadF 4 (row_mid (P' := P') (Q' := Q') 3 rfl) (by omega) (by simp only [go_sem, Nat.reduceBEq, beq_self_eq_true, List.all_cons, List.all_nil, Value.oneCell', Int.reduceEq, Int.reduceLT, Nat.reduceLeDiff, List.getElem?_toArray, Nat.reduceLT, Nat.reduceAdd, Nat.reduceEqDiff, reduceIte, List.append_nil, List.cons_append, List.nil_append] <;> rfl) (wpk_sound 3000 ?_) rfl rfl rfl rfl
    simp only [go_sem, Nat.reduceBEq, beq_self_eq_true, List.all_cons, List.all_nil, Value.oneCell', Int.reduceEq, Int.reduceLT, Nat.reduceLeDiff, List.getElem?_toArray, Nat.reduceLT, Nat.reduceAdd, Nat.reduceEqDiff, reduceIte, List.append_nil, List.cons_append, List.nil_append, List.set_cons_zero, List.eraseIdx_cons_zero, List.eraseIdx_cons_succ, w0, w1, w2, w3, w4, w5, w6, w7, w8, w9, w10, w11]
    refine SEM.pull 2 rfl ?_
    simp only [List.eraseIdx_cons_zero, List.eraseIdx_cons_succ]
    refine SEM.callH (markCellSS_c (by omega) (by omega)) (fun r => SEM.openStar (SEM.openFact fun e0 => ?_)) rfl rfl rfl rfl rfl rfl rfl cf37
    subst e0
    refine wpk_sound 3000 ?_
    simp only [go_sem, Nat.reduceBEq, beq_self_eq_true, List.all_cons, List.all_nil, Value.oneCell', Int.reduceEq, Int.reduceLT, Nat.reduceLeDiff, List.getElem?_toArray, Nat.reduceLT, Nat.reduceAdd, Nat.reduceEqDiff, reduceIte, List.append_nil, List.cons_append, List.nil_append, List.set_cons_zero, List.eraseIdx_cons_zero, List.eraseIdx_cons_succ, w0, w1, w2, w3, w4, w5, w6, w7, w8, w9, w10, w11]
    refine ⟨⟨by omega, by omega⟩, ?_⟩
    refine SEM.storeF (P' := P') (Q' := Q') 3 5 rfl (by omega) (by simp only [go_sem, Nat.reduceBEq, beq_self_eq_true, List.all_cons, List.all_nil, Value.oneCell', Int.reduceEq, Int.reduceLT, Nat.reduceLeDiff, List.getElem?_toArray, Nat.reduceLT, Nat.reduceAdd, Nat.reduceEqDiff, reduceIte, List.append_nil, List.cons_append, List.nil_append] <;> rfl) (by simp [Value.cells]) (wpk_sound 3000 ?_) rfl rfl rfl rfl rfl rfl
    simp only [go_sem, Nat.reduceBEq, beq_self_eq_true, List.all_cons, List.all_nil, Value.oneCell', Int.reduceEq, Int.reduceLT, Nat.reduceLeDiff, List.getElem?_toArray, Nat.reduceLT, Nat.reduceAdd, Nat.reduceEqDiff, reduceIte, List.append_nil, List.cons_append, List.nil_append, List.set_cons_zero, List.eraseIdx_cons_zero, List.eraseIdx_cons_succ, w0, w1, w2, w3, w4, w5, w6, w7, w8, w9, w10, w11]
    refine ⟨⟨by omega, by omega⟩, ?_⟩
    refine SEM.storeF (P' := P') (Q' := Q') 3 6 rfl (by omega) (by simp only [go_sem, Nat.reduceBEq, beq_self_eq_true, List.all_cons, List.all_nil, Value.oneCell', Int.reduceEq, Int.reduceLT, Nat.reduceLeDiff, List.getElem?_toArray, Nat.reduceLT, Nat.reduceAdd, Nat.reduceEqDiff, reduceIte, List.append_nil, List.cons_append, List.nil_append] <;> rfl) (by simp [Value.cells]) (wpk_sound 3000 ?_) rfl rfl rfl rfl rfl rfl
    simp only [go_sem, Nat.reduceBEq, beq_self_eq_true, List.all_cons, List.all_nil, Value.oneCell', Int.reduceEq, Int.reduceLT, Nat.reduceLeDiff, List.getElem?_toArray, Nat.reduceLT, Nat.reduceAdd, Nat.reduceEqDiff, reduceIte, List.append_nil, List.cons_append, List.nil_append, List.set_cons_zero, List.eraseIdx_cons_zero, List.eraseIdx_cons_succ, w0, w1, w2, w3, w4, w5, w6, w7, w8, w9, w10, w11]
    refine ⟨⟨by omega, by omega⟩, ?_⟩
    refine SEM.loadF 7 (row_mid (P' := P') (Q' := Q') 3 rfl) (by omega) (by simp only [go_sem, Nat.reduceBEq, beq_self_eq_true, List.all_cons, List.all_nil, Value.oneCell', Int.reduceEq, Int.reduceLT, Nat.reduceLeDiff, List.getElem?_toArray, Nat.reduceLT, Nat.reduceAdd, Nat.reduceEqDiff, reduceIte, List.append_nil, List.cons_append, List.nil_append] <;> rfl) (wpk_sound 3000 ?_) rfl rfl rfl rfl
    simp only [go_sem, Nat.reduceBEq, beq_self_eq_true, List.all_cons, List.all_nil, Value.oneCell', Int.reduceEq, Int.reduceLT, Nat.reduceLeDiff, List.getElem?_toArray, Nat.reduceLT, Nat.reduceAdd, Nat.reduceEqDiff, reduceIte, List.append_nil, List.cons_append, List.nil_append, List.set_cons_zero, List.eraseIdx_cons_zero, List.eraseIdx_cons_succ, w0, w1, w2, w3, w4, w5, w6, w7, w8, w9, w10, w11]
    refine SEM.pull 2 rfl ?_
    simp only [List.eraseIdx_cons_zero, List.eraseIdx_cons_succ]
    refine SEM.callH (markInt64S_c (by omega) (by omega)) (fun r => SEM.openStar (SEM.openFact fun e0 => ?_)) rfl rfl rfl rfl rfl rfl rfl cf38
    subst e0
    refine wpk_sound 3000 ?_
    simp only [go_sem, Nat.reduceBEq, beq_self_eq_true, List.all_cons, List.all_nil, Value.oneCell', Int.reduceEq, Int.reduceLT, Nat.reduceLeDiff, List.getElem?_toArray, Nat.reduceLT, Nat.reduceAdd, Nat.reduceEqDiff, reduceIte, List.append_nil, List.cons_append, List.nil_append, List.set_cons_zero, List.eraseIdx_cons_zero, List.eraseIdx_cons_succ, w0, w1, w2, w3, w4, w5, w6, w7, w8, w9, w10, w11]
    refine ⟨⟨by omega, by omega⟩, ?_⟩
    refine SEM.storeF (P' := P') (Q' := Q') 3 8 rfl (by omega) (by simp only [go_sem, Nat.reduceBEq, beq_self_eq_true, List.all_cons, List.all_nil, Value.oneCell', Int.reduceEq, Int.reduceLT, Nat.reduceLeDiff, List.getElem?_toArray, Nat.reduceLT, Nat.reduceAdd, Nat.reduceEqDiff, reduceIte, List.append_nil, List.cons_append, List.nil_append] <;> rfl) (by simp [Value.cells]) (wpk_sound 3000 ?_) rfl rfl rfl rfl rfl rfl
    simp only [go_sem, Nat.reduceBEq, beq_self_eq_true, List.all_cons, List.all_nil, Value.oneCell', Int.reduceEq, Int.reduceLT, Nat.reduceLeDiff, List.getElem?_toArray, Nat.reduceLT, Nat.reduceAdd, Nat.reduceEqDiff, reduceIte, List.append_nil, List.cons_append, List.nil_append, List.set_cons_zero, List.eraseIdx_cons_zero, List.eraseIdx_cons_succ, w0, w1, w2, w3, w4, w5, w6, w7, w8, w9, w10, w11]
    have hi1 : IntKind.i64.wrap ((i : Int) + 1) = ((i + 1 : Nat) : Int) := w64 (by omega) (by omega)
    refine ⟨⟨i + 1, by omega⟩, [], ?_, rfl, by simp [okL], ?_, by simp only; omega⟩
    · simp only [subE, get_cons, Nat.reduceEqDiff, reduceIte, hi1, hK, and_true, true_and, Int.natCast_add, ← Int.add_assoc, ← hKd]
      rw [show K + 1 + (cntL cT xs[i].queue : Nat) + 1 + 1 + (cntL (fun y => cntL cCell y) xs[i].screen.rows : Nat) + 1 + 1 + (cntL cI xs[i].window.seen : Nat) + 1 = K + (cClient xs[i] : Nat) from by simp only [cClient]; omega]
    · simp only []
      rw [mkTo_succ _ _ _ _ _ hx, ← hKd]
      refine Ent.trans ?_ (Ent.empr _)
      refine OwnS.close (P' := P') (Q' := Q') 3 rfl hlen ?_
      simp only [List.eraseIdx_cons_zero, List.eraseIdx_cons_succ]
      refine Ent.pick 3 rfl (Ent.refl _) ?_
      simp only [List.eraseIdx_cons_zero, List.eraseIdx_cons_succ]
      refine ownF_step 1 ?_
      simp only [List.take_succ_cons, List.take_zero, List.drop_succ_cons, List.drop_zero]
      refine Ent.ofact rfl ?_
      refine ownF_step 1 ?_
      simp only [List.take_succ_cons, List.take_zero, List.drop_succ_cons, List.drop_zero]
      refine Ent.pick 2 rfl (kS_own _ _ _) ?_
      simp only [List.eraseIdx_cons_zero, List.eraseIdx_cons_succ]
      refine ownF_step 1 ?_
      simp only [List.take_succ_cons, List.take_zero, List.drop_succ_cons, List.drop_zero]
      refine Ent.ofact rfl ?_
      refine ownF_step 2 ?_
      simp only [List.take_succ_cons, List.take_zero, List.drop_succ_cons, List.drop_zero]
      refine ownF_stepL 1 ?_
      simp only [List.take_succ_cons, List.take_zero, List.drop_succ_cons, List.drop_zero]
      refine Ent.ofact rfl ?_
      refine ownF_stepL 1 ?_
      simp only [List.take_succ_cons, List.take_zero, List.drop_succ_cons, List.drop_zero]
      refine Ent.pick 1 rfl (kS_own _ _ _) ?_
      simp only [List.eraseIdx_cons_zero, List.eraseIdx_cons_succ]
      refine Ent.ofact rfl ?_
      refine ownF_step 1 ?_
      simp only [List.take_succ_cons, List.take_zero, List.drop_succ_cons, List.drop_zero]
      refine Ent.ofact rfl ?_
      refine ownF_step 2 ?_
      simp only [List.take_succ_cons, List.take_zero, List.drop_succ_cons, List.drop_zero]
      refine ownF_stepL 1 ?_
      simp only [List.take_succ_cons, List.take_zero, List.drop_succ_cons, List.drop_zero]
      refine Ent.ofact rfl ?_
      refine ownF_stepL 1 ?_
      simp only [List.take_succ_cons, List.take_zero, List.drop_succ_cons, List.drop_zero]
      refine Ent.pick 0 rfl (kS_own _ _ _) ?_
      simp only [List.eraseIdx_cons_zero, List.eraseIdx_cons_succ]
      refine Ent.ofact rfl ?_
      refine ownF_step 1 ?_
      simp only [List.take_succ_cons, List.take_zero, List.drop_succ_cons, List.drop_zero]
      refine Ent.ofact rfl ?_
      exact ent_fact rfl
  · refine wpk_sound 1000 ?_
    simp only [go_sem, Nat.reduceBEq, beq_self_eq_true, List.all_cons, List.all_nil, Value.oneCell', Int.reduceEq, Int.reduceLT, Nat.reduceLeDiff, List.getElem?_toArray, Nat.reduceLT, Nat.reduceAdd, Nat.reduceEqDiff, reduceIte]
    refine ⟨fun h1 => absurd h1 (by omega), fun h1 => ?_⟩
    refine Ent.stL ?_
    rw [mkTo_all _ _ _ _ _ (by omega), List.take_of_length_le (by omega)]
    exact Ent.ofact rfl Ent.done
theorem markDatagramS_c {v : Value} {xs : List SDatagram} {k : Int} (h0 : 0 ≤ k) (hb : k + (cntL cDatagram xs : Nat) ≤ 4611686018427387904) : Go.Sep.Fn Try.prog 20 [v, .int .i64 k] (OwnS kDatagram v xs) (fun r => star (fact (r = .int .i64 (k + (cntL cDatagram xs : Nat)))) (OwnS kDatagram v (mkL mkDatagram cDatagram xs k))) := by
  refine Go.Sep.Fn.ownS1 fun A c hv hc hm hA => ?_
  subst hv
  refine Go.Sep.Fn.run1 1000 Try.func20 Try.ntmps20 rfl rfl (by simp) ?_
  simp only [go_sem, Nat.reduceBEq, beq_self_eq_true, List.all_cons, List.all_nil, Value.oneCell', Int.reduceEq, Int.reduceLT, Nat.reduceLeDiff, List.getElem?_toArray, Nat.reduceLT, Nat.reduceAdd, Nat.reduceEqDiff, reduceIte]
  refine SEM.loopI (X := { i : Nat // i ≤ xs.length }) (fun x => [(0, .v (.slice A xs.length c)), (1, .v (.int .i64 (k + (cntL cDatagram (xs.take x.1) : Nat)))), (5, .v (.int .i64 x.1))]) (fun _ => []) (fun x => [OwnS kDatagram (.slice A xs.length c) (mkTo mkDatagram cDatagram xs k x.1)]) (fun x => xs.length - x.1) ⟨0, by omega⟩ (by simp [subE, Env.get, cntL]) ⟨[], by simp⟩ (by simp [okL]) (by rw [mkTo_zero]; exact Ent.refl _) ?_
  rintro ⟨i, hi⟩
  by_cases hx : i < xs.length
  · obtain ⟨ad, rfl⟩ := hA (by omega)
    have hK := cntL_take cDatagram xs i hx
    have hle := cntL_le cDatagram xs (i + 1)
    rw [mkTo_at _ _ _ _ _ hx]
    obtain ⟨K, hKd⟩ : ∃ K, K = k + (cntL cDatagram (xs.take i) : Nat) := ⟨_, rfl⟩
    rw [← hKd]
    have hlen : xs.length = (mkL mkDatagram cDatagram (xs.take i) k).length + 1 + (xs.drop (i + 1)).length := by rw [mkL_len]; simp; omega
    have hb' : K + (cDatagram xs[i] : Nat) ≤ 4611686018427387904 := by (try simp only [] at hK); (try simp only []); omega
    have hK0 : 0 ≤ K := by omega
    simp only [cDatagram] at hb'
    refine SEM.takeOut hlen fun P' c' Q' hP => ?_
    have hP' : P'.length = i * 2 := by rw [hP, mkL_len]; simp only [List.length_take, Nat.min_eq_left hi]; rfl
    refine SEM.openFact fun e0 => ?_
    subst e0
    have w0 : IntKind.i64.wrap (K) = K := w64 (by omega) (by omega)
    have w1 : IntKind.i64.wrap (K + 1) = K + 1 := w64 (by omega) (by omega)
    have w2 : IntKind.i64.wrap (K + 1) = K + 1 := w64 (by omega) (by omega)
    have w3 : IntKind.i64.wrap (K + 1 + 1) = K + 1 + 1 := w64 (by omega) (by omega)
    refine wpk_sound 3000 ?_
    simp only [go_sem, Nat.reduceBEq, beq_self_eq_true, List.all_cons, List.all_nil, Value.oneCell', Int.reduceEq, Int.reduceLT, Nat.reduceLeDiff, List.getElem?_toArray, Nat.reduceLT, Nat.reduceAdd, Nat.reduceEqDiff, reduceIte, List.append_nil, List.cons_append, List.nil_append, List.set_cons_zero, List.eraseIdx_cons_zero, List.eraseIdx_cons_succ, w0, w1, w2, w3]
    refine ⟨fun h1 => ?_, fun h1 => absurd (show (i : Int) < xs.length by omega) h1⟩
    refine ⟨⟨by omega, by omega⟩, ?_⟩
    refine SEM.storeF (P' := P') (Q' := Q') 0 0 rfl (by omega) (by simp only [go_sem, Nat.reduceBEq, beq_self_eq_true, List.all_cons, List.all_nil, Value.oneCell', Int.reduceEq, Int.reduceLT, Nat.reduceLeDiff, List.getElem?_toArray, Nat.reduceLT, Nat.reduceAdd, Nat.reduceEqDiff, reduceIte, List.append_nil, List.cons_append, List.nil_append] <;> rfl) (by simp [Value.cells]) (wpk_sound 3000 ?_) rfl rfl rfl rfl rfl rfl
    simp only [go_sem, Nat.reduceBEq, beq_self_eq_true, List.all_cons, List.all_nil, Value.oneCell', Int.reduceEq, Int.reduceLT, Nat.reduceLeDiff, List.getElem?_toArray, Nat.reduceLT, Nat.reduceAdd, Nat.reduceEqDiff, reduceIte, List.append_nil, List.cons_append, List.nil_append, List.set_cons_zero, List.eraseIdx_cons_zero, List.eraseIdx_cons_succ, w0, w1, w2, w3]
    refine SEM.callP (markText_c (by omega)) (wpk_sound 3000 ?_) rfl rfl rfl rfl rfl rfl rfl cf39
    simp only [go_sem, Nat.reduceBEq, beq_self_eq_true, List.all_cons, List.all_nil, Value.oneCell', Int.reduceEq, Int.reduceLT, Nat.reduceLeDiff, List.getElem?_toArray, Nat.reduceLT, Nat.reduceAdd, Nat.reduceEqDiff, reduceIte, List.append_nil, List.cons_append, List.nil_append, List.set_cons_zero, List.eraseIdx_cons_zero, List.eraseIdx_cons_succ, w0, w1, w2, w3]
    refine ⟨⟨by omega, by omega⟩, ?_⟩
    refine SEM.storeF (P' := P') (Q' := Q') 0 1 rfl (by omega) (by simp only [go_sem, Nat.reduceBEq, beq_self_eq_true, List.all_cons, List.all_nil, Value.oneCell', Int.reduceEq, Int.reduceLT, Nat.reduceLeDiff, List.getElem?_toArray, Nat.reduceLT, Nat.reduceAdd, Nat.reduceEqDiff, reduceIte, List.append_nil, List.cons_append, List.nil_append] <;> rfl) (by simp [Value.cells]) (wpk_sound 3000 ?_) rfl rfl rfl rfl rfl rfl
    simp only [go_sem, Nat.reduceBEq, beq_self_eq_true, List.all_cons, List.all_nil, Value.oneCell', Int.reduceEq, Int.reduceLT, Nat.reduceLeDiff, List.getElem?_toArray, Nat.reduceLT, Nat.reduceAdd, Nat.reduceEqDiff, reduceIte, List.append_nil, List.cons_append, List.nil_append, List.set_cons_zero, List.eraseIdx_cons_zero, List.eraseIdx_cons_succ, w0, w1, w2, w3]
    have hi1 : IntKind.i64.wrap ((i : Int) + 1) = ((i + 1 : Nat) : Int) := w64 (by omega) (by omega)
    refine ⟨⟨i + 1, by omega⟩, [], ?_, rfl, by simp [okL], ?_, by simp only; omega⟩
    · simp only [subE, get_cons, Nat.reduceEqDiff, reduceIte, hi1, hK, and_true, true_and, Int.natCast_add, ← Int.add_assoc, ← hKd]
      rw [show K + 1 + 1 = K + (cDatagram xs[i] : Nat) from by simp only [cDatagram]; omega]
    · simp only []
      rw [mkTo_succ _ _ _ _ _ hx, ← hKd]
      refine Ent.trans ?_ (Ent.empr _)
      refine OwnS.close (P' := P') (Q' := Q') 0 rfl hlen ?_
      simp only [List.eraseIdx_cons_zero, List.eraseIdx_cons_succ]
      refine Ent.pick 0 rfl (Ent.refl _) ?_
      simp only [List.eraseIdx_cons_zero, List.eraseIdx_cons_succ]
      exact ent_fact rfl
  · refine wpk_sound 1000 ?_
    simp only [go_sem, Nat.reduceBEq, beq_self_eq_true, List.all_cons, List.all_nil, Value.oneCell', Int.reduceEq, Int.reduceLT, Nat.reduceLeDiff, List.getElem?_toArray, Nat.reduceLT, Nat.reduceAdd, Nat.reduceEqDiff, reduceIte]
    refine ⟨fun h1 => absurd h1 (by omega), fun h1 => ?_⟩
    refine Ent.stL ?_
    rw [mkTo_all _ _ _ _ _ (by omega), List.take_of_length_le (by omega)]
    exact Ent.ofact rfl Ent.done
theorem markWorld_c {cs : List Value} {x : SWorld} {k : Int} (h0 : 0 ≤ k) (hb : k + (cvWorld x : Nat) ≤ 4611686018427387904) : Go.Sep.Fn Try.prog 7 [.agg cs.toArray, .int .i64 k] (kWorld.own x cs) (fun r => star (fact (r = .int .i64 (k + (cvWorld x : Nat)))) (kWorld.own (mkvWorld x k) cs)) := by
  simp only [cvWorld] at hb
  refine FnH.one ?_
  refine FnH.openEx fun c1 => FnH.openEx fun c2 => FnH.openStar (FnH.openFact fun e0 => FnH.openStar ?_)
  subst e0
  refine FnH.openEx fun c1 => FnH.openEx fun c2 => FnH.openStar (FnH.openFact fun e0 => FnH.openStar ?_)
  subst e0
  refine FnH.openEx fun q0 => FnH.openStar (FnH.openFact fun e0 => ?_)
  subst e0
  refine FnH.swap ?_
  refine FnH.openEx fun c1 => FnH.openEx fun c2 => FnH.openStar (FnH.openFact fun e0 => FnH.openStar ?_)
  subst e0
  refine FnH.openEx fun q1 => FnH.openStar (FnH.openFact fun e0 => ?_)
  subst e0
  refine FnH.swap ?_
  refine FnH.openEx fun c1 => FnH.openEx fun c2 => FnH.openStar (FnH.openFact fun e0 => FnH.openStar ?_)
  subst e0
  refine FnH.openEx fun q2 => FnH.openStar (FnH.openFact fun e0 => ?_)
  subst e0
  refine FnH.swap ?_
  refine FnH.openFact fun e0 => ?_
  subst e0
  refine FnH.pull 3 rfl ?_
  simp only [List.eraseIdx_cons_zero, List.eraseIdx_cons_succ]
  refine FnH.openEx fun c1 => FnH.openEx fun c2 => FnH.openStar (FnH.openFact fun e0 => FnH.openStar ?_)
  subst e0
  refine FnH.openEx fun q3 => FnH.openStar (FnH.openFact fun e0 => ?_)
  subst e0
  refine FnH.swap ?_
  refine FnH.openEx fun c1 => FnH.openEx fun c2 => FnH.openStar (FnH.openFact fun e0 => FnH.openStar ?_)
  subst e0
  refine FnH.openEx fun q4 => FnH.openStar (FnH.openFact fun e0 => ?_)
  subst e0
  refine FnH.swap ?_
  refine FnH.openEx fun c1 => FnH.openEx fun c2 => FnH.openStar (FnH.openFact fun e0 => FnH.openStar ?_)
  subst e0
  refine FnH.openEx fun q5 => FnH.openStar (FnH.openFact fun e0 => ?_)
  subst e0
  refine FnH.swap ?_
  refine FnH.openFact fun e0 => ?_
  subst e0
  refine Go.Sep.Fn.run 3000 Try.func7 Try.ntmps7 rfl rfl (by simp) ?_
  simp only [go_sem, Nat.reduceBEq, beq_self_eq_true, List.all_cons, List.all_nil, Value.oneCell', Int.reduceEq, Int.reduceLT, Nat.reduceLeDiff, List.getElem?_toArray, Nat.reduceLT, Nat.reduceAdd, Nat.reduceEqDiff, reduceIte, List.append_nil, List.cons_append, List.nil_append, List.eraseIdx_cons_zero, List.eraseIdx_cons_succ]
  intro b0
  refine SEM.close (kChain.own x.chain [q0, q1, q2]) [5, 4, 3] ?_ ?_
  · simp only [List.foldl_cons, List.foldl_nil, List.eraseIdx_cons_zero, List.eraseIdx_cons_succ]
    refine ownF_stepL 1 ?_
    simp only [List.take_succ_cons, List.take_zero, List.drop_succ_cons, List.drop_zero]
    refine Ent.pick 5 rfl (kS_own _ _ _) ?_
    simp only [List.eraseIdx_cons_zero, List.eraseIdx_cons_succ]
    refine ownF_stepL 1 ?_
    simp only [List.take_succ_cons, List.take_zero, List.drop_succ_cons, List.drop_zero]
    refine Ent.pick 4 rfl (kS_own _ _ _) ?_
    simp only [List.eraseIdx_cons_zero, List.eraseIdx_cons_succ]
    refine ownF_stepL 1 ?_
    simp only [List.take_succ_cons, List.take_zero, List.drop_succ_cons, List.drop_zero]
    refine Ent.pick 3 rfl (kS_own _ _ _) ?_
    simp only [List.eraseIdx_cons_zero, List.eraseIdx_cons_succ]
    refine Ent.ofact rfl ?_
    exact Ent.refl _
  simp only [List.foldl_cons, List.foldl_nil, List.eraseIdx_cons_zero, List.eraseIdx_cons_succ]
  refine SEM.callH (markChain_c (by omega) (by omega)) (fun r => SEM.openStar (SEM.openFact fun e0 => ?_)) rfl rfl rfl rfl rfl rfl rfl cf17
  subst e0
  refine wpk_sound 3000 ?_
  simp only [go_sem, Nat.reduceBEq, beq_self_eq_true, List.all_cons, List.all_nil, Value.oneCell', Int.reduceEq, Int.reduceLT, Nat.reduceLeDiff, List.getElem?_toArray, Nat.reduceLT, Nat.reduceAdd, Nat.reduceEqDiff, reduceIte, List.append_nil, List.cons_append, List.nil_append, List.eraseIdx_cons_zero, List.eraseIdx_cons_succ]
  refine SEM.pull 3 rfl ?_
  simp only [List.eraseIdx_cons_zero, List.eraseIdx_cons_succ]
  refine SEM.callH (markClientS_c (by omega) (by omega)) (fun r => SEM.openStar (SEM.openFact fun e0 => ?_)) rfl rfl rfl rfl rfl rfl rfl cf18
  subst e0
  refine wpk_sound 3000 ?_
  simp only [go_sem, Nat.reduceBEq, beq_self_eq_true, List.all_cons, List.all_nil, Value.oneCell', Int.reduceEq, Int.reduceLT, Nat.reduceLeDiff, List.getElem?_toArray, Nat.reduceLT, Nat.reduceAdd, Nat.reduceEqDiff, reduceIte, List.append_nil, List.cons_append, List.nil_append, List.eraseIdx_cons_zero, List.eraseIdx_cons_succ]
  refine SEM.pull 3 rfl ?_
  simp only [List.eraseIdx_cons_zero, List.eraseIdx_cons_succ]
  refine SEM.callH (markStringS_c (by omega) (by omega)) (fun r => SEM.openStar (SEM.openFact fun e0 => ?_)) rfl rfl rfl rfl rfl rfl rfl cf19
  subst e0
  refine wpk_sound 3000 ?_
  simp only [go_sem, Nat.reduceBEq, beq_self_eq_true, List.all_cons, List.all_nil, Value.oneCell', Int.reduceEq, Int.reduceLT, Nat.reduceLeDiff, List.getElem?_toArray, Nat.reduceLT, Nat.reduceAdd, Nat.reduceEqDiff, reduceIte, List.append_nil, List.cons_append, List.nil_append, List.eraseIdx_cons_zero, List.eraseIdx_cons_succ]
  refine SEM.pull 3 rfl ?_
  simp only [List.eraseIdx_cons_zero, List.eraseIdx_cons_succ]
  refine SEM.callH (markDatagramS_c (by omega) (by omega)) (fun r => SEM.openStar (SEM.openFact fun e0 => ?_)) rfl rfl rfl rfl rfl rfl rfl cf20
  subst e0
  refine wpk_sound 3000 ?_
  simp only [go_sem, Nat.reduceBEq, beq_self_eq_true, List.all_cons, List.all_nil, Value.oneCell', Int.reduceEq, Int.reduceLT, Nat.reduceLeDiff, List.getElem?_toArray, Nat.reduceLT, Nat.reduceAdd, Nat.reduceEqDiff, reduceIte, List.append_nil, List.cons_append, List.nil_append, List.eraseIdx_cons_zero, List.eraseIdx_cons_succ]
  refine Ent.stL ?_
  refine Ent.ofact (by simp only [cvWorld]; congr 1; omega) ?_
  refine ownF_step 3 ?_
  simp only [List.take_succ_cons, List.take_zero, List.drop_succ_cons, List.drop_zero]
  refine Ent.pick 3 rfl (Ent.refl _) ?_
  simp only [List.eraseIdx_cons_zero, List.eraseIdx_cons_succ]
  refine ownF_step 1 ?_
  simp only [List.take_succ_cons, List.take_zero, List.drop_succ_cons, List.drop_zero]
  refine Ent.pick 2 rfl (kS_own _ _ _) ?_
  simp only [List.eraseIdx_cons_zero, List.eraseIdx_cons_succ]
  refine ownF_step 1 ?_
  simp only [List.take_succ_cons, List.take_zero, List.drop_succ_cons, List.drop_zero]
  refine Ent.pick 1 rfl (kS_own _ _ _) ?_
  simp only [List.eraseIdx_cons_zero, List.eraseIdx_cons_succ]
  refine ownF_step 1 ?_
  simp only [List.take_succ_cons, List.take_zero, List.drop_succ_cons, List.drop_zero]
  refine Ent.pick 0 rfl (kS_own _ _ _) ?_
  simp only [List.eraseIdx_cons_zero, List.eraseIdx_cons_succ]
  exact ent_fact rfl
end Go.Proofs.Ytfdhfnoljejkkaa
