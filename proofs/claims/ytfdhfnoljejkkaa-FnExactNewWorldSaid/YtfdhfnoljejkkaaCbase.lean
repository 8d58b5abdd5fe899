/-
  What functions of the program do, each once. Printed by my programs con.py and fam.py for seat Ytfdhfnoljejkkaa.
-/
import Derived.Test.YtfdhfnoljejkkaaTy
set_option linter.unusedVariables false
set_option linter.unusedSimpArgs false
namespace Go.Proofs.Ytfdhfnoljejkkaa
open Go Go.Sep Classical
theorem l1In_c (a b c : Int) : PFn Try.prog 25 [.int .i64 a, .int .i64 b, .int .i64 c] (.bool (decide (b ≤ a) && decide (a ≤ c))) := by
  refine PFn.run 1000 Try.func25 Try.ntmps25 rfl rfl (by simp) ?_
  simp only [go_sem, Int.toNat_zero, Nat.sub_zero, Nat.zero_mul, Nat.reduceBEq, beq_self_eq_true, List.all_cons, List.all_nil, Value.oneCell', Int.reduceEq, Int.reduceLT, Nat.reduceLeDiff, List.getElem?_toArray, Nat.reduceLT, Nat.reduceAdd, Nat.reduceEqDiff, reduceIte]
  exact ⟨fun h => ent_fact (by simp [h]), fun h => ent_fact (by simp [h])⟩
theorem in_c (a b c : Int) : PFn Try.prog 27 [.int .i64 a, .int .i64 b, .int .i64 c] (.bool (decide (b ≤ a) && decide (a ≤ c))) := by
  refine PFn.run 1000 Try.func27 Try.ntmps27 rfl rfl (by simp) ?_
  simp only [go_sem, Int.toNat_zero, Nat.sub_zero, Nat.zero_mul, Nat.reduceBEq, beq_self_eq_true, List.all_cons, List.all_nil, Value.oneCell', Int.reduceEq, Int.reduceLT, Nat.reduceLeDiff, List.getElem?_toArray, Nat.reduceLT, Nat.reduceAdd, Nat.reduceEqDiff, reduceIte]
  exact ⟨fun h => ent_fact (by simp [h]), fun h => ent_fact (by simp [h])⟩
def styleOk (s : SStyle) : Bool := decide (0 ≤ s.fore ∧ s.fore ≤ 8 ∧ 0 ≤ s.back ∧ s.back ≤ 8)
def blankC (s : SStyle) : SCell := { rune := 32, style := s, part := 0 }
theorem StyleOk_c (s : SStyle) : PFn Try.prog 54 [.agg (encStyle s).toArray] (.bool (styleOk s)) := by
  refine PFn.run 1000 Try.func54 Try.ntmps54 rfl rfl (by simp) ?_
  simp only [go_sem, Int.toNat_zero, Nat.sub_zero, Nat.zero_mul, Nat.reduceBEq, beq_self_eq_true, List.all_cons, List.all_nil, Value.oneCell', Int.reduceEq, Int.reduceLT, Nat.reduceLeDiff, List.getElem?_toArray, Nat.reduceLT, Nat.reduceAdd, Nat.reduceEqDiff, reduceIte]
  intro b0
  refine SEM.callP (in_c _ _ _) (wpk_sound 1000 ?_) rfl rfl rfl rfl rfl rfl rfl cf27
  simp only [go_sem, Int.toNat_zero, Nat.sub_zero, Nat.zero_mul, Nat.reduceBEq, beq_self_eq_true, List.all_cons, List.all_nil, Value.oneCell', Int.reduceEq, Int.reduceLT, Nat.reduceLeDiff, List.getElem?_toArray, Nat.reduceLT, Nat.reduceAdd, Nat.reduceEqDiff, reduceIte]
  refine ⟨fun h => ?_, fun h => ?_⟩
  · refine SEM.callP (in_c _ _ _) (wpk_sound 1000 ?_) rfl rfl rfl rfl rfl rfl rfl cf27
    simp only [go_sem, Int.toNat_zero, Nat.sub_zero, Nat.zero_mul, Nat.reduceBEq, beq_self_eq_true, List.all_cons, List.all_nil, Value.oneCell', Int.reduceEq, Int.reduceLT, Nat.reduceLeDiff, List.getElem?_toArray, Nat.reduceLT, Nat.reduceAdd, Nat.reduceEqDiff, reduceIte]
    exact ent_fact (by simp at h; simp [styleOk, h])
  · exact ent_fact (by simp at h; simp [styleOk]; omega)
theorem l4Blank_c (s : SStyle) : PFn Try.prog 53 [.agg (encStyle s).toArray] (.agg (encCell (blankC s)).toArray) := by
  refine PFn.run 1000 Try.func53 Try.ntmps53 rfl rfl (by simp) ?_
  simp only [go_sem, Int.toNat_zero, Nat.sub_zero, Nat.zero_mul, Nat.reduceBEq, beq_self_eq_true, List.all_cons, List.all_nil, Value.oneCell', Int.reduceEq, Int.reduceLT, Nat.reduceLeDiff, List.getElem?_toArray, Nat.reduceLT, Nat.reduceAdd, Nat.reduceEqDiff, reduceIte]
  intro b0
  intro b1
  exact ent_fact rfl
theorem blank_c (s : SStyle) : PFn Try.prog 56 [.agg (encStyle s).toArray] (.agg (encCell (blankC s)).toArray) := by
  refine PFn.run 1000 Try.func56 Try.ntmps56 rfl rfl (by simp) ?_
  simp only [go_sem, Int.toNat_zero, Nat.sub_zero, Nat.zero_mul, Nat.reduceBEq, beq_self_eq_true, List.all_cons, List.all_nil, Value.oneCell', Int.reduceEq, Int.reduceLT, Nat.reduceLeDiff, List.getElem?_toArray, Nat.reduceLT, Nat.reduceAdd, Nat.reduceEqDiff, reduceIte]
  intro b0
  intro b1
  exact ent_fact rfl
theorem l4Row_c {w : World} (cols : Int) (s : SStyle) (hm : cols ≤ 1048576) : MFn Try.prog 45 [.int .i64 cols, .agg (encStyle s).toArray] w (fun r => OwnS kCell r (List.replicate cols.toNat (blankC s))) := by
  refine MFn.run 1000 Try.func45 Try.ntmps45 rfl rfl (by simp) ?_
  simp only [go_sem, Int.toNat_zero, Nat.sub_zero, Nat.zero_mul, Nat.reduceBEq, beq_self_eq_true, List.all_cons, List.all_nil, Value.oneCell', Int.reduceEq, Int.reduceLT, Nat.reduceLeDiff, List.getElem?_toArray, Nat.reduceLT, Nat.reduceAdd, Nat.reduceEqDiff, reduceIte]
  intro b0
  refine SEM.buildSlice (vs := []) (cells := #[]) rfl rfl rfl sl75 sz88 ze88 (by omega) (by omega) rfl (by simp [Instr.fill]) rfl AllOne.nil fun b => ?_
  refine wpk_sound 1000 ?_
  simp only [go_sem, Int.toNat_zero, Nat.sub_zero, Nat.zero_mul, Nat.reduceBEq, beq_self_eq_true, List.all_cons, List.all_nil, Value.oneCell', Int.reduceEq, Int.reduceLT, Nat.reduceLeDiff, List.getElem?_toArray, Nat.reduceLT, Nat.reduceAdd, Nat.reduceEqDiff, reduceIte]
  refine SEM.loopI (X := { i : Nat // i ≤ cols.toNat } × Value) (fun x => [(0, .v (.int .i64 cols)), (5, .v x.2), (6, .v (.int .i64 x.1.1)), (3, .l 0 0)]) (fun _ => [(b0, encStyle s)]) (fun x => [Row x.2 x.1.1 7 (List.replicate x.1.1 (encCell (blankC s))).flatten, amb w]) (fun x => cols.toNat - x.1.1) (⟨0, by omega⟩, _) (by simp [subE, Env.get]) ⟨[], rfl⟩ (by simp [okL]) (Ent.refl _) ?_
  rintro ⟨⟨i, hi⟩, v⟩
  refine SEM.rowShape fun A c hv hc hA hl hx hone => ?_
  simp only at hv
  subst hv
  refine wpk_sound 1000 ?_
  simp only [go_sem, Int.toNat_zero, Nat.sub_zero, Nat.zero_mul, Nat.reduceBEq, beq_self_eq_true, List.all_cons, List.all_nil, Value.oneCell', Int.reduceEq, Int.reduceLT, Nat.reduceLeDiff, List.getElem?_toArray, Nat.reduceLT, Nat.reduceAdd, Nat.reduceEqDiff, reduceIte]
  refine ⟨fun h1 => ?_, fun h1 => ?_⟩
  · refine SEM.callP (l4Blank_c s) (wpk_sound 1000 ?_) rfl rfl rfl rfl rfl rfl rfl cf53
    simp only [go_sem, Int.toNat_zero, Nat.sub_zero, Nat.zero_mul, Nat.reduceBEq, beq_self_eq_true, List.all_cons, List.all_nil, Value.oneCell', Int.reduceEq, Int.reduceLT, Nat.reduceLeDiff, List.getElem?_toArray, Nat.reduceLT, Nat.reduceAdd, Nat.reduceEqDiff, reduceIte]
    refine SEM.build1 (sz := 7) rfl rfl (one_of rfl) (fun b1 => ?_) rfl rfl rfl rfl sl75 sz88 ze88 (by omega) (by omega)
    refine wpk_sound 1000 ?_
    simp only [go_sem, Int.toNat_zero, Nat.sub_zero, Nat.zero_mul, Nat.reduceBEq, beq_self_eq_true, List.all_cons, List.all_nil, Value.oneCell', Int.reduceEq, Int.reduceLT, Nat.reduceLeDiff, List.getElem?_toArray, Nat.reduceLT, Nat.reduceAdd, Nat.reduceEqDiff, reduceIte]
    refine SEM.appendX 1 (encCell (blankC s)) rfl ((H_says (i := 0) rfl (Row.cells _ _ _ _ _)).imp fun w h => Reads.slice h rfl) rfl (one_of rfl) (by omega) (by omega) (fun A' c' => ?_) rfl rfl rfl rfl rfl rfl rfl rfl sl75 sr75 sz88 ze88 rfl by88 (by omega)
    have hw : IntKind.i64.wrap ((i : Int) + 1) = ((i + 1 : Nat) : Int) := w64 (by omega) (by omega)
    refine wpk_sound 1000 ?_
    simp only [go_sem, Int.toNat_zero, Nat.sub_zero, Nat.zero_mul, Nat.reduceBEq, beq_self_eq_true, List.all_cons, List.all_nil, Value.oneCell', Int.reduceEq, Int.reduceLT, Nat.reduceLeDiff, List.getElem?_toArray, Nat.reduceLT, Nat.reduceAdd, Nat.reduceEqDiff, reduceIte, hw]
    refine ⟨(⟨i + 1, by omega⟩, .slice A' (i + 1) c'), [], by simp [subE, get_cons], rfl, by simp [okL], ?_, by simp only; omega⟩
    refine Ent.pick 1 rfl ?_ (Ent.pick 1 rfl (Ent.refl _) (Ent.to_emp _))
    rw [← rep_succ]
    exact Ent.refl _
  · obtain rfl : i = cols.toNat := by omega
    exact Ent.stL (Ent.pick 0 rfl (OwnS.of_rep (enc := encCell) (fun _ => rfl) (fun _ => one_of rfl) _ _ _) (Ent.last (Ent.refl _)))
end Go.Proofs.Ytfdhfnoljejkkaa
