/-
  What functions of the program do, each once. Printed by my programs con.py and fam.py for seat Ytfdhfnoljejkkaa.
-/
import Derived.Test.YtfdhfnoljejkkaaTy
set_option linter.unusedVariables false
set_option linter.unusedSimpArgs false
namespace Go.Proofs.Ytfdhfnoljejkkaa
open Go Go.Sep Classical
theorem markText_c {k : Int} (hk : k ≤ 4611686018427387904) : PFn Try.prog 39 [.int .i64 k] (.string (mText k)) := by
  refine PFn.run 1000 Try.func39 Try.ntmps39 rfl rfl (by simp) ?_
  simp only [go_sem, Nat.reduceBEq, beq_self_eq_true, List.all_cons, List.all_nil, Value.oneCell', Int.reduceEq, Int.reduceLT, Nat.reduceLeDiff, List.getElem?_toArray, Nat.reduceLT, Nat.reduceAdd, Nat.reduceEqDiff, reduceIte]
  refine ⟨fun h => ent_fact (by simp [mText, h]), fun h => ?_⟩
  refine SEM.loopI (X := { p : Nat × Int × ByteArray // mGo p.1 p.2.1 p.2.2 = mGo 64 k ByteArray.empty ∧ 0 ≤ p.2.1 ∧ p.2.1 ≤ 4611686018427387904 ∧ p.2.1 < 10 ^ p.1 ∧ p.2.2.size + p.1 = 64 }) (fun x => [(0, .v (.int .i64 x.1.2.1)), (3, .v (.string x.1.2.2))]) (fun _ => []) (fun _ => []) (fun x => x.1.1)
    ⟨(64, k, ByteArray.empty), rfl, by simp only; omega, hk, by simp only; omega, rfl⟩ (by simp [subE, Env.get]; rfl) ⟨[], by simp⟩ (by simp [okL]) (Ent.refl _) ?_
  rintro ⟨⟨n, j, out⟩, hg, h0, hm, hlt, hs⟩
  simp only at hg h0 hm hlt hs
  refine wpk_sound 1000 ?_
  simp only [go_sem, Nat.reduceBEq, beq_self_eq_true, List.all_cons, List.all_nil, Value.oneCell', Int.reduceEq, Int.reduceLT, Nat.reduceLeDiff, List.getElem?_toArray, Nat.reduceLT, Nat.reduceAdd, Nat.reduceEqDiff, reduceIte]
  refine ⟨fun h1 => ?_, fun h1 => ?_⟩
  · obtain ⟨m, rfl⟩ : ∃ m, n = m + 1 := ⟨n - 1, by rcases n with _ | n <;> omega⟩
    have hd := Int.tmod_eq_emod_of_nonneg (b := 10) h0
    have hq := Int.tdiv_eq_ediv_of_nonneg (b := 10) h0
    have w1 : IntKind.i64.wrap (48 + j.tmod 10) = 48 + j.tmod 10 := w64 (by omega) (by omega)
    have w2 : IntKind.u8.wrap (48 + j.tmod 10) = 48 + j.tmod 10 := by rw [IntKind.wrap_u8]; omega
    have w3 : IntKind.i64.wrap (j.tdiv 10) = j.tdiv 10 := w64 (by omega) (by omega)
    have hdig : byteCells (mDig j) = [.int .u8 (48 + j.tmod 10)] := by
      simp only [mDig, byteCells, List.map_cons, List.map_nil, UInt8.toNat_ofNat', List.cons.injEq, and_true, Value.int.injEq, true_and]
      omega
    refine SEM.buildSlice (vs := [.int .u8 (48 + j.tmod 10)]) (cells := #[.int .u8 (48 + j.tmod 10)]) rfl rfl rfl sl86 sz5 ze5 (by omega) (by omega) (by simp only [go_sem, Nat.reduceBEq, beq_self_eq_true, List.all_cons, List.all_nil, Value.oneCell', Int.reduceEq, Int.reduceLT, Nat.reduceLeDiff, List.getElem?_toArray, Nat.reduceLT, Nat.reduceAdd, Nat.reduceEqDiff, reduceIte, w1, w2]) (by simp [Instr.fill, Value.cells]; apply Array.ext'; simp [List.range_succ]) rfl (one_of rfl) fun b => ?_
    refine wpk_sound 1000 ?_
    simp only [go_sem, Nat.reduceBEq, beq_self_eq_true, List.all_cons, List.all_nil, Value.oneCell', Int.reduceEq, Int.reduceLT, Nat.reduceLeDiff, List.getElem?_toArray, Nat.reduceLT, Nat.reduceAdd, Nat.reduceEqDiff, reduceIte]
    refine SEM.toStr (mDig j) rfl ((H_says (i := 0) rfl (Row.cells _ _ _ _ _)).imp fun w h => by rw [hdig]; exact h) (wpk_sound 1000 ?_) rfl rfl rfl rfl sl86 in5 st9
    have hsz : (mDig j).size + out.size ≤ 9223372036854775807 := by
      have : (mDig j).size = 1 := rfl
      omega
    simp only [go_sem, Nat.reduceBEq, beq_self_eq_true, List.all_cons, List.all_nil, Value.oneCell', Int.reduceEq, Int.reduceLT, Nat.reduceLeDiff, List.getElem?_toArray, Nat.reduceLT, Nat.reduceAdd, Nat.reduceEqDiff, reduceIte, hsz, w3]
    refine ⟨⟨⟨m, j.tdiv 10, mDig j ++ out⟩, ?_, by simp only; omega, by simp only; omega, by simp only; omega, ?_⟩, [], by simp [subE, Env.get], rfl, by simp [okL], Ent.to_emp _, by simp⟩
    · rw [← hg]
      simp only [mGo, h1, if_true]
    · have : (mDig j).size = 1 := rfl
      simp only [ByteArray.size_append]
      omega
  · have hj : j = 0 := by omega
    have he : mText k = ⟨#[109]⟩ ++ out := by
      unfold mText
      rw [if_neg h, ← hg]
      cases n <;> simp [mGo, hj]
    have hsz : (#[(109 : UInt8)]).size + out.size ≤ 9223372036854775807 := by
      have : (#[(109 : UInt8)]).size = 1 := rfl
      omega
    simp only [go_sem, Nat.reduceBEq, beq_self_eq_true, List.all_cons, List.all_nil, Value.oneCell', Int.reduceEq, Int.reduceLT, Nat.reduceLeDiff, List.getElem?_toArray, Nat.reduceLT, Nat.reduceAdd, Nat.reduceEqDiff, reduceIte, hsz]
    exact ent_fact (by rw [he])
end Go.Proofs.Ytfdhfnoljejkkaa
