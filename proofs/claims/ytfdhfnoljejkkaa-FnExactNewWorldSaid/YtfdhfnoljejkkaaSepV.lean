/-
  Slices that a function turns in place, one element after the other.
  Plain definitions and theorems; nothing of a program in it.
-/
import Derived.Test.YtfdhfnoljejkkaaSepU
set_option linter.unusedVariables false
set_option linter.unusedSimpArgs false
namespace Go.Sep
open Go Go.RowKit

/-! ### One element after the other, each with its number -/
def cntL {α : Type} (c : α → Nat) : List α → Nat
  | [] => 0
  | x :: xs => c x + cntL c xs
def mkL {α : Type} (f : α → Int → α) (c : α → Nat) : List α → Int → List α
  | [], _ => []
  | x :: xs, k => f x k :: mkL f c xs (k + c x)
theorem cntL_append {α : Type} (c : α → Nat) (xs ys : List α) : cntL c (xs ++ ys) = cntL c xs + cntL c ys := by
  induction xs with
  | nil => simp [cntL]
  | cons x xs ih => simp [cntL, ih]; omega
theorem mkL_append {α : Type} (f : α → Int → α) (c : α → Nat) (xs ys : List α) : ∀ k, mkL f c (xs ++ ys) k = mkL f c xs k ++ mkL f c ys (k + cntL c xs) := by
  induction xs with
  | nil => intro k; simp [mkL, cntL]
  | cons x xs ih => intro k; simp [mkL, cntL, ih, Int.add_assoc]
theorem mkL_len {α : Type} (f : α → Int → α) (c : α → Nat) (xs : List α) : ∀ k, (mkL f c xs k).length = xs.length := by
  induction xs with
  | nil => intro k; rfl
  | cons x xs ih => intro k; simp [mkL, ih]
theorem take_succ' {α : Type} (xs : List α) (i : Nat) (h : i < xs.length) : xs.take (i + 1) = xs.take i ++ [xs[i]] := (List.take_append_getElem h).symm
theorem cntL_take {α : Type} (c : α → Nat) (xs : List α) (i : Nat) (h : i < xs.length) : cntL c (xs.take (i + 1)) = cntL c (xs.take i) + c xs[i] := by
  rw [take_succ' xs i h, cntL_append]; simp [cntL]
theorem cntL_le {α : Type} (c : α → Nat) (xs : List α) (i : Nat) : cntL c (xs.take i) ≤ cntL c xs := by
  conv => rhs; rw [← List.take_append_drop i xs, cntL_append]
  omega
/-- What stands there when i elements are turned. -/
def mkTo {α : Type} (f : α → Int → α) (c : α → Nat) (xs : List α) (k : Int) (i : Nat) : List α := mkL f c (xs.take i) k ++ xs.drop i
theorem mkTo_zero {α : Type} (f : α → Int → α) (c : α → Nat) (xs : List α) (k : Int) : mkTo f c xs k 0 = xs := by simp [mkTo, mkL]
theorem mkTo_all {α : Type} (f : α → Int → α) (c : α → Nat) (xs : List α) (k : Int) (i : Nat) (h : xs.length ≤ i) : mkTo f c xs k i = mkL f c xs k := by
  simp [mkTo, List.take_of_length_le h, List.drop_eq_nil_of_le h]
theorem mkTo_at {α : Type} (f : α → Int → α) (c : α → Nat) (xs : List α) (k : Int) (i : Nat) (h : i < xs.length) : mkTo f c xs k i = mkL f c (xs.take i) k ++ xs[i] :: xs.drop (i + 1) := by
  unfold mkTo
  rw [List.drop_eq_getElem_cons h]
theorem mkTo_succ {α : Type} (f : α → Int → α) (c : α → Nat) (xs : List α) (k : Int) (i : Nat) (h : i < xs.length) :
    mkTo f c xs k (i + 1) = mkL f c (xs.take i) k ++ f xs[i] (k + cntL c (xs.take i)) :: xs.drop (i + 1) := by
  unfold mkTo
  rw [take_succ' xs i h, mkL_append]
  simp only [mkL, List.append_assoc, List.cons_append, List.nil_append]
theorem mkL_at {α : Type} (f : α → Int → α) (c : α → Nat) (xs : List α) (k : Int) (i : Nat) (h : i < xs.length) : (mkL f c xs k)[i]'(by rw [mkL_len]; exact h) = f xs[i] (k + cntL c (xs.take i)) := by
  have : mkL f c xs k = mkTo f c xs k xs.length := (mkTo_all _ _ _ _ _ (Nat.le_refl _)).symm
  induction xs generalizing k i with
  | nil => simp at h
  | cons x xs ih =>
    cases i with
    | zero => simp [mkL, cntL]
    | succ i =>
      have := ih (k + c x) i (by simpa using h) (mkTo_all _ _ _ _ _ (Nat.le_refl _)).symm
      simp only [mkL, List.getElem_cons_succ, this, List.take_succ_cons, cntL]
      congr 1
      omega

/-! ### An element taken out -/
def Hole {α : Type} (k : K α) (M D : List α) (P Q : List Value) : Assn := ex fun cM => ex fun cD => star (fact (P = cM.flatten ∧ Q = cD.flatten)) (star (bigs k M cM) (bigs k D cD))
theorem bigs_split {α : Type} (k : K α) (x : α) (D : List α) : ∀ (M : List α) (css : List (List Value)), Ent (bigs k (M ++ x :: D) css)
    (ex fun cM => ex fun c => ex fun cD => star (fact (css = cM ++ c :: cD)) (star (k.own x c) (star (bigs k M cM) (bigs k D cD)))) := by
  intro M
  induction M with
  | nil =>
    intro css
    cases css with
    | nil => intro w S h; exact h.1.elim
    | cons c cs =>
      refine Ent.trans ?_ (Ent.ex_intro [])
      refine Ent.trans ?_ (Ent.ex_intro c)
      refine Ent.trans ?_ (Ent.ex_intro cs)
      exact (Ent.star (Ent.refl _) (Ent.empl _)).trans (Ent.fact_intro rfl)
  | cons y M ih =>
    intro css
    cases css with
    | nil => intro w S h; exact h.1.elim
    | cons c cs =>
      rintro w S ⟨S1, S2, h1, h2, hd, hs⟩
      obtain ⟨T, ⟨cM0, c', cD0, U1, U2, ⟨rfl, _⟩, ⟨U3, U4, h3, ⟨U5, U6, h5, h6, hd3, hs3⟩, hd4, hs4⟩, hd5, hs5⟩, hT⟩ := ih cs w S2 h2
      have key : Ent (star (k.own y c) (star (k.own x c') (star (bigs k M cM0) (bigs k D cD0))))
        (ex fun cM => ex fun c0 => ex fun cD => star (fact (c :: (cM0 ++ c' :: cD0) = cM ++ c0 :: cD)) (star (k.own x c0) (star (bigs k (y :: M) cM) (bigs k D cD)))) := by
        refine Ent.trans ?_ (Ent.ex_intro (c :: cM0))
        refine Ent.trans ?_ (Ent.ex_intro c')
        refine Ent.trans ?_ (Ent.ex_intro cD0)
        refine Ent.trans ?_ (Ent.fact_intro rfl)
        refine (Ent.assoc' _ _ _).trans ?_
        refine (Ent.star (Ent.comm _ _) (Ent.refl _)).trans ?_
        refine (Ent.assoc _ _ _).trans (Ent.star (Ent.refl _) ?_)
        exact Ent.assoc' _ _ _
      obtain ⟨V, hV, hV'⟩ := key w (fun b => S1 b ∨ U2 b) ⟨S1, U2, h1, ⟨U3, U4, h3, ⟨U5, U6, h5, h6, hd3, hs3⟩, hd4, hs4⟩, fun b a q => hd b a (hT b ((hs5 b).2 (.inr q))), fun b => Iff.rfl⟩
      exact ⟨V, hV, fun b hb => (hV' b hb).elim (fun h => (hs b).2 (.inl h)) fun h => (hs b).2 (.inr (hT b ((hs5 b).2 (.inr h))))⟩
theorem bigs_join {α : Type} (k : K α) (x : α) (c : List Value) (D : List α) (cD : List (List Value)) : ∀ (M : List α) (cM : List (List Value)), cM.length = M.length →
    Ent (star (k.own x c) (star (bigs k M cM) (bigs k D cD))) (bigs k (M ++ x :: D) (cM ++ c :: cD)) := by
  intro M
  induction M with
  | nil =>
    intro cM h
    cases cM with
    | nil => exact Ent.star (Ent.refl _) (Ent.right _ _)
    | cons a b => simp at h
  | cons y M ih =>
    intro cM h
    cases cM with
    | nil => simp at h
    | cons a b =>
      refine Ent.trans ?_ (Ent.star (Ent.refl (k.own y a)) (ih b (by simpa using h)))
      refine (Ent.star (Ent.refl _) (Ent.assoc _ _ _)).trans ?_
      refine (Ent.assoc' _ _ _).trans ?_
      refine (Ent.star (Ent.comm _ _) (Ent.refl _)).trans ?_
      exact Ent.assoc _ _ _
theorem bigs_flen {α : Type} (k : K α) (M : List α) (cM : List (List Value)) : Says (bigs k M cM) fun _ => cM.flatten.length = M.length * k.sz := by
  intro w S h
  have h1 := bigs_len k M cM w S h
  have h2 : ∀ c ∈ cM, c.length = k.sz := by
    intro c hc
    obtain ⟨j, hj⟩ := List.getElem?_of_mem hc
    have hjl := (List.getElem?_eq_some_iff.1 hj).1
    rw [h1] at hjl
    obtain ⟨cs', hcs', hr'⟩ := bigs_rd k M cM w S h j M[j] (by simp [hjl])
    rw [hj] at hcs'
    cases hcs'
    exact k.len hr'
  rw [← h1]
  clear h1 h
  induction cM with
  | nil => simp
  | cons c cM ih =>
    rw [List.flatten_cons, List.length_append, ih (fun c h => h2 c (by simp [h])), h2 c (by simp), List.length_cons, Nat.add_mul]
    omega
theorem OwnS.take_out {α : Type} {k : K α} {v : Value} {n : Nat} {x : α} {M D : List α} (hn : n = M.length + 1 + D.length) : Ent (OwnS k v (M ++ x :: D))
    (ex fun P => ex fun c => ex fun Q => star (fact (P.length = M.length * k.sz)) (star (Row v n k.sz (P ++ c ++ Q)) (star (k.own x c) (Hole k M D P Q)))) := by
  rintro w S ⟨css, S1, S2, h1, h2, hd, hs⟩
  obtain ⟨T, ⟨cM, c, cD, U1, U2, ⟨rfl, _⟩, ⟨U3, U4, h3, ⟨U5, U6, h5, h6, hd3, hs3⟩, hd4, hs4⟩, hd5, hs5⟩, hT⟩ := bigs_split k x D M css w S2 h2
  have hl := bigs_flen k M cM w U5 h5
  subst hn
  have h1' : (Row v (M.length + 1 + D.length) k.sz (cM.flatten ++ c ++ cD.flatten)).P w S1 := by
    have e : (M ++ x :: D).length = M.length + 1 + D.length := by simp; omega
    rw [e] at h1
    simpa using h1
  have key : Ent (star (Row v (M.length + 1 + D.length) k.sz (cM.flatten ++ c ++ cD.flatten)) (star (k.own x c) (star (bigs k M cM) (bigs k D cD)))) (ex fun P => ex fun c => ex fun Q => star (fact (P.length = M.length * k.sz)) (star (Row v (M.length + 1 + D.length) k.sz (P ++ c ++ Q)) (star (k.own x c) (Hole k M D P Q)))) := by
    refine Ent.trans ?_ (Ent.ex_intro cM.flatten)
    refine Ent.trans ?_ (Ent.ex_intro c)
    refine Ent.trans ?_ (Ent.ex_intro cD.flatten)
    refine Ent.trans ?_ (Ent.fact_intro hl)
    refine Ent.star (Ent.refl _) (Ent.star (Ent.refl _) ?_)
    refine Ent.trans ?_ (Ent.ex_intro cM)
    refine Ent.trans ?_ (Ent.ex_intro cD)
    exact Ent.fact_intro ⟨rfl, rfl⟩
  obtain ⟨V, hV, hV'⟩ := key w (fun b => S1 b ∨ U2 b) ⟨S1, U2, h1', ⟨U3, U4, h3, ⟨U5, U6, h5, h6, hd3, hs3⟩, hd4, hs4⟩, fun b a q => hd b a (hT b ((hs5 b).2 (.inr q))), fun b => Iff.rfl⟩
  exact ⟨V, hV, fun b hb => (hV' b hb).elim (fun h => (hs b).2 (.inl h)) fun h => (hs b).2 (.inr (hT b ((hs5 b).2 (.inr h))))⟩
theorem OwnS.put_in {α : Type} {k : K α} {v : Value} {n : Nat} {x : α} {M D : List α} {P c Q : List Value} (hn : n = M.length + 1 + D.length) : Ent (star (Row v n k.sz (P ++ c ++ Q)) (star (k.own x c) (Hole k M D P Q))) (OwnS k v (M ++ x :: D)) := by
  rintro w S ⟨S1, S2, h1, ⟨S3, S4, h3, ⟨cM, cD, U1, U2, ⟨⟨rfl, rfl⟩, _⟩, ⟨U5, U6, h5, h6, hd5, hs5⟩, hd2, hs2⟩, hd4, hs4⟩, hd, hs⟩
  have hl := bigs_len k M cM w U5 h5
  subst hn
  have key : Ent (star (Row v (M.length + 1 + D.length) k.sz (cM.flatten ++ c ++ cD.flatten)) (star (k.own x c) (star (bigs k M cM) (bigs k D cD)))) (OwnS k v (M ++ x :: D)) := by
    refine Ent.trans ?_ (Ent.ex_intro (cM ++ c :: cD))
    refine Ent.star ?_ (bigs_join k x c D cD M cM hl)
    have e : (M ++ x :: D).length = M.length + 1 + D.length := by simp; omega
    rw [e]
    simp only [List.flatten_append, List.flatten_cons, List.append_assoc]
    exact Ent.refl _
  obtain ⟨V, hV, hV'⟩ := key w (fun b => S1 b ∨ S3 b ∨ U2 b) ⟨S1, fun b => S3 b ∨ U2 b, h1, ⟨S3, U2, h3, ⟨U5, U6, h5, h6, hd5, hs5⟩, fun b a q => hd4 b a ((hs2 b).2 (.inr q)), fun b => Iff.rfl⟩, fun b a q => hd b a ((hs4 b).2 (q.imp id fun q => (hs2 b).2 (.inr q))), fun b => Iff.rfl⟩
  exact ⟨V, hV, fun b hb => (hV' b hb).elim (fun h => (hs b).2 (.inl h)) fun h => (hs b).2 (.inr ((hs4 b).2 (h.imp id fun h => (hs2 b).2 (.inr h))))⟩

section
variable {P : Program} {N : Nat} {k : List It} {E : Env} {L : List Loc} {H : List Assn} {Q : Post}
theorem SEM.takeOut {α : Type} {kd : K α} {v : Value} {n : Nat} {x : α} {M D : List α} (hn : n = M.length + 1 + D.length)
    (h : ∀ P' c Q', P'.length = M.length * kd.sz → SEM P N k E L (kd.own x c :: Row v n kd.sz (P' ++ c ++ Q') :: Hole kd M D P' Q' :: H) Q) : SEM P N k E L (OwnS kd v (M ++ x :: D) :: H) Q := by
  refine SEM.open1 ?_ (OwnS.take_out hn)
  refine SEM.openEx fun P' => SEM.openEx fun c => SEM.openEx fun Q' => SEM.openStar (SEM.openFact fun hl => SEM.openStar ?_)
  refine SEM.ent (h P' c Q' hl) ?_
  refine (Ent.star (Ent.refl _) (Ent.assoc _ _ _)).trans ?_
  refine (Ent.assoc' _ _ _).trans ((Ent.star (Ent.comm _ _) (Ent.refl _)).trans (Ent.assoc _ _ _))
theorem SEM.swap {A B : Assn} (h : SEM P N k E L (B :: A :: H) Q) : SEM P N k E L (A :: B :: H) Q :=
  SEM.ent h ((Ent.assoc' _ _ _).trans ((Ent.star (Ent.comm _ _) (Ent.refl _)).trans (Ent.assoc _ _ _)))
/-- A store into a row whose cells around are not looked at. -/
theorem SEM.storeF {all l : List Oper} {o : Oper} {t : TypeId} {x v : Operand} {ad : Addr} {n c sz : Nat} {P' cs Q' : List Value} {y : AV} {val : Value} {q : Nat} (i d : Nat) (hH : H[i]? = some (Row (.slice (some ad) n c) n sz (P' ++ cs ++ Q')))
    (hq : q = P'.length + d) (hok : storeOk P t cs val.cells.toList d = true) (h0 : 0 < val.cells.toList.length)
    (h : SEM P N (.ops all l :: k) E L (H.set i (Row (.slice (some ad) n c) n sz (P' ++ splice cs d val.cells.toList ++ Q'))) Q)
    (hg : o.guard = none) (hd : o.dst = none) (ho : o.op = .store t x v) (hx : E.ev x = some (.v (.pointer (some (ad.add q))))) (hv : E.ev v = some y) (hy : y.to L = some val) :
    SEM P N (.ops all (o :: l) :: k) E L H Q := by
  subst hq
  have e : splice (P' ++ cs ++ Q') (P'.length + d) val.cells.toList = P' ++ splice cs d val.cells.toList ++ Q' := by
    simp only [storeOk, Bool.and_eq_true, decide_eq_true_eq] at hok
    rw [List.append_assoc, splice_append_left, splice_append_right _ _ _ _ hok.1.2, List.append_assoc]
  refine SEM.storeRow i (P'.length + d) hH ?_ h0 (by rw [e]; exact h) hg hd ho hx hv hy
  simp only [storeOk, Bool.and_eq_true, decide_eq_true_eq] at hok ⊢
  refine ⟨⟨hok.1.1, ?_⟩, hok.2⟩
  simp only [List.length_append]
  omega
/-- A load from known cells, further on. -/
theorem loadC_off {P : Program} {t : TypeId} {cs : List Value} {d : Nat} {v : Value} (h : loadC P t cs d = some v) : loadC P t (cs.drop d) 0 = some v := by
  unfold loadC at h ⊢
  split at h
  · rename_i n hn ha
    split at h
    · rename_i hl
      simp only [hn, ha, List.drop_drop, List.length_drop, Nat.zero_add, Nat.add_zero]
      rw [if_pos (by omega)]
      exact h
    · cases h
  · rename_i ha
    simp only [ha, List.getElem?_drop, Nat.add_zero]
    exact h
  · cases h
theorem SEM.loadF {all l : List Oper} {o : Oper} {t : TypeId} {x : Operand} {ad : Addr} {q p : Nat} {cs : List Value} (d : Nat) (hs : Says (stA L H) fun w => CellsAt w (ad.add p) cs) (hq : q = p + d) {v : Value} (hv : loadC P t cs d = some v)
    (h : SEM P N (.ops all l :: k) (E.put o.dst (.v v)) L H Q) (hg : o.guard = none) (hd : dstOk N o.dst = true) (ho : o.op = .load t x)
    (hx : E.ev x = some (.v (.pointer (some (ad.add q))))) : SEM P N (.ops all (o :: l) :: k) E L H Q := by
  subst hq
  refine SEM.load (ad := ad.add (p + d)) (cs.drop d) (hs.imp fun w h => ?_) (loadC_off hv) h hg hd ho hx
  have := h.drop d
  rwa [add_add] at this
theorem row_mid {ad : Addr} {n c sz : Nat} {P' cs Q' : List Value} (i : Nat) (hH : H[i]? = some (Row (.slice (some ad) n c) n sz (P' ++ cs ++ Q'))) : Says (stA L H) fun w => CellsAt w (ad.add P'.length) cs := by
  refine (H_says hH (Row.at_ _ _ _ _ _)).imp fun w h j u hj => ?_
  have := h (P'.length + j) u (by
    have hlt := (List.getElem?_eq_some_iff.1 hj).1
    rw [List.append_assoc, List.getElem?_append_right (by omega), Nat.add_sub_cancel_left, List.getElem?_append_left hlt, hj])
  rwa [add_add]
end

/-! ### Entailments, shown from behind -/
theorem Ent.pick {H : List Assn} (i : Nat) {A A' B : Assn} (h : H[i]? = some A') (h1 : Ent A' A) (h2 : Ent (stars (H.eraseIdx i)) B) : Ent (stars H) (Sep.star A B) := (stars_pick H i A' h).trans (Ent.star h1 h2)
theorem Ent.ofact {H : List Assn} {p : Prop} {B : Assn} (h : p) (h2 : Ent (stars H) B) : Ent (stars H) (Sep.star (fact p) B) := h2.trans (Ent.fact_intro h)
theorem Ent.oex {H : List Assn} {α : Type} {A : α → Assn} (x : α) (h : Ent (stars H) (A x)) : Ent (stars H) (ex A) := h.trans (Ent.ex_intro x)
theorem Ent.last {A A' : Assn} {H : List Assn} (h : Ent A' A) : Ent (stars (A' :: H)) A := (Ent.left _ _).trans h
theorem Ent.stL {L : List Loc} {H : List Assn} {B : Assn} (h : Ent (stars H) B) : Ent (stA L H) B := (Ent.right _ _).trans h
theorem OwnS.shape {α : Type} {k : K α} {v : Value} {xs : List α} : Says (OwnS k v xs) fun _ => ∃ A c, v = .slice A xs.length c ∧ (xs.length ≤ c ∧ xs.length ≤ 140737488355328) ∧ (0 < xs.length → ∃ ad, A = some ad) := by
  intro w S h
  obtain ⟨A, c, hv, hc, hA⟩ := OwnS.rd k v xs w S h
  exact ⟨A, c, hv, hc, fun h0 => let ⟨ad, e, _⟩ := hA h0; ⟨ad, e⟩⟩
theorem Fn.ownS {P : Program} {f : FuncId} {α : Type} {k : K α} {v : Value} {xs : List α} {args : Value → List Value} {A : Assn} {B : Value → Assn} (h : ∀ X c, v = .slice X xs.length c → xs.length ≤ c → xs.length ≤ 140737488355328 → (0 < xs.length → ∃ ad, X = some ad) → Fn P f (args v) (star (OwnS k v xs) A) B) :
    Fn P f (args v) (star (OwnS k v xs) A) B := by
  intro w S hA
  obtain ⟨S1, S2, h1, h2, hd, hs⟩ := hA
  obtain ⟨X, c, hv, hc, hX⟩ := OwnS.shape w S1 h1
  exact h X c hv hc.1 hc.2 hX w S ⟨S1, S2, h1, h2, hd, hs⟩
end Go.Sep
