/-
  Slices that are owned: appended to, made; steps by their words.
  Plain definitions and theorems; nothing of a program in it.
-/
import Derived.Test.YtfdhfnoljejkkaaSepR
set_option linter.unusedVariables false
set_option linter.unusedSimpArgs false
namespace Go.Sep
open Go Go.RowKit

theorem bigs_app {α : Type} (k : K α) (ys : List α) (cy : List (List Value)) : ∀ (xs : List α) (cx : List (List Value)), cx.length = xs.length → Ent (star (bigs k xs cx) (bigs k ys cy)) (bigs k (xs ++ ys) (cx ++ cy)) := by
  intro xs
  induction xs with
  | nil =>
    intro cx h
    have := List.eq_nil_of_length_eq_zero h
    subst this
    exact Ent.right _ _
  | cons x xs ih =>
    intro cx h
    cases cx with
    | nil => simp at h
    | cons c cx => exact (Ent.assoc _ _ _).trans (Ent.star (Ent.refl _) (ih cx (by simpa using h)))
theorem bigs_1 {α : Type} {k : K α} {x : α} {cs : List Value} : Ent (k.own x cs) (bigs k [x] [cs]) := Ent.empr _
theorem bigs_allone {α : Type} (k : K α) (xs : List α) (css : List (List Value)) : Says (bigs k xs css) fun _ => AllOne css.flatten := by
  intro w S h
  have h1 := bigs_len k xs css w S h
  have h2 := bigs_rd k xs css w S h
  intro u hu
  obtain ⟨c, hc, hu⟩ := List.mem_flatten.1 hu
  obtain ⟨j, hj⟩ := List.getElem?_of_mem hc
  have hjl := (List.getElem?_eq_some_iff.1 hj).1
  rw [h1] at hjl
  obtain ⟨cs', hcs', hr'⟩ := h2 j xs[j] (by simp [hjl])
  rw [hj] at hcs'
  cases hcs'
  exact k.one hr' u hu

theorem splice_mid (A B C V : List Value) (h : B.length = V.length) : splice (A ++ B ++ C) A.length V = A ++ V ++ C := by
  rw [List.append_assoc]
  have := splice_append_left V A (B ++ C) 0
  rw [Nat.add_zero] at this
  rw [this, splice_append_right V B C 0 (by omega), splice_all V B h, List.append_assoc]
theorem flat_len {n : Nat} {z : List Value} (h : z.length = n) (m : Nat) : (List.replicate m z).flatten.length = m * n := by
  induction m with
  | zero => simp
  | succ m ih => rw [List.replicate_succ, List.flatten_cons, List.length_append, ih, h, Nat.succ_mul, Nat.add_comm]
theorem flat_add (m k : Nat) (z : List Value) : (List.replicate (m + k) z).flatten = (List.replicate m z).flatten ++ (List.replicate k z).flatten := by
  rw [← List.flatten_append, List.replicate_append_replicate]
/-- Some of a row are filled. -/
def filled (N i : Nat) (e z : List Value) : List Value := (List.replicate i e).flatten ++ (List.replicate (N - i) z).flatten
theorem filled_splice {n N i m : Nat} {e z : List Value} (he : e.length = n) (hz : z.length = n) (h : i + m ≤ N) : splice (filled N i e z) (i * n) ((List.replicate m e).flatten) = filled N (i + m) e z := by
  have h1 : N - i = m + (N - (i + m)) := by omega
  unfold filled
  rw [h1, flat_add m, ← List.append_assoc, ← flat_len he i, splice_mid _ _ _ _ (by rw [flat_len hz, flat_len he]), flat_add i m]
theorem filled_take {n N i : Nat} {e z : List Value} (he : e.length = n) (m : Nat) (h : m ≤ i) : (filled N i e z).take (m * n) = (List.replicate m e).flatten := by
  unfold filled
  obtain ⟨d, rfl⟩ : ∃ d, i = m + d := ⟨i - m, by omega⟩
  rw [flat_add, List.append_assoc, List.take_append_of_le_length (by rw [flat_len he]; exact Nat.le_refl _), List.take_of_length_le (by rw [flat_len he]; exact Nat.le_refl _)]
theorem Ent.spick {H As : List Assn} {A A' B : Assn} (i : Nat) (hi : H[i]? = some A') (h1 : Ent A' A) (h : Ent (stars (H.eraseIdx i)) (Sep.star (stars As) B)) : Ent (stars H) (Sep.star (stars (A :: As)) B) :=
  (Ent.pick i hi h1 h).trans (Ent.assoc' _ _ _)
theorem Ent.snil {H : List Assn} {B : Assn} (h : Ent (stars H) B) : Ent (stars H) (Sep.star (stars []) B) := h.trans (Ent.empl _)
theorem EntH.shut {H As : List Assn} {B C : Assn} (hs : Ent (stars As) C) (h : Ent (stars (C :: H)) B) : Ent (stars (As ++ H)) B := ((stars_append As H).trans (Ent.star hs (Ent.refl _))).trans h
theorem Ent.retO {α : Type} {k : K α} {x : α} {cs : List Value} {r : Value} {H As : List Assn} {B : Assn} (hs : Ent (stars As) (k.own x cs)) (e : r = .agg cs.toArray) (h : Ent (stars H) (Sep.star (stars As) B)) : Ent (stars H) (Sep.star (ownR k x r) B) :=
  (h.trans (Ent.star hs (Ent.refl _))).trans (Ent.star ((Ent.fact_intro e).trans (Ent.ex_intro (A := fun cs => Sep.star (fact (r = .agg cs.toArray)) (k.own x cs)) cs)) (Ent.refl _))
theorem Ent.retO1 {α : Type} {k : K α} {x : α} {cs : List Value} {r : Value} {H As : List Assn} (hs : Ent (stars As) (k.own x cs)) (e : r = .agg cs.toArray) (h : Ent (stars H) (stars As)) : Ent (stars H) (ownR k x r) :=
  (h.trans hs).trans ((Ent.fact_intro e).trans (Ent.ex_intro (A := fun cs => Sep.star (fact (r = .agg cs.toArray)) (k.own x cs)) cs))
section
variable {P : Program} {N : Nat} {k : List It} {E : Env} {L : List Loc} {H : List Assn} {Q : Post}
theorem SEM.ownShape {α : Type} {kd : K α} {v : Value} {xs : List α} (h : ∀ A c, v = .slice A xs.length c → xs.length ≤ c → xs.length ≤ 140737488355328 → (0 < xs.length → ∃ ad, A = some ad) → SEM P N k E L (OwnS kd v xs :: H) Q) : SEM P N k E L (OwnS kd v xs :: H) Q :=
  SEM.use (H_says (i := 0) rfl OwnS.shape) fun ⟨A, c, h1, h2, h3⟩ => h A c h1 h2.1 h2.2 h3
theorem run_cutSl {a : Act} {w : World} {o : Oper} {t e : TypeId} {x : Operand} {lo hi mx : Option Operand} {A : Option Addr} {n c sz : Nat} {j h m : Int} (he : EOk N E L a) (h0 : 0 ≤ j) (h1 : j ≤ h) (h2 : h ≤ m) (h3 : m ≤ c)
    (ho : o.op = .slice t x lo hi mx) (hx : E.ev x = some (.v (.slice A n c))) (hlo : cutLo (lo.map E.ev) = some j) (hhi : cutHi n (hi.map E.ev) = some h) (hmx : cutHi c (mx.map E.ev) = some m) (hmh : mx.isSome = true → hi.isSome = true)
    (ht : tsl P t = some e) (hz : tsz P e = some sz) : (execOp a.eval o).run P w = .ok (.value (.slice (cutAddr A j.toNat m.toNat sz) (h.toNat - j.toNat) (m.toNat - j.toNat))) w := by
  have e1 := he.ev hx
  simp only [AV.to, Option.some.injEq] at e1
  have hb : ∀ (v : Int) (kk : IntKind) (c : Nat) (code : BoundsCode), 0 ≤ v → v ≤ c → (Instr.sliceBound (.int kk v) c code).run P w = .ok v.toNat w := by
    intro v kk c code h0 h1
    simp [Instr.sliceBound, asIntOf, Sem.run_bind, h0, h1]
  unfold tsl at ht
  cases hu : P.underlying t with
  | none => simp [hu] at ht
  | some d =>
    cases d <;> first | (simp [hu] at ht; done) | skip
    simp only [hu, Option.some.injEq] at ht
    subst ht
    rename_i e
    have hbd : (Instr.sliceBounds true n c (lo.map a.eval) (hi.map a.eval) (mx.map a.eval)).run P w = .ok (j.toNat, h.toNat, m.toNat) w := by
      rcases cut_val he hmx with ⟨rfl, rfl⟩ | ⟨z3, k3, rfl, e3⟩ <;> rcases cut_val he hhi with ⟨rfl, rfl⟩ | ⟨z2, k2, rfl, e2⟩ <;> rcases cut_val0 he hlo with ⟨rfl, rfl⟩ | ⟨z1, k1, rfl, e1⟩
      · simp [Instr.sliceBounds, Sem.run_bind]
      · simp [Instr.sliceBounds, Sem.run_bind, e1, hb j k1 n _ h0 h1]
      · simp [Instr.sliceBounds, Sem.run_bind, e2, hb h k2 c _ (by omega) h2]
      · have : j ≤ (h.toNat : Int) := by omega
        simp [Instr.sliceBounds, Sem.run_bind, e1, e2, hb h k2 c _ (by omega) h2, hb j k1 h.toNat _ h0 this]
      · simp at hmh
      · simp at hmh
      · have g3 : h ≤ (m.toNat : Int) := by omega
        simp [Instr.sliceBounds, Sem.run_bind, e2, e3, hb m k3 c _ (by omega) h3, hb h k2 m.toNat _ (by omega) g3]
      · have g3 : h ≤ (m.toNat : Int) := by omega
        have : j ≤ (h.toNat : Int) := by omega
        simp [Instr.sliceBounds, Sem.run_bind, e1, e2, e3, hb m k3 c _ (by omega) h3, hb h k2 m.toNat _ (by omega) g3, hb j k1 h.toNat _ h0 this]
    simp only [execOp, ho, ← e1, Instr.sliceAt, Instr.slice, Sem.run_bind, run_underlying hu, Result.andThen_ok, hbd, run_sz hz, Sem.run_pure, cutAddr, pl]

theorem QStep.cutSl {o : Oper} {t e : TypeId} {x : Operand} {lo hi mx : Option Operand} {A : Option Addr} {n c sz : Nat} {j h m : Int} (h0 : 0 ≤ j) (h1 : j ≤ h) (h2 : h ≤ m) (h3 : m ≤ c)
    (ho : o.op = .slice t x lo hi mx) (hx : (cutE (visT o) E).ev x = some (.v (.slice A n c))) (hlo : cutLo (lo.map (cutE (visT o) E).ev) = some j) (hhi : cutHi n (hi.map (cutE (visT o) E).ev) = some h) (hmx : cutHi c (mx.map (cutE (visT o) E).ev) = some m) (hmh : mx.isSome = true → hi.isSome = true)
    (ht : tsl P t = some e) (hz : tsz P e = some sz) : QStep P N o E L H (.v (.slice (cutAddr A j.toNat m.toNat sz) (h.toNat - j.toNat) (m.toNat - j.toNat))) :=
  QStep.of_run rfl fun a w he _ => run_cutSl he.cut h0 h1 h2 h3 ho hx hlo hhi hmx hmh ht hz
theorem NG.of {all : List Oper} {fin : Env → Prop} {i d : Nat} {o : Oper} {r : List Nat} {y : AV} (hq : QStep P N o E L H y) (h : nrn P N all L H fin r ((d, y) :: E)) : NG P N all L H fin i o d r E := ⟨y, hq, nrn_sound _ _ h⟩
/-- The nil slice is owned. -/
theorem SEM.ownNil {α : Type} (kd : K α) (A : Option Addr) (h : SEM P N k E L (OwnS kd (.slice A 0 0) [] :: H) Q) : SEM P N k E L H Q :=
  h.weak (fun _ h => h) (Ent.star (Ent.refl _) ((Ent.empl _).trans (Ent.star (own_nil kd A) (Ent.refl _))))
theorem Ent.addNil {α : Type} {B : Assn} (kd : K α) (A : Option Addr) (h : Ent (stars (OwnS kd (.slice A 0 0) [] :: H)) B) : Ent (stars H) B :=
  ((Ent.empl _).trans (Ent.star (own_nil kd A) (Ent.refl _))).trans h
/-- append of what is owned. -/
theorem SEM.appendB {α : Type} {kd : K α} {all l : List Oper} {o : Oper} {c : Call} {s x : Operand} {t t' e : TypeId} {v xv : Value} {xs ys : List α} {cy : List (List Value)} {bytes : Nat} {z : List Value}
    (hr : Says (stA L (OwnS kd v xs :: bigs kd ys cy :: H)) (Reads P kd.sz ys.length xv cy.flatten)) (hbig : (xs.length + ys.length) * bytes ≤ 140737488355328) (hmax : xs.length + ys.length ≤ 140737488355328)
    (h : ∀ A c, SEM P N (.ops all l :: k) (E.put o.dst (.v (.slice A (xs.length + ys.length) c))) L (OwnS kd (.slice A (xs.length + ys.length) c) (xs ++ ys) :: H) Q)
    (hg : o.guard = none) (hd : dstOk N o.dst = true) (ho : o.op = .call c) (hc : c.callee = .builtin .append) (ha : c.args = [s, x].toArray) (hat : c.argTypes = [t, t'].toArray)
    (hs : E.ev s = some (.v v)) (hx : E.ev x = some (.v xv)) (ht : tsl P t = some e) (hx' : srcT P t' = true) (hz : tsz P e = some kd.sz) (hzero : tzero P e = some z) (hzl : z.length = kd.sz) (hb : tbytes P e = some bytes) (hsz : 0 < kd.sz) :
    SEM P N (.ops all (o :: l) :: k) E L (OwnS kd v xs :: bigs kd ys cy :: H) Q := by
  refine SEM.openEx fun css => SEM.openStar ?_
  refine SEM.use (φ := cy.flatten.length = ys.length * kd.sz) (H_says (i := 2) rfl (bigs_flen kd ys cy)) fun hfl => ?_
  refine SEM.use (φ := AllOne cy.flatten) (H_says (i := 2) rfl (bigs_allone kd ys cy)) fun hone => ?_
  refine SEM.use (φ := css.length = xs.length) (H_says (i := 1) rfl (bigs_len kd xs css)) fun hcl => ?_
  refine SEM.appendX 0 cy.flatten rfl (Ent.says (Ent.star (Ent.refl _) ((Ent.assoc' _ _ _).trans (Ent.star (Ent.ex_intro (A := fun css => star (Row v xs.length kd.sz css.flatten) (bigs kd xs css)) css) (Ent.refl _)))) hr) hfl hone hbig hmax (fun A c' => ?_) hg hd ho hc ha hat hs hx ht hx' hz hzero hzl hb hsz
  refine SEM.ent (h A c') ?_
  simp only [List.set_cons_zero]
  refine ((Ent.star (Ent.refl _) (Ent.assoc' _ _ _)).trans (Ent.star (Ent.refl _) (Ent.star (bigs_app kd ys cy xs css hcl) (Ent.refl _)))).trans ?_
  refine (Ent.assoc' _ _ _).trans (Ent.star ?_ (Ent.refl _))
  refine Ent.trans ?_ (Ent.ex_intro (css ++ cy))
  rw [List.length_append, List.flatten_append]
  exact Ent.refl _
/-- append of one that was built. -/
theorem SEM.append1 {α : Type} {kd : K α} {all l : List Oper} {o : Oper} {c : Call} {s x : Operand} {t t' e : TypeId} {v : Value} {xs : List α} {y : α} {A' : Option Addr} {c' : Nat} {cs : List Value} {bytes : Nat} {z : List Value}
    (hbig : (xs.length + 1) * bytes ≤ 140737488355328) (hmax : xs.length + 1 ≤ 140737488355328)
    (h : ∀ A c, SEM P N (.ops all l :: k) (E.put o.dst (.v (.slice A (xs.length + 1) c))) L (OwnS kd (.slice A (xs.length + 1) c) (xs ++ [y]) :: H) Q)
    (hg : o.guard = none) (hd : dstOk N o.dst = true) (ho : o.op = .call c) (hc : c.callee = .builtin .append) (ha : c.args = [s, x].toArray) (hat : c.argTypes = [t, t'].toArray)
    (hs : E.ev s = some (.v v)) (hx : E.ev x = some (.v (.slice A' 1 c'))) (ht : tsl P t = some e) (hx' : srcT P t' = true) (hz : tsz P e = some kd.sz) (hzero : tzero P e = some z) (hzl : z.length = kd.sz) (hb : tbytes P e = some bytes) (hsz : 0 < kd.sz) :
    SEM P N (.ops all (o :: l) :: k) E L (OwnS kd v xs :: kd.own y cs :: Row (.slice A' 1 c') 1 kd.sz cs :: H) Q := by
  refine SEM.ent (H' := OwnS kd v xs :: bigs kd [y] [cs] :: Row (.slice A' 1 c') 1 kd.sz cs :: H) ?_ (Ent.star (Ent.refl _) (Ent.star bigs_1 (Ent.refl _)))
  refine SEM.appendB (ys := [y]) (cy := [cs]) ?_ hbig hmax (fun A c => SEM.ent (h A c) (Ent.star (Ent.refl _) (Ent.right _ _))) hg hd ho hc ha hat hs hx ht hx' hz hzero hzl hb hsz
  refine fun w S hS => ?_
  have h1 := (H_says (L := L) (H := OwnS kd v xs :: bigs kd [y] [cs] :: Row (.slice A' 1 c') 1 kd.sz cs :: H) (i := 2) rfl (Row.cells _ _ _ _ _)) w S hS
  have h2 := (H_says (L := L) (H := OwnS kd v xs :: bigs kd [y] [cs] :: Row (.slice A' 1 c') 1 kd.sz cs :: H) (i := 1) rfl (bigs_flen kd [y] [cs])) w S hS
  simp only [List.flatten_cons, List.flatten_nil, List.append_nil] at h2 ⊢
  exact Reads.slice h1 h2
/-- .. of slices. -/
theorem SEM.append1S {α : Type} {kd : K α} {all l : List Oper} {o : Oper} {c : Call} {s x : Operand} {t t' e : TypeId} {v u : Value} {xs : List (List α)} {y : List α} {A' : Option Addr} {c' : Nat} {bytes : Nat} {z : List Value}
    (hbig : (xs.length + 1) * bytes ≤ 140737488355328) (hmax : xs.length + 1 ≤ 140737488355328)
    (h : ∀ A c, SEM P N (.ops all l :: k) (E.put o.dst (.v (.slice A (xs.length + 1) c))) L (OwnS (kS kd) (.slice A (xs.length + 1) c) (xs ++ [y]) :: H) Q)
    (hg : o.guard = none) (hd : dstOk N o.dst = true) (ho : o.op = .call c) (hc : c.callee = .builtin .append) (ha : c.args = [s, x].toArray) (hat : c.argTypes = [t, t'].toArray)
    (hs : E.ev s = some (.v v)) (hx : E.ev x = some (.v (.slice A' 1 c'))) (ht : tsl P t = some e) (hx' : srcT P t' = true) (hz : tsz P e = some 1) (hzero : tzero P e = some z) (hzl : z.length = 1) (hb : tbytes P e = some bytes) :
    SEM P N (.ops all (o :: l) :: k) E L (OwnS (kS kd) v xs :: OwnS kd u y :: Row (.slice A' 1 c') 1 1 [u] :: H) Q := by
  refine SEM.ent (H' := OwnS (kS kd) v xs :: (kS kd).own y [u] :: Row (.slice A' 1 c') 1 1 [u] :: H) ?_ (Ent.star (Ent.refl _) (Ent.star (kS_own _ _ _) (Ent.refl _)))
  exact SEM.append1 (kd := kS kd) hbig hmax h hg hd ho hc ha hat hs hx ht hx' hz hzero hzl hb Nat.zero_lt_one
/-- .. of a kind without addresses. -/
theorem SEM.append1F {α : Type} {enc : α → List Value} {n : Nat} {hl : ∀ x, (enc x).length = n} {h1 : ∀ x, AllOne (enc x)} {all l : List Oper} {o : Oper} {c : Call} {s x : Operand} {t t' e : TypeId} {v : Value} {xs : List α} (y : α) {A' : Option Addr} {c' : Nat} {cs : List Value} {bytes : Nat} {z : List Value}
    (hcs : cs = enc y) (hbig : (xs.length + 1) * bytes ≤ 140737488355328) (hmax : xs.length + 1 ≤ 140737488355328)
    (h : ∀ A c, SEM P N (.ops all l :: k) (E.put o.dst (.v (.slice A (xs.length + 1) c))) L (OwnS (K.flat enc n hl h1) (.slice A (xs.length + 1) c) (xs ++ [y]) :: H) Q)
    (hg : o.guard = none) (hd : dstOk N o.dst = true) (ho : o.op = .call c) (hc : c.callee = .builtin .append) (ha : c.args = [s, x].toArray) (hat : c.argTypes = [t, t'].toArray)
    (hs : E.ev s = some (.v v)) (hx : E.ev x = some (.v (.slice A' 1 c'))) (ht : tsl P t = some e) (hx' : srcT P t' = true) (hz : tsz P e = some n) (hzero : tzero P e = some z) (hzl : z.length = n) (hb : tbytes P e = some bytes) (hsz : 0 < n) :
    SEM P N (.ops all (o :: l) :: k) E L (OwnS (K.flat enc n hl h1) v xs :: Row (.slice A' 1 c') 1 n cs :: H) Q := by
  refine SEM.ent (H' := OwnS (K.flat enc n hl h1) v xs :: (K.flat enc n hl h1).own y cs :: Row (.slice A' 1 c') 1 n cs :: H) ?_ (Ent.star (Ent.refl _) ((Ent.empl _).trans (Ent.star (Ent.empf hcs) (Ent.refl _))))
  exact SEM.append1 (kd := K.flat enc n hl h1) hbig hmax h hg hd ho hc ha hat hs hx ht hx' hz hzero hzl hb hsz
/-- append of a slice that is owned whole. -/
theorem SEM.appendO {α : Type} {kd : K α} {all l : List Oper} {o : Oper} {c : Call} {s x : Operand} {t t' e : TypeId} {v u : Value} {xs ys : List α} {bytes : Nat} {z : List Value}
    (hbig : (xs.length + ys.length) * bytes ≤ 140737488355328) (hmax : xs.length + ys.length ≤ 140737488355328)
    (h : ∀ A c, SEM P N (.ops all l :: k) (E.put o.dst (.v (.slice A (xs.length + ys.length) c))) L (OwnS kd (.slice A (xs.length + ys.length) c) (xs ++ ys) :: H) Q)
    (hg : o.guard = none) (hd : dstOk N o.dst = true) (ho : o.op = .call c) (hc : c.callee = .builtin .append) (ha : c.args = [s, x].toArray) (hat : c.argTypes = [t, t'].toArray)
    (hs : E.ev s = some (.v v)) (hx : E.ev x = some (.v u)) (ht : tsl P t = some e) (hx' : srcT P t' = true) (hz : tsz P e = some kd.sz) (hzero : tzero P e = some z) (hzl : z.length = kd.sz) (hb : tbytes P e = some bytes) (hsz : 0 < kd.sz) :
    SEM P N (.ops all (o :: l) :: k) E L (OwnS kd v xs :: OwnS kd u ys :: H) Q := by
  refine SEM.ownShapeAt 1 rfl fun A' c' hu hc' _ _ => ?_
  subst hu
  refine SEM.swap ?_
  refine SEM.openEx fun cy => SEM.openStar ?_
  refine SEM.pull 2 rfl ?_
  refine SEM.pull 2 rfl ?_
  refine SEM.swap ?_
  simp only [List.eraseIdx_cons_zero, List.eraseIdx_cons_succ]
  refine SEM.appendB (ys := ys) (cy := cy) ?_ hbig hmax (fun A c => SEM.ent (h A c) (Ent.star (Ent.refl _) (Ent.right _ _))) hg hd ho hc ha hat hs hx ht hx' hz hzero hzl hb hsz
  refine fun w S hS => ?_
  have h1 := (H_says (L := L) (H := OwnS kd v xs :: bigs kd ys cy :: Row (.slice A' ys.length c') ys.length kd.sz cy.flatten :: H) (i := 2) rfl (Row.cells _ _ _ _ _)) w S hS
  have h2 := (H_says (L := L) (H := OwnS kd v xs :: bigs kd ys cy :: Row (.slice A' ys.length c') ys.length kd.sz cy.flatten :: H) (i := 1) rfl (bigs_flen kd ys cy)) w S hS
  exact Reads.slice h1 h2
/-- append of elements without addresses that stand somewhere. -/
theorem SEM.appendF {α : Type} {enc : α → List Value} {n : Nat} {hl : ∀ x, (enc x).length = n} {h1 : ∀ x, AllOne (enc x)} {all l : List Oper} {o : Oper} {c : Call} {s x : Operand} {t t' e : TypeId} {v xv : Value} {xs : List α} (ys : List α) {bytes : Nat} {z : List Value}
    (hr : Says (stA L (OwnS (K.flat enc n hl h1) v xs :: H)) (Reads P n ys.length xv (ys.flatMap enc))) (hbig : (xs.length + ys.length) * bytes ≤ 140737488355328) (hmax : xs.length + ys.length ≤ 140737488355328)
    (h : ∀ A c, SEM P N (.ops all l :: k) (E.put o.dst (.v (.slice A (xs.length + ys.length) c))) L (OwnS (K.flat enc n hl h1) (.slice A (xs.length + ys.length) c) (xs ++ ys) :: H) Q)
    (hg : o.guard = none) (hd : dstOk N o.dst = true) (ho : o.op = .call c) (hc : c.callee = .builtin .append) (ha : c.args = [s, x].toArray) (hat : c.argTypes = [t, t'].toArray)
    (hs : E.ev s = some (.v v)) (hx : E.ev x = some (.v xv)) (ht : tsl P t = some e) (hx' : srcT P t' = true) (hz : tsz P e = some n) (hzero : tzero P e = some z) (hzl : z.length = n) (hb : tbytes P e = some bytes) (hsz : 0 < n) :
    SEM P N (.ops all (o :: l) :: k) E L (OwnS (K.flat enc n hl h1) v xs :: H) Q := by
  refine SEM.ent (H' := OwnS (K.flat enc n hl h1) v xs :: bigs (K.flat enc n hl h1) ys (ys.map enc) :: H) ?_ (Ent.star (Ent.refl _) ((Ent.empl _).trans (Ent.star (bigs_flat' hl h1 ys) (Ent.refl _))))
  refine SEM.appendB (ys := ys) (cy := ys.map enc) ?_ hbig hmax h hg hd ho hc ha hat hs hx ht hx' hz hzero hzl hb hsz
  rw [← List.flatMap_def]
  exact Ent.says (Ent.star (Ent.refl _) (Ent.star (Ent.refl _) (Ent.right _ _))) hr
theorem cells_flat {α : Type} {enc : α → List Value} {n : Nat} (hl : ∀ x, (enc x).length = n) {w : World} : ∀ (ys : List α) (ad : Addr), (∀ (i : Nat) (x : α), ys[i]? = some x → CellsAt w (ad.add (i * n)) (enc x)) → CellsAt w ad (ys.flatMap enc) := by
  intro ys
  induction ys with
  | nil => intro ad _ j u h; simp at h
  | cons y ys ih =>
    intro ad h j u hj
    rw [List.flatMap_cons] at hj
    by_cases hlt : j < n
    · rw [List.getElem?_append_left (by rw [hl]; exact hlt)] at hj
      have := h 0 y rfl j u hj
      rwa [Nat.zero_mul, add_zero] at this
    · rw [List.getElem?_append_right (by rw [hl]; omega), hl] at hj
      have := ih (ad.add n) (fun i x hx => by
        have := h (i + 1) x (by simpa using hx)
        rwa [Nat.succ_mul, Nat.add_comm, ← add_add] at this) (j - n) u hj
      rwa [add_add, show n + (j - n) = j by omega] at this
/-- What reads a slice that is known to stand there. -/
theorem reads_rd {α : Type} {enc : α → List Value} {n : Nat} {hl : ∀ x, (enc x).length = n} {h1 : ∀ x, AllOne (enc x)} {w : World} {v : Value} {ys : List α} (h : RdS (K.flat enc n hl h1) w v ys) : Reads P n ys.length v (ys.flatMap enc) w := by
  obtain ⟨A, c, rfl, -, hc⟩ := h
  refine Reads.slice (X := A) ?_ (by clear hc; induction ys with | nil => simp | cons y ys ih => rw [List.flatMap_cons, List.length_append, ih, hl, List.length_cons, Nat.succ_mul, Nat.add_comm])
  rcases Nat.eq_zero_or_pos ys.length with h0 | h0
  · left
    have := List.eq_nil_of_length_eq_zero h0
    subst this; rfl
  · obtain ⟨ad, rfl, hc2⟩ := hc h0
    refine .inr ⟨ad, rfl, cells_flat hl ys ad fun i x hx => ?_⟩
    obtain ⟨cs, h1, h2⟩ := hc2 i x hx
    have h1 : cs = enc x := h1
    subst h1
    exact h2
/-- A struct and a flag that are handed back. -/
def ownRB {α : Type} (k : K α) (x : α) (b : Bool) (r : Value) : Assn := ex fun cs => star (fact (r = .tuple #[.agg cs.toArray, .bool b])) (k.own x cs)
theorem Ent.retRB {α : Type} {k : K α} {x : α} {b : Bool} {cs : List Value} {r : Value} {H As : List Assn} {B : Assn} (hs : Ent (stars As) (k.own x cs)) (e : r = .tuple #[.agg cs.toArray, .bool b]) (h : Ent (stars H) (Sep.star (stars As) B)) : Ent (stars H) (Sep.star (ownRB k x b r) B) :=
  (h.trans (Ent.star hs (Ent.refl _))).trans (Ent.star ((Ent.fact_intro e).trans (Ent.ex_intro (A := fun cs => Sep.star (fact (r = .tuple #[.agg cs.toArray, .bool b])) (k.own x cs)) cs)) (Ent.refl _))
theorem SEM.openRB {α : Type} {kd : K α} {x : α} {b : Bool} {r : Value} (h : ∀ cs, r = .tuple #[.agg cs.toArray, .bool b] → SEM P N k E L (kd.own x cs :: H) Q) : SEM P N k E L (ownRB kd x b r :: H) Q :=
  SEM.openEx fun cs => SEM.openStar (SEM.openFact fun e => h cs e)
theorem SEM.openR {α : Type} {kd : K α} {x : α} {r : Value} (h : ∀ cs, r = .agg cs.toArray → SEM P N k E L (kd.own x cs :: H) Q) : SEM P N k E L (ownR kd x r :: H) Q :=
  SEM.openEx fun cs => SEM.openStar (SEM.openFact fun e => h cs e)
/-- What stands first is shut. -/
theorem SEM.shut {As : List Assn} {C : Assn} (hs : Ent (stars As) C) (h : SEM P N k E L (C :: H) Q) : SEM P N k E L (As ++ H) Q :=
  SEM.ent h ((stars_append As H).trans (Ent.star hs (Ent.refl _)))
theorem own_two {α : Type} {kd : K α} {v : Value} {x y : α} {c0 c1 : List Value} : Ent (Sep.star (Row v 2 kd.sz (c0 ++ c1)) (Sep.star (kd.own x c0) (kd.own y c1))) (OwnS kd v [x, y]) := by
  refine Ent.trans ?_ (Ent.ex_intro (A := fun css : List (List Value) => Sep.star (Row v 2 kd.sz css.flatten) (bigs kd [x, y] css)) [c0, c1])
  refine Ent.star ?_ (Ent.star (Ent.refl _) (Ent.empr _))
  show Ent _ (Row v 2 kd.sz [c0, c1].flatten)
  rw [show [c0, c1].flatten = c0 ++ c1 by simp]
  exact Ent.refl _
theorem own_two3 {α : Type} {kd : K α} {v : Value} {x y : α} {c0 c1 : List Value} : Ent (stars [Row v 2 kd.sz (c0 ++ c1), kd.own x c0, kd.own y c1]) (OwnS kd v [x, y]) :=
  (Ent.star (Ent.refl _) (Ent.star (Ent.refl _) (Ent.left _ _))).trans own_two
theorem own_two4 {α : Type} {kd : K α} {v : Value} {x y : α} {c0 c1 cs : List Value} (h : cs = c0 ++ c1) : Ent (stars [Row v 2 kd.sz cs, kd.own x c0, kd.own y c1]) (OwnS kd v [x, y]) := by
  subst h; exact own_two3
theorem SEM.build2 {all l : List Oper} {o : Oper} {t e : TypeId} {sz : Nat} {x x' : Operand} {z : List Value} {y y' : AV} {val val' : Value} (hy : y.to L = some val) (hy' : y'.to L = some val') (hl : val.cells.toList.length = sz) (hl' : val'.cells.toList.length = sz) (h1 : AllOne val.cells.toList) (h1' : AllOne val'.cells.toList)
    (h : ∀ b, SEM P N (.ops all l :: k) (E.put o.dst (.v (.slice (some ⟨b, 0, none⟩) 2 2))) L (Row (.slice (some ⟨b, 0, none⟩) 2 2) 2 sz (val.cells.toList ++ val'.cells.toList) :: H) Q)
    (hg : o.guard = none) (hd : dstOk N o.dst = true) (ho : o.op = .buildSlice t 2 #[(0, x), (1, x')]) (hx : E.ev x = some y) (hx' : E.ev x' = some y')
    (ht : tsl P t = some e) (hz : tsz P e = some sz) (hzero : tzero P e = some z) (hsm : 2 * sz ≤ 16777216) (hsz : 0 < sz) : SEM P N (.ops all (o :: l) :: k) E L H Q := by
  have key : ((val.cells ++ val'.cells) : Array Value).toList = val.cells.toList ++ val'.cells.toList := by simp
  refine SEM.buildSlice (vs := [val, val']) (cells := val.cells ++ val'.cells) hg hd ho ht hz hzero hsm hsz (by simp [vals, hx, hy, hx', hy']) ?_ (by rw [Array.size_append]; simp only [← Array.length_toList, hl, hl']; omega) (by rw [key]; exact h1.append h1') (fun b => by rw [key]; exact h b)
  have hlen : ((List.range (2 * sz)).map (z.toArray[· % z.toArray.size]!)).length = 2 * sz := by simp
  generalize hZ : ((List.range (2 * sz)).map (z.toArray[· % z.toArray.size]!)) = Z at hlen
  have hf : fillF (fun i => some (i * sz, sz)) Z [(0, val), (1, val')] = some (val.cells.toList ++ val'.cells.toList) := by
    simp only [fillF, hl, hl', true_and]
    rw [if_pos (by omega), splice_length, if_pos (by omega)]
    have e1 : Z = Z.take sz ++ Z.drop sz := (List.take_append_drop sz Z).symm
    have e2 : splice Z (0 * sz) val.cells.toList = val.cells.toList ++ Z.drop sz := by
      have := splice_mid [] (Z.take sz) (Z.drop sz) val.cells.toList (by rw [List.length_take, hl]; omega)
      simp only [List.nil_append, List.length_nil] at this
      rw [← e1] at this
      rw [Nat.zero_mul]; exact this
    rw [e2]
    have := splice_mid val.cells.toList (Z.drop sz) [] val'.cells.toList (by rw [List.length_drop, hl']; omega)
    simp only [List.append_nil, hl] at this
    rw [Nat.one_mul, this]
  have := fill_fillF _ _ _ _ hf
  have hA : (Array.range (2 * sz)).map (z.toArray[· % z.toArray.size]!) = Z.toArray := by
    rw [← hZ]; apply Array.ext'; simp
  rw [hA]
  have hB : (val.cells.toList ++ val'.cells.toList).toArray = val.cells ++ val'.cells := by apply Array.ext'; simp
  rw [← hB]
  exact this
/-! ### What a state says of the world -/
theorem sat_says {A : Assn} {φ : World → Prop} {w : World} (h : Says A φ) (s : Sat A w) : φ w := let ⟨S, hS⟩ := s; h w S hS
theorem sat_own {α : Type} {kd : K α} {v : Value} {xs : List α} {w : World} (i : Nat) (hi : H[i]? = some (OwnS kd v xs)) (s : Sat (stA L H) w) : RdS kd w v xs := sat_says (H_says hi (OwnS.rd kd v xs)) s
theorem sat_row {α : Type} {enc : α → List Value} {n : Nat} {hl : ∀ x, (enc x).length = n} {h1 : ∀ x, AllOne (enc x)} {v : Value} {m : Nat} {cs : List Value} {w : World} (i : Nat) (xs : List α) (hi : H[i]? = some (Row v m n cs)) (hm : m = xs.length) (hc : cs = xs.flatMap enc) (s : Sat (stA L H) w) : RdS (K.flat enc n hl h1) w v xs := by
  subst hm hc
  exact sat_says (H_says hi (Ent.says (OwnS.of_flat hl h1 v xs) (OwnS.rd _ v xs))) s
theorem sat_st {α : Type} {kd : K α} {x : α} {cs : List Value} {w : World} (i : Nat) (hi : H[i]? = some (kd.own x cs)) (s : Sat (stA L H) w) : kd.rd w x cs := sat_says (H_says hi (kd.own_rd x cs)) s
theorem sat_amb {α : Type} {kd : K α} {v : Value} {xs : List α} {w w' : World} (i : Nat) (hi : H[i]? = some (amb w)) (h : RdS kd w v xs) (s : Sat (stA L H) w') : RdS kd w' v xs := h.still (sat_still i s hi)
theorem sat_ambk {α : Type} {kd : K α} {x : α} {cs : List Value} {w w' : World} (i : Nat) (hi : H[i]? = some (amb w)) (h : kd.rd w x cs) (s : Sat (stA L H) w') : kd.rd w' x cs := kd.keep h (sat_still i s hi)
end
end Go.Sep
