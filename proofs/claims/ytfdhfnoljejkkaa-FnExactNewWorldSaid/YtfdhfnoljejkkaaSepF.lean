/-
  Contracts of functions, how a body's run gives one, how a call uses one.
  Plain definitions and theorems; nothing of a program in it.
-/
import Derived.Test.YtfdhfnoljejkkaaSepE
set_option linter.unusedVariables false
set_option linter.unusedSimpArgs false
namespace Go.Sep
open Go Go.RowKit

/-- Called where A holds, the function returns; B is then said of what it returns. -/
def Fn (P : Program) (f : FuncId) (args : List Value) (A : Assn) (B : Value → Assn) : Prop :=
  ∀ w S, A.P w S → Calls P f args.toArray w fun e w' => ∃ v, e = .returned v ∧ Keeps S w w' ∧ ∃ S', (B v).P w' S' ∧ ∀ b, S' b → S b ∨ w.heap.size ≤ b
/-- It returns r, and touches nothing. -/
def PFn (P : Program) (f : FuncId) (args : List Value) (r : Value) : Prop :=
  ∀ w, Calls P f args.toArray w fun e w' => e = .returned r ∧ Keeps NoS w w'

theorem Fn.of_pure {P : Program} {f : FuncId} {args : List Value} {r : Value} (h : PFn P f args r) (A : Assn) : Fn P f args A (fun v => star (fact (v = r)) A) := by
  intro w S hA
  refine (h w).mono ?_
  rintro e w' ⟨rfl, hk⟩
  obtain ⟨k, S', h1, h2⟩ := (Step.grow (A := A) (C := fact (r = r)) hk ⟨NoS, ⟨rfl, fun _ h => h⟩, fun _ h => h.elim⟩) S hA
  exact ⟨r, rfl, k, S', h1, h2⟩
theorem PFn.of_fn {P : Program} {f : FuncId} {args : List Value} {r : Value} (h : Fn P f args (stars []) (fun v => fact (v = r))) : PFn P f args r := by
  intro w
  refine (h w NoS (fun _ h => h)).mono ?_
  rintro e w' ⟨v, rfl, hk, S', ⟨rfl, _⟩, _⟩
  exact ⟨rfl, hk⟩
theorem Fn.mono {P : Program} {f : FuncId} {args : List Value} {A A' : Assn} {B B' : Value → Assn} (h : Fn P f args A B) (ha : Ent A' A) (hb : ∀ v, Ent (B v) (B' v)) : Fn P f args A' B' := by
  intro w S hA
  obtain ⟨T, hT, ht⟩ := ha w S hA
  refine (h w T hT).mono ?_
  rintro e w' ⟨v, rfl, hk, S', hB, hs⟩
  obtain ⟨U, hU, hu⟩ := hb v w' S' hB
  exact ⟨v, rfl, hk.mono ht, U, hU, fun b h' => (hs b (hu b h')).imp (ht b) id⟩
theorem Fn.frame {P : Program} {f : FuncId} {args : List Value} {A : Assn} {B : Value → Assn} (h : Fn P f args A B) (F : Assn) : Fn P f args (star A F) (fun v => star (B v) F) := by
  rintro w S ⟨S1, S2, h1, h2, hd, hs⟩
  refine (h w S1 h1).mono ?_
  rintro e w' ⟨v, rfl, hk, S', hB, hs'⟩
  refine ⟨v, rfl, hk.mono fun b hb => (hs b).2 (.inl hb), fun b => S' b ∨ S2 b, ⟨S', S2, hB, ?_, ?_, fun b => Iff.rfl⟩, ?_⟩
  · exact F.loc _ _ _ h2 hk.size fun b hb => hk.block b (F.bnd _ _ h2 b hb) fun h1' => hd b h1' hb
  · intro b a c
    rcases hs' b a with h' | h'
    · exact hd b h' c
    · exact absurd (F.bnd _ _ h2 b c) (by omega)
  · rintro b (a | a)
    · exact (hs' b a).imp (fun h => (hs b).2 (.inl h)) id
    · exact .inl ((hs b).2 (.inr a))

def enterE : Nat → List Value → Env
  | _, [] => []
  | i, v :: r => (i, .v v) :: enterE (i + 1) r
def resL (P : Program) (E : Env) (L : List Loc) : List ResultVar → Option (List Value)
  | [] => some []
  | .tmp t :: r => match E.get t with
    | some y => match y.to L, resL P E L r with
      | some v, some vs => some (v :: vs)
      | _, _ => none
    | none => none
  | .cell a t :: r => match E.get a with
    | some (.l i o) => match loadL P t o (L[i]?), resL P E L r with
      | some (.v v), some vs => some (v :: vs)
      | _, _ => none
    | _ => none
def resV : List Value → Value
  | [v] => v
  | vs => .tuple vs.toArray
/-- The body is behind: B is said of the results. -/
def RetPost (P : Program) (rs : List ResultVar) (B : Value → Assn) : Post := fun e E L H =>
  match e with
  | .normal | .ret => ∃ vs, resL P E L rs = some vs ∧ Ent (stA L H) (B (resV vs))
  | _ => False

theorem enterE_get (vs : List Value) : ∀ (i t : Nat) (x : AV), (enterE i vs).get t = some x → ∃ v, x = .v v ∧ i ≤ t ∧ vs[t - i]? = some v := by
  induction vs with
  | nil => intro i t x h; simp [enterE, Env.get] at h
  | cons v r ih =>
    intro i t x h
    simp only [enterE, Env.get] at h
    split at h
    · rename_i e
      subst e
      cases h
      exact ⟨v, rfl, Nat.le_refl _, by simp⟩
    · obtain ⟨u, h1, h2, h3⟩ := ih (i + 1) t x h
      refine ⟨u, h1, by omega, ?_⟩
      rw [show t - i = (t - (i + 1)) + 1 by omega, List.getElem?_cons_succ]
      exact h3
def resOne (tmps : Array Value) : ResultVar → Sem Value
  | .tmp t => pure (tmps.getD t undef)
  | .cell b t => do loadVar t (← asAddr (tmps.getD b undef))
theorem resL_run {P : Program} {N : Nat} {E : Env} {L : List Loc} {a : Act} {w : World} (he : EOk N E L a) (hL : ∀ (k : Nat) (p : Loc), L[k]? = some p → BlockIs w p.1 p.2) :
    ∀ (rs : List ResultVar) (vs : List Value), resL P E L rs = some vs →
      (rs.mapM (resOne a.tmps)).run P w = .ok vs w := by
  intro rs
  induction rs with
  | nil => intro vs h; simp only [resL, Option.some.injEq] at h; subst h; simp
  | cons r rs ih =>
    intro vs h
    cases r with
    | tmp t =>
      simp only [resL] at h
      cases ht : E.get t with
      | none => simp [ht] at h
      | some y =>
        simp only [ht] at h
        cases hy : y.to L with
        | none => simp [hy] at h
        | some v =>
          cases hr : resL P E L rs with
          | none => simp [hy, hr] at h
          | some us =>
            simp only [hy, hr, Option.some.injEq] at h
            subst h
            obtain ⟨v', h1, h2⟩ := he.get t y ht
            rw [hy] at h1
            cases h1
            have := ih us hr
            simp only [List.mapM_cons, resOne, Sem.run_bind, Sem.run_pure, Result.andThen_ok, this]
            simp [Array.getD_eq_getD_getElem?, h2]
    | cell b t =>
      simp only [resL] at h
      split at h
      · rename_i i o hb
        split at h
        · rename_i v us hv hr
          cases h
          cases hi : L[i]? with
          | none => simp [hi, loadL] at hv
          | some p =>
            simp only [hi, loadL] at hv
            cases hl : loadC P t p.2 o with
            | none => simp [hl] at hv
            | some v' =>
              simp only [hl, Option.some.injEq, AV.v.injEq] at hv
              subst hv
              obtain ⟨u, h1, h2⟩ := he.get b _ hb
              simp only [AV.to, hi, Option.some.injEq] at h1
              subst h1
              have h3 := run_loadC (hL i p hi) hl
              simp only [Instr.loadAt, Instr.sureAddr, Sem.run_bind, Sem.run_pure, Result.andThen_ok] at h3
              have := ih us hr
              simp only [List.mapM_cons, resOne, Sem.run_bind, Sem.run_pure, Result.andThen_ok, this, Array.getD_eq_getD_getElem?, h2, Option.getD_some, asAddr, h3]
        · cases h
      · cases h

theorem Fn.of_sem {P : Program} {f : FuncId} {fn : Func} {c : Code} {N : Nat} {rs : List ResultVar} {args : List Value} {H : List Assn} {B : Value → Assn} (hf : P.funcs[f]? = some fn) (hn : fn.ntmps = N) (hb : fn.body = some c)
    (hrs : fn.results = rs.toArray) (ha : args.length ≤ N) (h : SEM P N [.code c] (enterE 0 args) [] H (RetPost P rs B)) : Fn P f args (stars H) B := by
  have hrs' : fn.results.toList = rs := by rw [hrs]
  subst hrs'
  clear hrs
  intro w S hA
  refine calls_of_wp hf hb ?_
  have he : EOk N (enterE 0 args) [] { tmps := args.toArray ++ Array.replicate (fn.ntmps - args.toArray.size) undef, defers := [] } := by
    refine ⟨rfl, by simp [hn]; omega, fun t x hx => ?_⟩
    obtain ⟨v, rfl, _, hv⟩ := enterE_get args 0 t x hx
    refine ⟨v, rfl, ?_⟩
    simp only [Nat.sub_zero] at hv
    rw [Array.getElem?_append_left (by simpa using (List.getElem?_eq_some_iff.1 hv).1)]
    simpa using hv
  have hi : Inv w S (stA [] H) w := ⟨Keeps.refl _ _, S, ⟨NoS, S, fun _ h => h, hA, fun _ h => h.elim, fun b => by simp⟩, fun b hb => .inl hb⟩
  refine wp_mono (h w S _ w he hi) fun e a1 w1 q => ?_
  have fin : ∀ (E : Env) (L : List Loc) (H' : List Assn), (∃ vs, resL P E L fn.results.toList = some vs ∧ Ent (stA L H') (B (resV vs))) → EOk N E L a1 → Inv w S (stA L H') w1 →
      a1.defers = [] ∧ ∃ v, (results fn a1.tmps).run P w1 = .ok v w1 ∧ ∃ u, Ending.returned v = .returned u ∧ Keeps S w w1 ∧ ∃ S', (B u).P w1 S' ∧ ∀ b, S' b → S b ∨ w.heap.size ≤ b := by
    rintro E L H' ⟨vs, hv, hB⟩ he1 hi1
    refine ⟨he1.defers, resV vs, ?_, resV vs, rfl, hi1.keeps, (hi1.ent hB).has⟩
    have := resL_run he1 (fun k p hk => Inv.block hi1 hk) _ _ hv
    have hr : (results fn a1.tmps).run P w1 = (do
        let vs ← fn.results.toList.mapM (resOne a1.tmps)
        pure (resV vs) : Sem Value).run P w1 := by
      have hm : ∀ g : ResultVar → Sem Value, (∀ r, g r = resOne a1.tmps r) → fn.results.mapM g = List.toArray <$> fn.results.toList.mapM (resOne a1.tmps) := by
        intro g hg
        have : g = resOne a1.tmps := funext hg
        subst this
        rw [← List.mapM_toArray, Array.toArray_toList]
      simp only [results]
      rw [hm _ (fun r => by cases r <;> rfl)]
      simp only [map_eq_pure_bind, Sem.run_bind, this, Result.andThen_ok, Sem.run_pure]
      rcases vs with _ | ⟨v, _ | ⟨v', vs⟩⟩ <;> simp [resV]
    rw [hr, Sem.run_bind, this]
    simp
  cases e with
  | normal =>
    obtain ⟨E, L, H', hq, he1, hi1⟩ := q
    exact fin E L H' hq he1 hi1
  | ret =>
    obtain ⟨E, L, H', hq, he1, hi1⟩ := q
    exact fin E L H' hq he1 hi1
  | exit id => obtain ⟨E, L, H', hq, _, _⟩ := q; exact hq.elim
  | goto l => obtain ⟨E, L, H', hq, _, _⟩ := q; exact hq.elim
  | panic ch => obtain ⟨E, L, H', hq, _, _⟩ := q; exact hq.elim
  | outgrown => obtain ⟨E, L, H', hq, _, _⟩ := q; exact hq.elim

/-- The entry, for a function that touches nothing. -/
theorem PFn.run {P : Program} {f : FuncId} {fn : Func} {c : Code} {N : Nat} {rs : List ResultVar} {args : List Value} {r : Value} (n : Nat) (hf : P.funcs[f]? = some fn) (hn : fn.ntmps = N) (hb : fn.body = some c)
    (hrs : fn.results = rs.toArray) (ha : args.length ≤ N) (h : wpk P N n [.code c] (enterE 0 args) [] [] (RetPost P rs fun v => fact (v = r))) : PFn P f args r :=
  PFn.of_fn (Fn.of_sem hf hn hb hrs ha (wpk_sound n h))
theorem ent_fact {A : Assn} {p : Prop} (h : p) : Ent A (fact p) := fun _ _ _ => ⟨NoS, ⟨h, fun _ h => h⟩, fun _ h => h.elim⟩

/-! ### Calls -/
def callable (P : Program) (f : FuncId) : Bool := match P.funcs[f]? with
  | some fn => fn.name != "runtime.NumGoroutine" && fn.body.isSome
  | none => false

section
variable {P : Program} {N : Nat} {k : List It} {E : Env} {L : List Loc} {H : List Assn} {Q : Post}

theorem run_callF {ρ : Operand → Value} {o : Oper} {c : Call} {x : Operand} {f : FuncId} {fi ca : Array Value} {vs : List Value} {w : World} (ho : o.op = .call c) (hc : c.callee = .value x)
    (hx : ρ x = .func (.func f) fi ca) (hv : c.args.toList.map ρ = vs) (hf : callable P f = true) :
    (execOp ρ o).run P w = .ok (.enter f (fi.toList ++ vs ++ ca.toList).toArray) w := by
  have ea : c.args.map ρ = vs.toArray := Array.ext' (by simpa using hv)
  unfold callable at hf
  cases hfn : P.funcs[f]? with
  | none => simp [hfn] at hf
  | some fn =>
    simp only [hfn, Bool.and_eq_true, bne_iff_ne, ne_eq] at hf
    obtain ⟨h1, h2⟩ := hf
    have h2' : fn.body.isNone = false := by cases hb : fn.body <;> simp_all
    have e : (fi.toList ++ vs ++ ca.toList).toArray = fi ++ vs.toArray ++ ca := Array.ext' (by simp)
    have h2'' : ¬ fn.body = none := by intro hb; rw [hb] at h2; cases h2
    rw [e]
    simp [execOp, ho, resolve, hc, hx, Deferred.ofValue, Sem.run_bind, invoke, callFunc, hfn, h1, h2'', ea]

/-- A call of a function of which a contract is known. -/
theorem SEM.callX {all l : List Oper} {o : Oper} {c : Call} {x : Operand} {f : FuncId} {fi ca : Array Value} {vs : List Value} {A : Assn} {B : Value → Assn} (hg : o.guard = none) (hd : dstOk N o.dst = true)
    (ho : o.op = .call c) (hc : c.callee = .value x) (hx : E.ev x = some (.v (.func (.func f) fi ca))) (hv : vals E.ev L c.args.toList = some vs) (hf : callable P f = true)
    {args : List Value} (hargs : fi.toList ++ vs ++ ca.toList = args) (hA : Ent (stA L H) A) (h : Fn P f args A B)
    (hk : ∀ v, ∃ L' H', (∀ (k : Nat) (p : Loc), L[k]? = some p → ∃ q : Loc, L'[k]? = some q ∧ q.1 = p.1) ∧ Ent (B v) (stA L' H') ∧ SEM P N (.ops all l :: k) (E.put o.dst (.v v)) L' H' Q) :
    SEM P N (.ops all (o :: l) :: k) E L H Q := SEM.op hg fun w0 S0 a w he hi => by
  subst hargs
  have e1 := he.ev hx
  simp only [AV.to, Option.some.injEq] at e1
  have e2 := vals_map (ρ := a.eval) (fun x y hx => he.ev hx) _ _ hv
  simp only [Oper.wp, run_callF ho hc e1.symm e2 hf, Oper.upon]
  obtain ⟨S, hS, hs⟩ := hi.has
  obtain ⟨T, hT, ht⟩ := hA w S hS
  refine (h w T hT).mono ?_
  rintro e w' ⟨v, rfl, hk1, S', hB, hs'⟩
  obtain ⟨L', H', hL', hE, hsem⟩ := hk v
  refine hsem w0 S0 _ w' ((he.locs hL').put hd rfl) ?_
  refine Inv.ent ⟨hi.keeps.trans hk1 fun i h => hs i (ht i h), S', hB, fun b hb => ?_⟩ hE
  rcases hs' b hb with h' | h'
  · exact hs b (ht b h')
  · exact .inr (Nat.le_trans hi.keeps.size h')
/-- A call that keeps all that is said, and brings B. -/
theorem SEM.callK {all l : List Oper} {o : Oper} {c : Call} {x : Operand} {f : FuncId} {fi ca : Array Value} {vs : List Value} {B : Value → Assn} (hg : o.guard = none) (hd : dstOk N o.dst = true)
    (ho : o.op = .call c) (hc : c.callee = .value x) (hx : E.ev x = some (.v (.func (.func f) fi ca))) (hv : vals E.ev L c.args.toList = some vs) (hf : callable P f = true)
    {args : List Value} (hargs : fi.toList ++ vs ++ ca.toList = args) (h : Fn P f args (stA L H) (fun v => star (B v) (stA L H)))
    (hk : ∀ v, SEM P N (.ops all l :: k) (E.put o.dst (.v v)) L (B v :: H) Q) : SEM P N (.ops all (o :: l) :: k) E L H Q :=
  SEM.callX hg hd ho hc hx hv hf hargs (Ent.refl _) h fun v => ⟨L, B v :: H, fun k p hp => ⟨p, hp, rfl⟩, by
    refine (Ent.assoc' _ _ _).trans ((Ent.star (Ent.comm _ _) (Ent.refl _)).trans ?_)
    exact Ent.assoc _ _ _, hk v⟩
/-- A call that touches nothing. -/
theorem SEM.callP {all l : List Oper} {o : Oper} {c : Call} {x : Operand} {f : FuncId} {fi ca : Array Value} {vs args : List Value} {r : Value} (h : PFn P f args r)
    (hs : SEM P N (.ops all l :: k) (E.put o.dst (.v r)) L H Q) (hg : o.guard = none) (hd : dstOk N o.dst = true)
    (ho : o.op = .call c) (hc : c.callee = .value x) (hx : E.ev x = some (.v (.func (.func f) fi ca))) (hv : vals E.ev L c.args.toList = some vs) (hargs : fi.toList ++ vs ++ ca.toList = args) (hf : callable P f = true) :
    SEM P N (.ops all (o :: l) :: k) E L H Q := SEM.op hg fun w0 S0 a w he hi => by
  subst hargs
  have e1 := he.ev hx
  simp only [AV.to, Option.some.injEq] at e1
  have e2 := vals_map (ρ := a.eval) (fun x y hx => he.ev hx) _ _ hv
  simp only [Oper.wp, run_callF ho hc e1.symm e2 hf, Oper.upon]
  refine (h w).mono ?_
  rintro e w' ⟨rfl, hk1⟩
  exact hs w0 S0 _ w' (he.put hd rfl) ((Step.same hk1).inv hi)
end

end Go.Sep
