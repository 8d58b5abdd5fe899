/-
  The symbolic run of code over a stack of what is still to come: what it means, and that each step of it is right.
  Plain definitions and theorems; nothing of a program in it.
-/
import Derived.Test.YtfdhfnoljejkkaaSepC
set_option linter.unusedVariables false
set_option linter.unusedSimpArgs false
namespace Go.Sep
open Go Go.RowKit

abbrev Post := Exit → Env → List Loc → List Assn → Prop
inductive It
  | code (c : Code)
  | ops (all l : List Oper)
  | blk (id : Nat)
  | endl (J : Env → List Loc → List Assn → Prop)

def lift (w0 : World) (S0 : Nat → Prop) (N : Nat) (J : Env → List Loc → List Assn → Prop) (a : Act) (w : World) : Prop :=
  ∃ E L H, J E L H ∧ EOk N E L a ∧ Inv w0 S0 (stA L H) w

def Kk (P : Program) (w0 : World) (S0 : Nat → Prop) (N : Nat) (Q : Post) : List It → Exit → Act → World → Prop
  | [], e, a, w => lift w0 S0 N (Q e) a w
  | .code c :: k, e, a, w => match e with
    | .normal => c.wp P (Kk P w0 S0 N Q k) a w
    | e => Kk P w0 S0 N Q k e a w
  | .ops all l :: k, e, a, w => match e with
    | .normal => wpList P all.toArray (Kk P w0 S0 N Q k) l a w
    | e => Kk P w0 S0 N Q k e a w
  | .blk id :: k, e, a, w => match e with
    | .exit i => if i = id then Kk P w0 S0 N Q k .normal a w else Kk P w0 S0 N Q k (.exit i) a w
    | e => Kk P w0 S0 N Q k e a w
  | .endl J :: k, e, a, w => match e with
    | .normal => lift w0 S0 N J a w
    | e => Kk P w0 S0 N Q k e a w

/-- From such a state on, all that is still to come ends as Q says. -/
def SEM (P : Program) (N : Nat) (k : List It) (E : Env) (L : List Loc) (H : List Assn) (Q : Post) : Prop :=
  ∀ w0 S0 a w, EOk N E L a → Inv w0 S0 (stA L H) w → Kk P w0 S0 N Q k .normal a w

def dropTo (id : Nat) : List It → Option (List It)
  | .blk i :: k => if id = i then some k else dropTo id k
  | _ :: k => dropTo id k
  | [] => none

section
variable {P : Program} {N : Nat} {k : List It} {E : Env} {L : List Loc} {H : List Assn} {Q : Post}

theorem Kk_exit {w0 : World} {S0 : Nat → Prop} {id : Nat} {a : Act} {w : World} : ∀ {k k' : List It}, dropTo id k = some k' → Kk P w0 S0 N Q k' .normal a w → Kk P w0 S0 N Q k (.exit id) a w := by
  intro k
  induction k with
  | nil => intro k' h; cases h
  | cons i k ih =>
    intro k' h hk
    cases i with
    | blk j =>
      simp only [dropTo] at h
      simp only [Kk]
      split at h
      · rename_i e
        cases h
        rw [if_pos e]
        exact hk
      · rename_i e
        rw [if_neg e]
        exact ih h hk
    | code c => exact ih h hk
    | ops all l => exact ih h hk
    | endl J => exact ih h hk
theorem Kk_ret {w0 : World} {S0 : Nat → Prop} {a : Act} {w : World} (h : lift w0 S0 N (Q .ret) a w) : ∀ {k : List It}, Kk P w0 S0 N Q k .ret a w := by
  intro k
  induction k with
  | nil => exact h
  | cons i k ih => cases i <;> exact ih

theorem SEM.nil (h : Q .normal E L H) : SEM P N [] E L H Q := fun _ _ _ _ he hi => ⟨E, L, H, h, he, hi⟩
theorem SEM.endl {J : Env → List Loc → List Assn → Prop} (h : J E L H) : SEM P N (.endl J :: k) E L H Q := fun _ _ _ _ he hi => ⟨E, L, H, h, he, hi⟩
theorem SEM.blk {id : Nat} (h : SEM P N k E L H Q) : SEM P N (.blk id :: k) E L H Q := fun w0 S0 a w he hi => h w0 S0 a w he hi
theorem SEM.opsnil {all : List Oper} (h : SEM P N k E L H Q) : SEM P N (.ops all [] :: k) E L H Q := fun w0 S0 a w he hi => h w0 S0 a w he hi
theorem SEM.skip (h : SEM P N k E L H Q) : SEM P N (.code .skip :: k) E L H Q := fun w0 S0 a w he hi => wp_skip (h w0 S0 a w he hi)
theorem SEM.seq {x y : Code} (h : SEM P N (.code x :: .code y :: k) E L H Q) : SEM P N (.code (.seq x y) :: k) E L H Q := fun w0 S0 a w he hi => by
  refine wp_seq (wp_mono (h w0 S0 a w he hi) fun e a w q => ?_)
  cases e <;> exact q
theorem SEM.block {id : Nat} {c : Code} (h : SEM P N (.code c :: .blk id :: k) E L H Q) : SEM P N (.code (.block id c) :: k) E L H Q := fun w0 S0 a w he hi => by
  refine wp_block (wp_mono (h w0 S0 a w he hi) fun e a w q => ?_)
  cases e <;> exact q
theorem SEM.exit {id : Nat} {k' : List It} (hk : dropTo id k = some k') (h : SEM P N k' E L H Q) : SEM P N (.code (.exit id) :: k) E L H Q := fun w0 S0 a w he hi =>
  wp_exit (Kk_exit hk (h w0 S0 a w he hi))
theorem SEM.ret (h : Q .ret E L H) : SEM P N (.code .ret :: k) E L H Q := fun w0 S0 a w he hi => wp_ret (Kk_ret ⟨E, L, H, h, he, hi⟩)
theorem SEM.cond {c : Operand} {x y : Code} {t : Bool} (hc : E.ev c = some (.v (.bool t))) (ht : t = true → SEM P N (.code x :: k) E L H Q) (hf : t = false → SEM P N (.code y :: k) E L H Q) :
    SEM P N (.code (.cond c x y) :: k) E L H Q := fun w0 S0 a w he hi => by
  have := he.ev hc
  simp only [AV.to, Option.some.injEq] at this
  exact wp_cond_split this.symm (fun h => ht h w0 S0 a w he hi) (fun h => hf h w0 S0 a w he hi)
theorem SEM.region {id : Nat} {ops : Array Oper} (h : SEM P N (.ops ops.toList ops.toList :: k) E L H Q) : SEM P N (.code (.region id ops false) :: k) E L H Q := fun w0 S0 a w he hi => by
  have := h w0 S0 a w he hi
  simp only [Kk, Array.toArray_toList] at this
  exact wp_region_list this
/-- The state may be said with less. -/
theorem SEM.weak {E' : Env} {L' : List Loc} {H' : List Assn} (h : SEM P N k E' L' H' Q) (hE : ∀ a, EOk N E L a → EOk N E' L' a) (hA : Ent (stA L H) (stA L' H')) : SEM P N k E L H Q :=
  fun w0 S0 a w he hi => h w0 S0 a w (hE a he) (hi.ent hA)
theorem SEM.ent {H' : List Assn} (h : SEM P N k E L H' Q) (hA : Ent (stars H) (stars H')) : SEM P N k E L H Q := h.weak (fun _ h => h) (Ent.star (Ent.refl _) hA)
/-- What the state says of the world, a fact that hangs on no world, may be used. -/
theorem SEM.use {φ : Prop} (hs : Says (stA L H) fun _ => φ) (h : φ → SEM P N k E L H Q) : SEM P N k E L H Q := fun w0 S0 a w he hi => h (hi.says hs) w0 S0 a w he hi

/-- A loop. -/
theorem SEM.loop {c : Code} {X : Type} (EI : X → Env) (LI : X → List Loc) (HI : X → List Assn) (μ : X → Nat) (x0 : X)
    (h0 : ∀ a, EOk N E L a → EOk N (EI x0) (LI x0) a) (hA : Ent (stA L H) (stA (LI x0) (HI x0)))
    (round : ∀ x, SEM P N (.code c :: .endl (fun E' L' H' => ∃ x', (∀ a, EOk N E' L' a → EOk N (EI x') (LI x') a) ∧ Ent (stA L' H') (stA (LI x') (HI x')) ∧ μ x' < μ x) :: k) (EI x) (LI x) (HI x) Q) :
    SEM P N (.code (.loop c) :: k) E L H Q := fun w0 S0 a w he hi => by
  have key : ∀ n x a w, μ x = n → EOk N (EI x) (LI x) a → Inv w0 S0 (stA (LI x) (HI x)) w → (Code.loop c).wp P (Kk P w0 S0 N Q k) a w := by
    intro n x a w hn he hi
    refine wp_loop (fun a w => ∃ x, EOk N (EI x) (LI x) a ∧ Inv w0 S0 (stA (LI x) (HI x)) w) (fun a w => Classical.epsilon fun m => (∃ x, μ x = m ∧ EOk N (EI x) (LI x) a ∧ Inv w0 S0 (stA (LI x) (HI x)) w) ∧ ∀ m', (∃ x, μ x = m' ∧ EOk N (EI x) (LI x) a ∧ Inv w0 S0 (stA (LI x) (HI x)) w) → m ≤ m') ⟨x, he, hi⟩ ?_
    rintro a1 w1 ⟨x1, he1, hi1⟩
    have least : ∀ (a : Act) (w : World), (∃ x, EOk N (EI x) (LI x) a ∧ Inv w0 S0 (stA (LI x) (HI x)) w) → ∃ m, (∃ x, μ x = m ∧ EOk N (EI x) (LI x) a ∧ Inv w0 S0 (stA (LI x) (HI x)) w) ∧ ∀ m', (∃ x, μ x = m' ∧ EOk N (EI x) (LI x) a ∧ Inv w0 S0 (stA (LI x) (HI x)) w) → m ≤ m' := by
      rintro a w ⟨x, hx⟩
      have : ∀ n, (∃ x, μ x = n ∧ EOk N (EI x) (LI x) a ∧ Inv w0 S0 (stA (LI x) (HI x)) w) → ∃ m, (∃ x, μ x = m ∧ EOk N (EI x) (LI x) a ∧ Inv w0 S0 (stA (LI x) (HI x)) w) ∧ ∀ m', (∃ x, μ x = m' ∧ EOk N (EI x) (LI x) a ∧ Inv w0 S0 (stA (LI x) (HI x)) w) → m ≤ m' := by
        intro n
        induction n using Nat.strongRecOn with
        | _ n ih =>
          intro hn
          by_cases h : ∃ m', m' < n ∧ ∃ x, μ x = m' ∧ EOk N (EI x) (LI x) a ∧ Inv w0 S0 (stA (LI x) (HI x)) w
          · obtain ⟨m', hm, hx⟩ := h
            exact ih m' hm hx
          · exact ⟨n, hn, fun m' hm' => Nat.le_of_not_lt fun hlt => h ⟨m', hlt, hm'⟩⟩
      exact this _ ⟨x, rfl, hx⟩
    have hm1 := Classical.epsilon_spec (least a1 w1 ⟨x1, he1, hi1⟩)
    obtain ⟨⟨x2, hx2, he2, hi2⟩, _⟩ := hm1
    refine wp_mono (round x2 w0 S0 a1 w1 he2 hi2) fun e a3 w3 q => ?_
    cases e with
    | normal =>
      obtain ⟨E', L', H', ⟨x', hE', hA', hlt⟩, he3, hi3⟩ := q
      have hx' : ∃ x, EOk N (EI x) (LI x) a3 ∧ Inv w0 S0 (stA (LI x) (HI x)) w3 := ⟨x', hE' a3 he3, hi3.ent hA'⟩
      refine ⟨hx', ?_⟩
      have hm3 := Classical.epsilon_spec (least a3 w3 hx')
      have := hm3.2 (μ x') ⟨x', rfl, hE' a3 he3, hi3.ent hA'⟩
      omega
    | exit id => exact q
    | goto l => exact q
    | ret => exact q
    | panic ch => exact q
    | outgrown => exact q
  exact key _ x0 a w rfl (h0 a he) (hi.ent hA)

/-! ### Operations -/
theorem SEM.op {all l : List Oper} {o : Oper} (hg : o.guard = none)
    (h : ∀ w0 S0 a w, EOk N E L a → Inv w0 S0 (stA L H) w → o.wp P a w (Kk P w0 S0 N Q (.ops all l :: k) .normal) (Kk P w0 S0 N Q k)) : SEM P N (.ops all (o :: l) :: k) E L H Q := fun w0 S0 a w he hi => by
  simp only [Kk, wpList]
  rw [if_pos (by simp [Region.wanted, hg])]
  exact .inl (h w0 S0 a w he hi)

/-- A value comes, the world steps. -/
theorem SEM.value {all l : List Oper} {o : Oper} {B : AV → Assn × Env × List Loc × List Assn} (hg : o.guard = none)
    (h : ∀ w0 S0 a w, EOk N E L a → Inv w0 S0 (stA L H) w → ∃ v w' E' L' H', (execOp a.eval o).run P w = .ok (.value v) w' ∧ EOk N E' L' (a.put o.dst v) ∧ Inv w0 S0 (stA L' H') w' ∧ SEM P N (.ops all l :: k) E' L' H' Q) :
    SEM P N (.ops all (o :: l) :: k) E L H Q := SEM.op hg fun w0 S0 a w he hi => by
  obtain ⟨v, w', E', L', H', hr, he', hi', hs⟩ := h w0 S0 a w he hi
  simp only [Oper.wp, hr, Oper.upon]
  exact hs w0 S0 _ w' he' hi'

theorem Inv.block {w0 : World} {S0 : Nat → Prop} {w : World} (hi : Inv w0 S0 (stA L H) w) {j : Nat} {p : Loc} (h : L[j]? = some p) : BlockIs w p.1 p.2 := hi.says (stA_block h)

theorem SEM.quiet {all l : List Oper} {o : Oper} {y : AV} (hg : o.guard = none) (hd : dstOk N o.dst = true) (hq : qop P o.op E.ev L = some y)
    (h : SEM P N (.ops all l :: k) (E.put o.dst y) L H Q) : SEM P N (.ops all (o :: l) :: k) E L H Q := SEM.op hg fun w0 S0 a w he hi => by
  obtain ⟨v, hv, hr⟩ := run_qop (ρ := a.eval) (fun x y hx => he.ev hx) (fun k p hk => Inv.block hi hk) hq
  simp only [Oper.wp, hr, Oper.upon]
  exact h w0 S0 _ w (he.put hd hv) hi

def storeOk (P : Program) (t : TypeId) (cs vs : List Value) (o : Nat) : Bool := (match tsz P t with | some n => n == vs.length | none => false) && decide (o + vs.length ≤ cs.length) && vs.all (·.oneCell')
theorem SEM.store {all l : List Oper} {o : Oper} {t : TypeId} {x v : Operand} {i off : Nat} {y : AV} {val : Value} {p : Loc} (hg : o.guard = none) (hd : o.dst = none) (ho : o.op = .store t x v)
    (hx : E.ev x = some (.l i off)) (hv : E.ev v = some y) (hp : L[i]? = some p) (hy : y.to L = some val) (hok : storeOk P t p.2 val.cells.toList off = true)
    (h : SEM P N (.ops all l :: k) E (L.set i (p.1, splice p.2 off val.cells.toList)) H Q) : SEM P N (.ops all (o :: l) :: k) E L H Q := SEM.op hg fun w0 S0 a w he hi => by
  have e1 := he.ev hx
  have e2 := he.ev hv
  simp only [AV.to, hp, Option.some.injEq] at e1
  rw [hy] at e2
  simp only [Option.some.injEq] at e2
  simp only [storeOk, Bool.and_eq_true, decide_eq_true_eq, List.all_eq_true] at hok
  obtain ⟨⟨hz, hl⟩, h1⟩ := hok
  have hz' : tsz P t = some val.cells.toList.length := by
    cases hn : tsz P t with
    | none => simp [hn] at hz
    | some n => simp [hn] at hz; simp [hz]
  obtain ⟨w', hr, hst⟩ := Step.storeCells (P := P) (Inv.block hi hp) hl h1
  have hrun : (execOp a.eval o).run P w = .ok .skip w' := by
    simp only [execOp, ho, ← e1, ← e2, Instr.storeAt, Instr.sureAddr, storeVar, Sem.run_bind, Sem.run_pure, Result.andThen_ok, run_sz hz', Array.length_toList, ne_eq, not_true_eq_false, if_false, hr]
  simp only [Oper.wp, hrun, Oper.upon]
  refine h w0 S0 _ w' ?_ ?_
  · rw [hd]
    refine EOk.locs (he.put (dst := none) (x := .v undef) rfl rfl) fun j q hq => ?_
    by_cases hij : i = j
    · subst hij
      rw [hp] at hq
      cases hq
      have : i < L.length := (List.getElem?_eq_some_iff.1 hp).1
      exact ⟨(p.1, splice p.2 off val.cells.toList), by rw [List.getElem?_set_self this], rfl⟩
    · exact ⟨q, by rw [List.getElem?_set_ne hij]; exact hq, rfl⟩
  · have hm : (L.map fun p => pt p.1 p.2)[i]? = some (pt p.1 p.2) := by simp [hp]
    refine Step.inv ((hst.frame (star (stars ((L.map fun p => pt p.1 p.2).eraseIdx i)) (stars H))).ent ?_ ?_) hi
    · exact (Ent.star (stars_pick _ _ _ hm) (Ent.refl _)).trans (Ent.assoc _ _ _)
    · refine (Ent.assoc' _ _ _).trans (Ent.star ((stars_set _ i _ _ hm).trans ?_) (Ent.refl _))
      rw [← List.map_set (f := fun p : Loc => pt p.1 p.2) (a := (p.1, splice p.2 off val.cells.toList))]
      exact Ent.refl _

theorem getElem?_snoc {α : Type} (L : List α) (x : α) {k : Nat} {p : α} (h : L[k]? = some p) : (L ++ [x])[k]? = some p := by
  rw [List.getElem?_append_left (List.getElem?_eq_some_iff.1 h).1, h]
theorem snoc_inv {w0 : World} {S0 : Nat → Prop} {w : World} (hi : Inv w0 S0 (stA L H) w) (cs : List Value) (e : TypeId) :
    Inv w0 S0 (stA (L ++ [(w.heap.size, cs)]) H) (w.alloc (.cells cs.toArray e)) := by
  refine Step.inv ((Step.alloc w cs e).ent (Ent.refl _) ?_) hi
  refine (Ent.assoc' _ _ _).trans (Ent.star ?_ (Ent.refl _))
  refine (Ent.comm _ _).trans ?_
  have := stars_append' (L.map fun p => pt p.1 p.2) [pt w.heap.size cs]
  simp only [locs, List.map_append, List.map_cons, List.map_nil]
  exact (Ent.star (Ent.refl _) (Ent.empr _)).trans this
theorem SEM.box {all l : List Oper} {o : Oper} {t : TypeId} {x : Operand} {y : AV} {val : Value} (hg : o.guard = none) (hd : dstOk N o.dst = true) (ho : o.op = .box t x)
    (hx : E.ev x = some y) (hy : y.to L = some val) (h : ∀ b, SEM P N (.ops all l :: k) (E.put o.dst (.l L.length 0)) (L ++ [(b, val.cells.toList)]) H Q) :
    SEM P N (.ops all (o :: l) :: k) E L H Q := SEM.op hg fun w0 S0 a w he hi => by
  have e1 := he.ev hx
  rw [hy] at e1
  simp only [Option.some.injEq] at e1
  have hrun : (execOp a.eval o).run P w = .ok (.value (.pointer (some ⟨w.heap.size, 0, none⟩))) (w.alloc (.cells val.cells t)) := by
    simp [execOp, ho, ← e1, Instr.box, newVar, newRow, Sem.run_bind]
  simp only [Oper.wp, hrun, Oper.upon]
  have hi' := snoc_inv hi val.cells.toList t
  simp only [Array.toArray_toList] at hi'
  refine h w.heap.size w0 S0 _ _ ?_ hi'
  exact EOk.put (he.locs fun j q hq => ⟨q, getElem?_snoc _ _ hq, rfl⟩) hd (by simp [AV.to])
theorem SEM.alloc {all l : List Oper} {o : Oper} {t : TypeId} {cs : List Value} (hg : o.guard = none) (hd : dstOk N o.dst = true) (ho : o.op = .alloc t) (hz : tzero P t = some cs)
    (h : ∀ b, SEM P N (.ops all l :: k) (E.put o.dst (.l L.length 0)) (L ++ [(b, cs)]) H Q) : SEM P N (.ops all (o :: l) :: k) E L H Q := SEM.op hg fun w0 S0 a w he hi => by
  unfold tzero at hz
  obtain ⟨i, hti, hz⟩ := Option.bind_eq_some_iff.1 hz
  obtain ⟨z, hzz, rfl⟩ := Option.map_eq_some_iff.1 hz
  have hrun : (execOp a.eval o).run P w = .ok (.value (.pointer (some ⟨w.heap.size, 0, none⟩))) (w.alloc (.cells z.cells t)) := by
    simp [execOp, ho, Instr.alloc, zeroValue, typeInfo, hti, hzz, newVar, newRow, Sem.run_bind]
  simp only [Oper.wp, hrun, Oper.upon]
  have hi' := snoc_inv hi z.cells.toList t
  simp only [Array.toArray_toList] at hi'
  refine h w.heap.size w0 S0 _ _ ?_ hi'
  exact EOk.put (he.locs fun j q hq => ⟨q, getElem?_snoc _ _ hq, rfl⟩) hd (by simp [AV.to])

/-- An operation that is guarded. -/
theorem SEM.guard {all l : List Oper} {o : Oper} {j d : Nat} {want t : Bool} (hg : o.guard = some (j, want)) (hj : (all[j]?).bind (·.dst) = some d) (hb : E.get d = some (.v (.bool t))) (hd : dstOk N o.dst = true)
    (hy : t = want → SEM P N (.ops all ({ o with guard := none } :: l) :: k) E L H Q) (hn : t = !want → SEM P N (.ops all l :: k) (E.put o.dst (.v undef)) L H Q) :
    SEM P N (.ops all (o :: l) :: k) E L H Q := fun w0 S0 a w he hi => by
  have hyl : yielded all.toArray a.tmps j = some t := by
    obtain ⟨v, h1, h2⟩ := he.get d _ hb
    simp only [AV.to, Option.some.injEq] at h1
    subst h1
    simp only [yielded, List.getElem?_toArray, hj, Option.bind_some, h2]
  simp only [Kk, wpList]
  by_cases ht : t = want
  · rw [if_pos (by simp [Region.wanted, hg, hyl, ht])]
    have := hy ht w0 S0 a w he hi
    simp only [Kk, wpList] at this
    rw [if_pos (by simp [Region.wanted])] at this
    exact this
  · rw [if_neg (by simp [Region.wanted, hg, hyl, ht])]
    have ht' : t = !want := by cases t <;> cases want <;> simp_all
    exact hn ht' w0 S0 _ w (he.put hd rfl) hi

theorem SEM.pick {all l : List Oper} {o : Oper} {c x z : Operand} {t : Bool} {y1 y2 : AV} (hg : o.guard = none) (hd : dstOk N o.dst = true) (ho : o.op = .pick c x z)
    (hc : E.ev c = some (.v (.bool t))) (h1 : t = true → E.ev x = some y1 ∧ SEM P N (.ops all l :: k) (E.put o.dst y1) L H Q) (h2 : t = false → E.ev z = some y2 ∧ SEM P N (.ops all l :: k) (E.put o.dst y2) L H Q) :
    SEM P N (.ops all (o :: l) :: k) E L H Q := SEM.op hg fun w0 S0 a w he hi => by
  have e1 := he.ev hc
  simp only [AV.to, Option.some.injEq] at e1
  cases t with
  | true =>
    obtain ⟨hx, hs⟩ := h1 rfl
    have hrun : (execOp a.eval o).run P w = .ok (.value (a.eval x)) w := by simp [execOp, ho, ← e1, asBool, Sem.run_bind]
    simp only [Oper.wp, hrun, Oper.upon]
    exact hs w0 S0 _ w (he.put hd (he.ev hx)) hi
  | false =>
    obtain ⟨hx, hs⟩ := h2 rfl
    have hrun : (execOp a.eval o).run P w = .ok (.value (a.eval z)) w := by simp [execOp, ho, ← e1, asBool, Sem.run_bind]
    simp only [Oper.wp, hrun, Oper.upon]
    exact hs w0 S0 _ w (he.put hd (he.ev hx)) hi
end

end Go.Sep
