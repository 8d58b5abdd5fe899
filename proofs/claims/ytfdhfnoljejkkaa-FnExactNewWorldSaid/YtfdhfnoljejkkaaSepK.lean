/-
  A statement whose operations may come in several orders, and all only read: any order gives the same.
  Plain definitions and theorems; nothing of a program in it.
-/
import Derived.Test.YtfdhfnoljejkkaaSepJ
import Derived.Orders
set_option linter.unusedVariables false
set_option linter.unusedSimpArgs false
namespace Go.Sep
open Go Go.RowKit

def opTmps (l : List Operand) : List Nat := l.filterMap fun x => match x with | .tmp t => some t | _ => none
/-- The temporaries that an operation looks at. -/
def visT (o : Oper) : List Nat := opTmps o.op.operands.toList
/-- As EOk, of these temporaries alone. -/
structure EOkV (N : Nat) (T : List Nat) (E : Env) (L : List Loc) (a : Act) : Prop where
  defers : a.defers = []
  size : a.tmps.size = N
  get : ∀ t ∈ T, ∀ x, E.get t = some x → ∃ v, x.to L = some v ∧ a.tmps[t]? = some v

theorem EOkV.ev {N : Nat} {T : List Nat} {E : Env} {L : List Loc} {a : Act} (h : EOkV N T E L a) {x : Operand} {y : AV} (hx : E.ev x = some y) (ht : ∀ t, x = .tmp t → t ∈ T) : y.to L = some (a.eval x) := by
  cases x with
  | tmp t =>
    obtain ⟨v, h1, h2⟩ := h.get t (ht t rfl) y hx
    rw [h1]
    simp [Act.eval, Array.getD_eq_getD_getElem?, h2]
  | const v => simp only [Env.ev, Option.some.injEq] at hx; subst hx; rfl
  | global g => simp only [Env.ev, Option.some.injEq] at hx; subst hx; rfl
  | func f => simp only [Env.ev, Option.some.injEq] at hx; subst hx; rfl

/-- Whatever stood elsewhere: the operation gives y, and all that is said stays so. -/
def QStep (P : Program) (N : Nat) (o : Oper) (E : Env) (L : List Loc) (H : List Assn) (y : AV) : Prop :=
  ∀ w0 S0 a w, EOkV N (visT o) E L a → Inv w0 S0 (stA L H) w → ∃ v, y.to L = some v ∧
    ∀ (K : Act → World → Prop) (Q' : Exit → Act → World → Prop), (∀ w', Inv w0 S0 (stA L H) w' → K (a.put o.dst v) w') → o.wp P a w K Q'

def QRun (P : Program) (N : Nat) (all : List Oper) : List Oper → Env → List Loc → List Assn → (Env → Prop) → Prop
  | [], E, L, H, K => K E
  | o :: l, E, L, H, K => match dstOk N o.dst with
    | false => False
    | true => match o.guard with
      | none => match qop P o.op E.ev L with
        | some y => QRun P N all l (E.put o.dst y) L H K
        | none => ∃ y, QStep P N o E L H y ∧ QRun P N all l (E.put o.dst y) L H K
      | some (j, want) => match (all[j]?).bind (·.dst) with
        | some d => match E.get d with
          | some (.v (.bool t)) => (t = want → match qop P o.op E.ev L with
              | some y => QRun P N all l (E.put o.dst y) L H K
              | none => ∃ y, QStep P N o E L H y ∧ QRun P N all l (E.put o.dst y) L H K) ∧ (t = (!want) → QRun P N all l (E.put o.dst (.v undef)) L H K)
          | _ => False
        | none => False

/-- The region's numbers: no temporary is written twice; what an operation looks at, and its guard, waits. -/
def regOk (ops : List Oper) : Bool :=
  (ops.filterMap (·.dst)).Nodup && ops.all (fun o => o.dst.isSome) &&
  (List.range ops.length).all fun i => match ops[i]? with
    | none => false
    | some o => (o.after.toList.all fun e => e.on < i) && (List.range ops.length).all fun j => match ops[j]? with
      | none => false
      | some oj => match oj.dst with
        | none => false
        | some d => (!(visT o).contains d || (o.after.toList.any fun e => e.on == j && Region.binds .any e) ) &&
          (match o.guard with | some (g, _) => !(g == j) || (o.after.toList.any fun e => e.on == j && Region.binds .any e) | none => true)

/-- What each operation gives, in the text's order. -/
inductive QChain (P : Program) (N : Nat) (all : List Oper) (L : List Loc) (H : List Assn) : List Oper → Env → List AV → Env → Prop
  | nil (E : Env) : QChain P N all L H [] E [] E
  | step {o l E y ys E'} (hd : dstOk N o.dst = true) (hg : o.guard = none) (h : QStep P N o E L H y) (r : QChain P N all L H l (E.put o.dst y) ys E') : QChain P N all L H (o :: l) E (y :: ys) E'
  | yes {o l E y ys E' j d want} (hd : dstOk N o.dst = true) (hg : o.guard = some (j, want)) (hj : (all[j]?).bind (·.dst) = some d) (hb : E.get d = some (.v (.bool want))) (h : QStep P N o E L H y) (r : QChain P N all L H l (E.put o.dst y) ys E') : QChain P N all L H (o :: l) E (y :: ys) E'
  | no {o l E ys E' j d want} (hd : dstOk N o.dst = true) (hg : o.guard = some (j, want)) (hj : (all[j]?).bind (·.dst) = some d) (hb : E.get d = some (.v (.bool (!want)))) (r : QChain P N all L H l (E.put o.dst (.v undef)) ys E') : QChain P N all L H (o :: l) E (.v undef :: ys) E'

section
variable {P : Program} {N : Nat} {k : List It} {E : Env} {L : List Loc} {H : List Assn} {Q : Post}

theorem mem_opTmps {l : List Operand} {t : Nat} (h : Operand.tmp t ∈ l) : t ∈ opTmps l := by
  unfold opTmps
  exact List.mem_filterMap.2 ⟨_, h, rfl⟩
theorem ev_congr {E E' : Env} {x : Operand} (h : ∀ t, x = .tmp t → E.get t = E'.get t) : E.ev x = E'.ev x := by
  cases x with
  | tmp t => exact h t rfl
  | _ => rfl
/-- An environment that knows just what an operation looks at. -/
def cutE (T : List Nat) (E : Env) : Env := T.filterMap fun t => match E.get t with | some x => some (t, x) | none => none
theorem cutE_get (E : Env) : ∀ (T : List Nat) (t : Nat), (cutE T E).get t = if t ∈ T then E.get t else none := by
  intro T
  induction T with
  | nil => intro t; rfl
  | cons u T ih =>
    intro t
    have ih' := ih t
    unfold cutE at ih' ⊢
    simp only [List.filterMap_cons]
    cases hu : E.get u with
    | none =>
      simp only [hu]
      rw [ih']
      by_cases e : t = u
      · subst e; simp [hu]
      · simp [e]
    | some x =>
      simp only [hu, Env.get]
      by_cases e : u = t
      · subst e; simp [hu]
      · rw [if_neg e, ih']
        simp [Ne.symm e]
theorem EOkV.cut {a : Act} {T : List Nat} (h : EOkV N T E L a) : EOk N (cutE T E) L a := ⟨h.defers, h.size, fun t x hx => by
  rw [cutE_get] at hx
  split at hx
  · rename_i ht; exact h.get t ht x hx
  · cases hx⟩
theorem qop_congr {op : Op} {ev ev' : Operand → Option AV} {L : List Loc} (h : ∀ x ∈ op.operands.toList, ev x = ev' x) : qop P op ev L = qop P op ev' L := by
  have hvals : ∀ l : List Operand, (∀ x ∈ l, ev x = ev' x) → vals ev L l = vals ev' L l := by
    intro l
    induction l with
    | nil => intro _; rfl
    | cons x l ih => intro h; simp only [vals]; rw [h x (by simp), ih fun y hy => h y (by simp [hy])]
  cases op <;> simp only [Op.operands] at h <;> simp only [qop] <;> try rfl
  all_goals try (simp at h; simp only [h]; done)
  · rw [hvals _ fun x hx => h x (by simpa using hx)]
  · rw [hvals _ fun x hx => h x (by simp [hx]), hvals _ fun x hx => h x (by simp [hx])]
  · rename_i c
    cases hc : c.callee with
    | value f => rfl
    | invoke r m => rfl
    | builtin b =>
      have h' : ∀ x ∈ c.args.toList, ev x = ev' x := fun x hx => h x (by simp [Call.operands, hc]; simpa using hx)
      cases b <;> simp only [hc] <;> try rfl
      all_goals
        split
        all_goals first
          | rfl
          | (rename_i hx ht; rw [hx] at h'; rw [h' _ (by simp)]; try rw [h' _ (by simp)])
          | (rename_i hx; rw [hx] at h'; rw [h' _ (by simp), h' _ (by simp)])

theorem QStep.of_qop {o : Oper} {y : AV} (h : qop P o.op E.ev L = some y) : QStep P N o E L H y := by
  intro w0 S0 a w he hi
  have hq : qop P o.op (cutE (visT o) E).ev L = some y := by
    rw [← h]
    refine qop_congr fun x hx => ev_congr fun t ht => ?_
    subst ht
    rw [cutE_get, if_pos (show t ∈ visT o from mem_opTmps hx)]
  obtain ⟨v, hv, hr⟩ := run_qop (ρ := a.eval) (fun x y hx => he.cut.ev hx) (fun k p hk => Inv.block hi hk) hq
  refine ⟨v, hv, fun K Q' hK => ?_⟩
  simp only [Oper.wp, hr, Oper.upon]
  exact hK w hi
/-- A quiet step, shown by hand. -/
theorem QStep.of_run {o : Oper} {y : AV} {v : Value} (hy : y.to L = some v) (h : ∀ a w, EOkV N (visT o) E L a → Sat (stA L H) w → (execOp a.eval o).run P w = .ok (.value v) w) : QStep P N o E L H y := by
  intro w0 S0 a w he hi
  obtain ⟨S, hS, _⟩ := hi.has
  refine ⟨v, hy, fun K Q' hK => ?_⟩
  simp only [Oper.wp, h a w he ⟨S, hS⟩, Oper.upon]
  exact hK w hi
theorem vis_mem {o : Oper} {x : Operand} (h : x ∈ o.op.operands.toList) : ∀ t, x = .tmp t → t ∈ visT o := fun t ht => by
  subst ht; exact mem_opTmps h
theorem QStep.load {o : Oper} {t : TypeId} {x : Operand} {ad : Addr} (cs : List Value) (hs : Says (stA L H) fun w => CellsAt w ad cs) {v : Value} (hv : loadC P t cs 0 = some v)
    (ho : o.op = .load t x) (hx : E.ev x = some (.v (.pointer (some ad)))) : QStep P N o E L H (.v v) := by
  refine QStep.of_run rfl fun a w he ⟨S, hS⟩ => ?_
  have e1 := he.ev hx (vis_mem (by simp [ho, Op.operands]))
  simp only [AV.to, Option.some.injEq] at e1
  simp [execOp, ho, ← e1, Sem.run_bind, run_loadAt (hs w S hS) hv]
theorem QStep.indexAddr {o : Oper} {t e : TypeId} {x i : Operand} {A : Option Addr} {n c sz : Nat} {kk : IntKind} {j : Int} {ad : Addr} (h0 : 0 ≤ j) (h1 : j < n) (hA : A = some ad) (ho : o.op = .indexAddr t x i)
    (hx : E.ev x = some (.v (.slice A n c))) (hi : E.ev i = some (.v (.int kk j))) (ht : tsl P t = some e) (hz : tsz P e = some sz) : QStep P N o E L H (.v (.pointer (some (pl ad (j.toNat * sz))))) := by
  refine QStep.of_run rfl fun a w he _ => ?_
  have e1 := he.ev hx (vis_mem (by simp [ho, Op.operands]))
  have e2 := he.ev hi (vis_mem (by simp [ho, Op.operands]))
  simp only [AV.to, Option.some.injEq] at e1 e2
  subst hA
  have hu := tsl_some ht
  simp [execOp, ho, ← e1, ← e2, Instr.indexAt, asIntOf, Sem.run_bind, run_underlying hu, h0, h1, run_sz hz, pl]
theorem QStep.indexStr {o : Oper} {t : TypeId} {x i : Operand} {s : ByteArray} {kk : IntKind} {j : Int} (h0 : 0 ≤ j) (h1 : j < s.size) (ho : o.op = .index t x i)
    (hx : E.ev x = some (.v (.string s))) (hi : E.ev i = some (.v (.int kk j))) (ht : tstr P t = true) : QStep P N o E L H (.v (.int .u8 (bt s j))) := by
  refine QStep.of_run rfl fun a w he _ => ?_
  have e1 := he.ev hx (vis_mem (by simp [ho, Op.operands]))
  have e2 := he.ev hi (vis_mem (by simp [ho, Op.operands]))
  simp only [AV.to, Option.some.injEq] at e1 e2
  have hl : j.toNat < s.size := by omega
  have hb : s[j.toNat]? = some s[j.toNat] := by simp [hl]
  have hu := tstr_some ht
  simp [execOp, ho, ← e1, ← e2, Instr.index, asIntOf, Sem.run_bind, run_underlying hu, h0, hb, bt]
theorem QStep.callR {o : Oper} {c : Call} {x : Operand} {f : FuncId} {fi ca : Array Value} {vs args : List Value} {r : Value} (h : ∀ w, Sat (stA L H) w → RFn P f args w r)
    (ho : o.op = .call c) (hc : c.callee = .value x) (hx : E.ev x = some (.v (.func (.func f) fi ca))) (hv : vals E.ev L c.args.toList = some vs) (hargs : fi.toList ++ vs ++ ca.toList = args) (hf : callable P f = true) :
    QStep P N o E L H (.v r) := by
  intro w0 S0 a w he hi
  subst hargs
  have e1 := he.ev hx (vis_mem (by simp [ho, Op.operands, Call.operands, hc]))
  simp only [AV.to, Option.some.injEq] at e1
  have hvc : vals (cutE (visT o) E).ev L c.args.toList = some vs := by
    rw [← hv]
    have : ∀ l : List Operand, (∀ x ∈ l, x ∈ o.op.operands.toList) → vals (cutE (visT o) E).ev L l = vals E.ev L l := by
      intro l
      induction l with
      | nil => intro _; rfl
      | cons y l ih =>
        intro hl
        simp only [vals]
        rw [ih fun z hz => hl z (by simp [hz])]
        rw [show (cutE (visT o) E).ev y = E.ev y from ev_congr fun t ht => by subst ht; rw [cutE_get, if_pos (show t ∈ visT o from mem_opTmps (hl _ (by simp)))]]
    refine this _ fun z hz => ?_
    simp [ho, Op.operands, Call.operands, hc]
    right; simpa using hz
  have e2 := vals_map (ρ := a.eval) (fun x y hx => he.cut.ev hx) _ _ hvc
  obtain ⟨S, hS, _⟩ := hi.has
  refine ⟨r, rfl, fun K Q' hK => ?_⟩
  simp only [Oper.wp, run_callF ho hc e1.symm e2 hf, Oper.upon]
  refine (h w ⟨S, hS⟩).mono ?_
  rintro e w' ⟨rfl, hk1⟩
  exact hK w' ((Step.same hk1).inv hi)
theorem QStep.callP {o : Oper} {c : Call} {x : Operand} {f : FuncId} {fi ca : Array Value} {vs args : List Value} {r : Value} (h : PFn P f args r)
    (ho : o.op = .call c) (hc : c.callee = .value x) (hx : E.ev x = some (.v (.func (.func f) fi ca))) (hv : vals E.ev L c.args.toList = some vs) (hargs : fi.toList ++ vs ++ ca.toList = args) (hf : callable P f = true) :
    QStep P N o E L H (.v r) := QStep.callR (fun w _ => h.r w) ho hc hx hv hargs hf

theorem QRun.chain {all : List Oper} {K : Env → Prop} : ∀ (l : List Oper) (E : Env), QRun P N all l E L H K → ∃ ys E', QChain P N all L H l E ys E' ∧ K E' := by
  intro l
  induction l with
  | nil => intro E h; exact ⟨[], E, .nil E, h⟩
  | cons o l ih =>
    intro E h
    simp only [QRun] at h
    split at h
    · exact h.elim
    · rename_i hd
      have fin : (match qop P o.op E.ev L with | some y => QRun P N all l (E.put o.dst y) L H K | none => ∃ y, QStep P N o E L H y ∧ QRun P N all l (E.put o.dst y) L H K) → ∃ y, QStep P N o E L H y ∧ QRun P N all l (E.put o.dst y) L H K := by
        intro h
        split at h
        · rename_i y hq; exact ⟨y, QStep.of_qop hq, h⟩
        · exact h
      split at h
      · rename_i hg
        obtain ⟨y, hs, hr⟩ := fin h
        obtain ⟨ys, E', hc, hK⟩ := ih _ hr
        exact ⟨_, E', .step hd hg hs hc, hK⟩
      · rename_i j want hg
        split at h
        · rename_i d hj
          split at h
          · rename_i t hb
            by_cases e : t = want
            · subst e
              obtain ⟨y, hs, hr⟩ := fin (h.1 rfl)
              obtain ⟨ys, E', hc, hK⟩ := ih _ hr
              exact ⟨_, E', .yes hd hg hj hb hs hc, hK⟩
            · have e' : t = !want := by cases t <;> cases want <;> simp_all
              subst e'
              obtain ⟨ys, E', hc, hK⟩ := ih _ (h.2 rfl)
              exact ⟨_, E', .no hd hg hj hb hc, hK⟩
          · exact h.elim
        · exact h.elim

def envAt : List Oper → List AV → Env → Nat → Env
  | o :: l, y :: ys, E, j + 1 => envAt l ys (E.put o.dst y) j
  | _, _, E, _ => E
theorem envAt_out (t : Nat) : ∀ (l : List Oper) (ys : List AV) (E : Env) (j : Nat), (∀ i, i < j → (l[i]?).bind (·.dst) ≠ some t) → (envAt l ys E j).get t = E.get t := by
  intro l
  induction l with
  | nil => intro ys E j _; cases j <;> rfl
  | cons o l ih =>
    intro ys E j h
    cases j with
    | zero => cases ys <;> rfl
    | succ j =>
      cases ys with
      | nil => rfl
      | cons y ys =>
        simp only [envAt]
        rw [ih ys _ j fun i hi => by have := h (i + 1) (by omega); simpa using this]
        have h0 := h 0 (by omega)
        simp only [List.getElem?_cons_zero, Option.bind_some] at h0
        cases hd : o.dst with
        | none => rfl
        | some d =>
          simp only [Env.put, Env.get]
          rw [if_neg]
          intro e
          rw [hd, e] at h0
          exact h0 rfl
theorem envAt_in (t : Nat) (y : AV) : ∀ (l : List Oper) (ys : List AV) (E : Env) (i j : Nat), i < j → (l[i]?).bind (·.dst) = some t → ys[i]? = some y → (∀ i', i < i' → (l[i']?).bind (·.dst) ≠ some t) → (envAt l ys E j).get t = some y := by
  intro l
  induction l with
  | nil => intro ys E i j _ h; simp at h
  | cons o l ih =>
    intro ys E i j hij hd hy hu
    cases j with
    | zero => omega
    | succ j =>
      cases ys with
      | nil => simp at hy
      | cons y' ys =>
        simp only [envAt]
        cases i with
        | zero =>
          simp only [List.getElem?_cons_zero, Option.bind_some, Option.some.injEq] at hd hy
          subst hy
          rw [envAt_out t l ys _ j fun i hi => by have := hu (i + 1) (by omega); simpa using this]
          simp [Env.put, hd, Env.get]
        | succ i =>
          simp only [List.getElem?_cons_succ] at hd hy
          exact ih ys _ i j (by omega) hd hy fun i' hi' => by have := hu (i' + 1) (by omega); simpa using this
theorem QChain.at_ {all : List Oper} {l : List Oper} {E E' : Env} {ys : List AV} (h : QChain P N all L H l E ys E') : E' = envAt l ys E l.length ∧ ∀ (j : Nat) (o : Oper), l[j]? = some o → ∃ y, ys[j]? = some y ∧ dstOk N o.dst = true ∧
    ((o.guard = none ∧ QStep P N o (envAt l ys E j) L H y) ∨ ∃ g d want, o.guard = some (g, want) ∧ (all[g]?).bind (·.dst) = some d ∧
      (((envAt l ys E j).get d = some (.v (.bool want)) ∧ QStep P N o (envAt l ys E j) L H y) ∨ ((envAt l ys E j).get d = some (.v (.bool (!want))) ∧ y = .v undef))) := by
  induction h with
  | nil E => exact ⟨rfl, fun j o hj => by simp at hj⟩
  | step hd hg hs r ih =>
    refine ⟨ih.1, fun j o hj => ?_⟩
    cases j with
    | zero => simp only [List.getElem?_cons_zero, Option.some.injEq] at hj; subst hj; exact ⟨_, rfl, hd, .inl ⟨hg, hs⟩⟩
    | succ j => exact ih.2 j o (by simpa using hj)
  | yes hd hg hj' hb hs r ih =>
    refine ⟨ih.1, fun j o hj => ?_⟩
    cases j with
    | zero => simp only [List.getElem?_cons_zero, Option.some.injEq] at hj; subst hj; exact ⟨_, rfl, hd, .inr ⟨_, _, _, hg, hj', .inl ⟨hb, hs⟩⟩⟩
    | succ j => exact ih.2 j o (by simpa using hj)
  | no hd hg hj' hb r ih =>
    refine ⟨ih.1, fun j o hj => ?_⟩
    cases j with
    | zero => simp only [List.getElem?_cons_zero, Option.some.injEq] at hj; subst hj; exact ⟨_, rfl, hd, .inr ⟨_, _, _, hg, hj', .inr ⟨hb, rfl⟩⟩⟩
    | succ j => exact ih.2 j o (by simpa using hj)

theorem getD_set (l : Array Bool) (i j : Nat) (hi : i < l.size) : (l.setIfInBounds i true).getD j false = if i = j then true else l.getD j false := by
  simp only [Array.getD_eq_getD_getElem?, Array.getElem?_setIfInBounds]
  split
  · rename_i e
    subst e
    simp [hi]
  · rfl

/-- A region whose operations all only read: any order gives what the text's order gives. -/
theorem SEM.drawC {id : Nat} {ops : Array Oper} (h : ∃ ys E', QChain P N ops.toList L H ops.toList E ys E' ∧ SEM P N k E' L H Q) (hm : P.follows .mixedOrders = true) (hok : regOk ops.toList = true) :
    SEM P N (.code (.region id ops true) :: k) E L H Q := fun w0 S0 a0 w1 he0 hi0 => by
  obtain ⟨ys, E', hch, hfin⟩ := h
  obtain ⟨hE', hat⟩ := hch.at_
  simp only [regOk, Bool.and_eq_true] at hok
  obtain ⟨⟨hnd, hsome⟩, hrows⟩ := hok
  have hnd' : (ops.toList.filterMap (·.dst)).Nodup := of_decide_eq_true hnd
  -- no temporary is written twice
  have huniq : ∀ (i j : Nat) (t : Nat), (ops.toList[i]?).bind (·.dst) = some t → (ops.toList[j]?).bind (·.dst) = some t → i = j := by
    intro i j t hi hj
    have aux : ∀ (l : List Oper) (i j : Nat), (l.filterMap (·.dst)).Nodup → (l[i]?).bind (·.dst) = some t → (l[j]?).bind (·.dst) = some t → i < j → False := by
      intro l
      induction l with
      | nil => intro i j _ h; simp at h
      | cons o l ih =>
        intro i j hn hi hj hij
        cases j with
        | zero => omega
        | succ j =>
          simp only [List.getElem?_cons_succ] at hj
          cases i with
          | zero =>
            simp only [List.getElem?_cons_zero, Option.bind_some] at hi
            rw [List.filterMap_cons, hi] at hn
            simp only [List.nodup_cons] at hn
            apply hn.1
            obtain ⟨o', ho', hd'⟩ := Option.bind_eq_some_iff.1 hj
            exact List.mem_filterMap.2 ⟨o', List.mem_of_getElem? ho', hd'⟩
          | succ i =>
            simp only [List.getElem?_cons_succ] at hi
            refine ih i j ?_ hi hj (by omega)
            rw [List.filterMap_cons] at hn
            split at hn
            · exact hn
            · exact (List.nodup_cons.1 hn).2
    rcases Nat.lt_trichotomy i j with h' | h' | h'
    · exact (aux _ i j hnd' hi hj h').elim
    · exact h'
    · exact (aux _ j i hnd' hj hi h').elim
  have hrow : ∀ (i : Nat) (o : Oper), ops.toList[i]? = some o → (∀ e ∈ o.after.toList, e.on < i) ∧ ∀ (j : Nat) (d : Nat), (ops.toList[j]?).bind (·.dst) = some d →
      (d ∈ visT o → ∃ e ∈ o.after.toList, e.on = j ∧ Region.binds .any e = true) ∧ (∀ g want, o.guard = some (g, want) → g = j → ∃ e ∈ o.after.toList, e.on = j ∧ Region.binds .any e = true) := by
    intro i o hi
    have hlt := (List.getElem?_eq_some_iff.1 hi).1
    have h1 := List.all_eq_true.1 hrows i (List.mem_range.2 hlt)
    simp only [hi, Bool.and_eq_true, List.all_eq_true] at h1
    refine ⟨fun e he => by simpa using h1.1 e he, fun j d hj => ?_⟩
    obtain ⟨oj, hoj, hdj⟩ := Option.bind_eq_some_iff.1 hj
    have h2 := h1.2 j (List.mem_range.2 (List.getElem?_eq_some_iff.1 hoj).1)
    simp only [hoj, hdj, Bool.and_eq_true] at h2
    constructor
    · intro hv
      have h3 := h2.1
      simp only [Bool.or_eq_true, Bool.not_eq_true'] at h3
      rcases h3 with h3 | h3
      · have : (visT o).contains d = true := by simpa using hv
        rw [this] at h3; cases h3
      · obtain ⟨e, he, h4⟩ := List.any_eq_true.1 h3
        simp only [Bool.and_eq_true, beq_iff_eq] at h4
        exact ⟨e, he, h4.1, h4.2⟩
    · intro g want hg hgj
      have h3 := h2.2
      simp only [hg, Bool.or_eq_true, Bool.not_eq_true'] at h3
      rcases h3 with h3 | h3
      · rw [hgj] at h3; simp at h3
      · obtain ⟨e, he, h4⟩ := List.any_eq_true.1 h3
        simp only [Bool.and_eq_true, beq_iff_eq] at h4
        exact ⟨e, he, h4.1, h4.2⟩
  let n := ops.size
  have hlen : ops.toList.length = n := by simp [n]
  -- what holds on the way
  let J : Array Bool → Act → World → Prop := fun l a w => l.size = n ∧ a.defers = [] ∧ a.tmps.size = N ∧ Inv w0 S0 (stA L H) w ∧
    (∀ (j : Nat) (d : Nat) (y : AV), l.getD j false = true → (ops.toList[j]?).bind (·.dst) = some d → ys[j]? = some y → ∃ v, y.to L = some v ∧ a.tmps[d]? = some v) ∧
    (∀ t x, (∀ j : Nat, (ops.toList[j]?).bind (·.dst) ≠ some t) → E.get t = some x → ∃ v, x.to L = some v ∧ a.tmps[t]? = some v)
  have hready : ∀ (l : Array Bool) (i : Nat), i ∈ Region.ready .any ops l ↔ i < n ∧ l.getD i true = false ∧ ∃ o, ops[i]? = some o ∧ ∀ e ∈ o.after.toList, Region.binds .any e = true → l.getD e.on false = true := by
    intro l i
    simp only [Region.ready, List.mem_filter, List.mem_range, Bool.and_eq_true, Bool.not_eq_true']
    constructor
    · rintro ⟨h1, h2, h3⟩
      cases ho : ops[i]? with
      | none => simp [ho] at h3
      | some o =>
        refine ⟨h1, h2, o, rfl, fun e he hb => ?_⟩
        simp only [ho, Option.map_some, Option.getD_some] at h3
        have := Array.all_eq_true'.1 h3 e (by simpa using he)
        simpa [hb] using this
    · rintro ⟨h1, h2, o, ho, h3⟩
      refine ⟨h1, h2, ?_⟩
      simp only [ho, Option.map_some, Option.getD_some]
      refine Array.all_eq_true'.2 fun e he => ?_
      cases hb : Region.binds .any e with
      | false => simp
      | true => simpa using h3 e (by simpa using he) hb
  -- what is not listed yet
  have hnone : ∀ (l : Array Bool), l.size = n → Region.ready .any ops l = [] → ∀ j, j < n → l.getD j false = true := by
    intro l hl hr j hj
    induction j using Nat.strongRecOn with
    | _ j ih =>
      cases hlj : l.getD j false with
      | true => rfl
      | false =>
        exfalso
        have hlj' : l.getD j true = false := by
          simp only [Array.getD_eq_getD_getElem?] at hlj ⊢
          rw [Array.getElem?_eq_getElem (by omega)] at hlj ⊢
          simpa using hlj
        have ho : ops[j]? = some ops[j] := by simp [n] at hj; simp [hj]
        have : j ∈ Region.ready .any ops l := (hready l j).2 ⟨hj, hlj', ops[j], ho, fun e he _ => ih e.on ((hrow j ops[j] (by rw [Array.getElem?_toList]; exact ho)).1 e he) (by have := (hrow j ops[j] (by rw [Array.getElem?_toList]; exact ho)).1 e he; omega)⟩
        rw [hr] at this
        cases this
  have hend : ∀ (l : Array Bool) a w, J l a w → Region.ready .any ops l = [] → Kk P w0 S0 N Q k .normal a w := by
    rintro l a w ⟨h1, h2, h3, h4, h5, h6⟩ hr
    refine hfin w0 S0 a w ⟨h2, h3, fun t x hx => ?_⟩ h4
    rw [hE'] at hx
    by_cases ht : ∃ j : Nat, (ops.toList[j]?).bind (·.dst) = some t
    · obtain ⟨j, hj⟩ := ht
      obtain ⟨o, ho, _⟩ := Option.bind_eq_some_iff.1 hj
      obtain ⟨y, hy, _⟩ := hat j o ho
      have hjn : j < ops.toList.length := (List.getElem?_eq_some_iff.1 ho).1
      rw [envAt_in t y _ ys E j _ hjn hj hy (fun i' hi' e => by have := huniq _ _ t hj e; omega)] at hx
      exact Option.some.inj hx ▸ h5 j t y (hnone l h1 hr j (by omega)) hj hy
    · rw [envAt_out t _ ys E _ (fun i _ e => ht ⟨i, e⟩)] at hx
      exact h6 t x (fun j e => ht ⟨j, e⟩) hx
  have main : ∀ (fuel : Nat) (l : Array Bool) a w, J l a w → ((List.range n).filter fun i => !l.getD i false).length ≤ fuel → wpAny P .any ops (Kk P w0 S0 N Q k) fuel l a w := by
    intro fuel
    induction fuel with
    | zero =>
      intro l a w hJ hc
      have hr : Region.ready .any ops l = [] := by
        apply List.eq_nil_iff_forall_not_mem.2
        intro i hi
        obtain ⟨h1, h2, _⟩ := (hready l i).1 hi
        have : i ∈ (List.range n).filter fun i => !l.getD i false := by
          refine List.mem_filter.2 ⟨List.mem_range.2 h1, ?_⟩
          have hl := hJ.1
          simp only [Array.getD_eq_getD_getElem?] at h2 ⊢
          rw [Array.getElem?_eq_getElem (by omega)] at h2 ⊢
          simpa using h2
        have hlen := List.length_pos_of_mem this
        omega
      exact ⟨hr, hend l a w hJ hr⟩
    | succ fuel ih =>
      intro l a w hJ hc
      refine ⟨fun hr => hend l a w hJ hr, fun i hi => ?_⟩
      obtain ⟨hin, hli, o, ho, hedge⟩ := (hready l i).1 hi
      have hoL : ops.toList[i]? = some o := by rw [Array.getElem?_toList]; exact ho
      have ⟨h1, h2, h3, h4, h5, h6⟩ := hJ
      have hli' : l.getD i false = false := by
        simp only [Array.getD_eq_getD_getElem?] at hli ⊢
        rw [Array.getElem?_eq_getElem (by omega)] at hli ⊢
        simpa using hli
      obtain ⟨y, hy, hdok, halt⟩ := hat i o hoL
      -- the next state
      have next : ∀ (v : Value) (w' : World), y.to L = some v → Inv w0 S0 (stA L H) w' → wpAny P .any ops (Kk P w0 S0 N Q k) fuel (l.setIfInBounds i true) (a.put o.dst v) w' := by
        intro v w' hv hi'
        obtain ⟨d, hd⟩ : ∃ d, o.dst = some d := Option.isSome_iff_exists.1 (by simpa using List.all_eq_true.1 hsome o (List.mem_of_getElem? hoL))
        have hdN : d < N := by rw [hd] at hdok; simpa [dstOk] using hdok
        have hdi : (ops.toList[i]?).bind (·.dst) = some d := by rw [hoL]; exact hd
        refine ih _ _ _ ⟨by simp [h1], by rw [hd]; exact h2, by rw [hd]; simp [Act.put, h3], hi', ?_, ?_⟩ ?_
        · intro j d' y' hj hd' hy'
          rw [getD_set _ _ _ (by omega)] at hj
          by_cases e : i = j
          · subst e
            rw [hdi] at hd'
            cases hd'
            rw [hy] at hy'
            cases hy'
            exact ⟨v, hv, by rw [hd]; simp [Act.put, h3, hdN]⟩
          · rw [if_neg e] at hj
            obtain ⟨v', hv', ht'⟩ := h5 j d' y' hj hd' hy'
            refine ⟨v', hv', ?_⟩
            have hne : d ≠ d' := fun e' => e (huniq _ _ d' (by rw [← e']; exact hdi) hd')
            rw [hd]
            simp [Act.put, Array.getElem?_setIfInBounds, hne, ht']
        · intro t x ht hx
          obtain ⟨v', hv', ht'⟩ := h6 t x ht hx
          refine ⟨v', hv', ?_⟩
          have hne : d ≠ t := fun e' => ht i (by rw [← e']; exact hdi)
          rw [hd]
          simp [Act.put, Array.getElem?_setIfInBounds, hne, ht']
        · have hcount : ∀ (L : List Nat), L.Nodup → i ∈ L → (L.filter fun j => !(l.setIfInBounds i true).getD j false).length + 1 ≤ (L.filter fun j => !l.getD j false).length := by
            intro L
            induction L with
            | nil => intro _ h; cases h
            | cons j L ihL =>
              intro hn hm
              have hnL := (List.nodup_cons.1 hn)
              simp only [List.filter_cons]
              by_cases e : i = j
              · subst e
                rw [getD_set _ _ _ (by omega), if_pos rfl, hli']
                have : (L.filter fun j => !(l.setIfInBounds i true).getD j false) = L.filter fun j => !l.getD j false := by
                  refine List.filter_congr fun j hj => ?_
                  have hne : ¬ i = j := fun e => by rw [e] at hnL; exact hnL.1 hj
                  rw [getD_set _ _ _ (by omega), if_neg hne]
                rw [this]
                exact Nat.le_refl _
              · have hm' : i ∈ L := (List.mem_cons.1 hm).resolve_left e
                have := ihL hnL.2 hm'
                rw [getD_set _ _ _ (by omega), if_neg e]
                split
                · simp only [List.length_cons]; omega
                · exact this
          have := hcount (List.range n) List.nodup_range (List.mem_range.2 hin)
          omega
      -- what it looks at is there
      have hvis : EOkV N (visT o) (envAt ops.toList ys E i) L a := by
        refine ⟨h2, h3, fun t ht x hx => ?_⟩
        by_cases hd : ∃ j : Nat, (ops.toList[j]?).bind (·.dst) = some t
        · obtain ⟨j, hj⟩ := hd
          obtain ⟨e, he, hej, heb⟩ := ((hrow i o hoL).2 j t hj).1 ht
          have hji : j < i := by have := (hrow i o hoL).1 e he; omega
          obtain ⟨oj, hoj, _⟩ := Option.bind_eq_some_iff.1 hj
          obtain ⟨yj, hyj, _⟩ := hat j oj hoj
          rw [envAt_in t yj _ ys E j _ hji hj hyj (fun i' hi' e => by have := huniq _ _ t hj e; omega)] at hx
          exact Option.some.inj hx ▸ h5 j t yj (by rw [← hej]; exact hedge e he heb) hj hyj
        · rw [envAt_out t _ ys E _ (fun i _ e => hd ⟨i, e⟩)] at hx
          exact h6 t x (fun j e => hd ⟨j, e⟩) hx
      have hdo : QStep P N o (envAt ops.toList ys E i) L H y → Region.wanted o (yielded ops a.tmps) = true → wpOp P ops (Kk P w0 S0 N Q k) i (wpAny P .any ops (Kk P w0 S0 N Q k) fuel (l.setIfInBounds i true)) a w := by
        intro hs hwant
        obtain ⟨v, hv, hstep⟩ := hs w0 S0 a w hvis h4
        simp only [wpOp, ho]
        rw [if_pos hwant]
        exact .inl (hstep _ _ fun w' hi' => next v w' hv hi')
      have hyield : ∀ (g d : Nat) (want b : Bool), o.guard = some (g, want) → (ops.toList[g]?).bind (·.dst) = some d → (envAt ops.toList ys E i).get d = some (.v (.bool b)) → yielded ops a.tmps g = some b := by
        intro g d want b hg hgd hget
        obtain ⟨e, he, hej, heb⟩ := ((hrow i o hoL).2 g d hgd).2 g want hg rfl
        have hgi : g < i := by have := (hrow i o hoL).1 e he; omega
        obtain ⟨og, hog, _⟩ := Option.bind_eq_some_iff.1 hgd
        obtain ⟨yg, hyg, _⟩ := hat g og hog
        rw [envAt_in d yg _ ys E g _ hgi hgd hyg (fun i' hi' e => by have := huniq _ _ d hgd e; omega)] at hget
        cases hget
        obtain ⟨v, hv, ht⟩ := h5 g d _ (by rw [← hej]; exact hedge e he heb) hgd hyg
        simp only [AV.to, Option.some.injEq] at hv
        subst hv
        have hgd' : (ops[g]?).bind (·.dst) = some d := by rw [← Array.getElem?_toList]; exact hgd
        simp only [yielded, hgd', Option.bind_some, ht]
      rcases halt with ⟨hg, hs⟩ | ⟨g, d, want, hg, hgd, ⟨hb, hs⟩ | ⟨hb, rfl⟩⟩
      · exact hdo hs (by simp [Region.wanted, hg])
      · exact hdo hs (by simp [Region.wanted, hg, hyield g d want want hg hgd hb])
      · simp only [wpOp, ho]
        rw [if_neg (by simp [Region.wanted, hg, hyield g d want (!want) hg hgd hb])]
        exact next undef w rfl h4
  refine wp_region_any hm (main ops.size _ a0 _ ⟨by simp [n], he0.defers, he0.size, (Step.same (Keeps.drawn w1 (w1.drawn + 1))).inv hi0, ?_, fun t x _ hx => he0.get t x hx⟩ ?_)
  · intro j d y hj _ _
    simp [Array.getD_eq_getD_getElem?, Array.getElem?_replicate] at hj
    split at hj <;> simp at hj
  · refine Nat.le_trans (List.length_filter_le _ _) (by simp [n])
end
end Go.Sep
