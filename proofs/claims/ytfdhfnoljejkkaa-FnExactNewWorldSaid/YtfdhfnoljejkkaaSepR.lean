/-
  Regions that draw their order and in which what makes or writes stands in one line: the run of them.
  Plain definitions and theorems; nothing of a program in it.
-/
import Derived.Test.YtfdhfnoljejkkaaSepQ
set_option linter.unusedVariables false
set_option linter.unusedSimpArgs false
namespace Go.Sep
open Go Go.RowKit

section
variable (P : Program) (N : Nat) (all : List Oper) (L : List Loc) (H : List Assn)
/-- Reads that may still be unrun hold as they did. -/
def opn : List Nat → Env → Prop
  | [], _ => True
  | i :: r, E => (match all[i]? with
    | none => False
    | some o => match o.dst with
      | none => False
      | some d => match o.guard, decide (d < N), qop P o.op E.ev L with
        | none, true, some y => E.get d = some y
        | _, _, _ => OpenOk P N all L H E [i]) ∧ opn r E
end
section
variable {P : Program} {N : Nat} {all : List Oper} {L : List Loc} {H : List Assn} {E : Env}
theorem opn_sound : ∀ (l : List Nat), opn P N all L H l E → OpenOk P N all L H E l := by
  intro l
  induction l with
  | nil => intro _; exact OpenOk.nil
  | cons i l ih =>
    intro h
    simp only [opn] at h
    obtain ⟨h1, h2⟩ := h
    split at h1
    · exact h1.elim
    · rename_i o ho
      split at h1
      · exact h1.elim
      · rename_i d hd
        split at h1
        · rename_i y hg hN hq
          exact OpenOk.cons o ho hd (by simpa using hN) hg h1 (QStep.of_qop hq) (ih h2)
        · intro j hj
          rcases List.mem_cons.1 hj with rfl | hj
          · exact h1 j (by simp)
          · exact ih h2 j hj
end

/-- One line of what makes or writes: each with the reads that come behind it, and those that may be unrun still. -/
abbrev Line := List (Nat × List Nat × List Nat)
def toPlan : Line → Plan
  | [] => .nil
  | (c, news, opens) :: r => .kid c news opens (toPlan r) .nil
section
variable (P : Program) (N : Nat) (k : List It) (all : List Oper) (Q : Post)
/-- The step c, by hand. -/
def LG (o : Oper) (E : Env) (L : List Loc) (H : List Assn) (J : AV → List Loc → List Assn → Prop) : Prop :=
  ∀ (J' : AV → List Loc → List Assn → Prop), (∀ y L H, J y L H → J' y L H) → ∀ R : Env, SEM P N [.ops [o] [o], .endl fun E2 L2 H2 => ∃ y, E2 = (cutE (visT o) E ++ R).put o.dst y ∧ J' y L2 H2] (cutE (visT o) E ++ R) L H (fun _ _ _ _ => False)
def lst (o : Oper) (E : Env) (L : List Loc) (H : List Assn) (J : AV → List Loc → List Assn → Prop) : Prop := match qop P o.op E.ev L with
  | some y => J y L H
  | none => match o.op with
    | .store t x v => match E.ev x, E.ev v with
      | some (.l i off), some y => match L[i]?, y.to L, o.dst with
        | some p, some val, none => match storeOk P t p.2 val.cells.toList off with
          | true => J (.v undef) (L.set i (p.1, splice p.2 off val.cells.toList)) H
          | false => LG P N o E L H J
        | _, _, _ => LG P N o E L H J
      | _, _ => LG P N o E L H J
    | .box t x => match E.ev x with
      | some y => match y.to L with
        | some val => ∀ b, J (.l L.length 0) (L ++ [(b, val.cells.toList)]) H
        | none => LG P N o E L H J
      | none => LG P N o E L H J
    | .alloc t => match tzero P t with
      | some cs => ∀ b, J (.l L.length 0) (L ++ [(b, cs)]) H
      | none => LG P N o E L H J
    | _ => LG P N o E L H J
/-- Behind reads: those that may be unrun still hold; what comes then. -/
def lkF (opens : List Nat) (K : Env → List Loc → List Assn → Prop) (L : List Loc) (H : List Assn) (E : Env) : Prop := opn P N all L H opens E ∧ K E L H
/-- Behind a step. -/
def lkJ (news opens : List Nat) (K : Env → List Loc → List Assn → Prop) (dst : Option Nat) (E : Env) (y : AV) (L : List Loc) (H : List Assn) : Prop :=
  nrn P N all L H (lkF P N all opens K L H) news (E.put dst y)
def lk (l : Line) (E : Env) (L : List Loc) (H : List Assn) : Prop := match l with
  | [] => SEM P N k E L H Q
  | (c, news, opens) :: r => match all[c]? with
    | none => False
    | some o => match o.guard, dstOk N o.dst with
      | none, true => lst P N o E L H (lkJ P N all news opens (lk r) o.dst E)
      | _, _ => False
def lk0 (l : Line) (L : List Loc) (H : List Assn) (E : Env) : Prop := lk P N k all Q l E L H
end
section
variable {P : Program} {N : Nat} {k : List It} {all : List Oper} {Q : Post} {E : Env} {L : List Loc} {H : List Assn}
theorem cut_ev {o : Oper} {R : Env} {x : Operand} {y : AV} (hx : x ∈ o.op.operands.toList) (h : E.ev x = some y) : Env.ev (cutE (visT o) E ++ R) x = some y := by
  cases x with
  | tmp t =>
    simp only [Env.ev] at h ⊢
    rw [get_append, cutE_get, if_pos (show t ∈ visT o from mem_opTmps hx), h]
  | _ => exact h
theorem qop_cut {o : Oper} {R : Env} {y : AV} (h : qop P o.op E.ev L = some y) : qop P o.op (Env.ev (cutE (visT o) E ++ R)) L = some y ∨ qop P o.op (cutE (visT o) E).ev L = some y := by
  right
  rw [← h]
  refine qop_congr fun x hx => ev_congr fun t ht => ?_
  subst ht
  rw [cutE_get, if_pos (show t ∈ visT o from mem_opTmps hx)]
theorem cut_append {o : Oper} {R : Env} (a : Act) (he : EOk N (cutE (visT o) E ++ R) L a) : EOk N (cutE (visT o) E) L a := he.sub fun t x hx => by
  rw [get_append, hx]
theorem lst_sound {o : Oper} {J : AV → List Loc → List Assn → Prop} (hg : o.guard = none) (hd : dstOk N o.dst = true) (h : lst P N o E L H J) : LG P N o E L H J := by
  unfold lst at h
  split at h
  · rename_i y hq
    intro J' hJ R
    refine SEM.op hg fun w0 S0 a w he hi => ?_
    have hq' := (qop_cut (R := R) hq)
    obtain ⟨v, hv, hr⟩ : ∃ v, y.to L = some v ∧ (execOp a.eval o).run P w = .ok (.value v) w := by
      rcases hq' with hq' | hq'
      · exact run_qop (ρ := a.eval) (fun x y hx => he.ev hx) (fun k p hk => Inv.block hi hk) hq'
      · exact run_qop (ρ := a.eval) (fun x y hx => (cut_append a he).ev hx) (fun k p hk => Inv.block hi hk) hq'
    simp only [Oper.wp, hr, Oper.upon]
    exact ⟨_, L, H, ⟨y, rfl, hJ _ _ _ h⟩, he.put hd hv, hi⟩
  · split at h
    · rename_i t x v ho
      split at h
      · rename_i i off y hx hv
        split at h
        · rename_i p val hp hy hdst
          split at h
          · rename_i hok
            intro J' hJ R
            refine SEM.store hg hdst ho (cut_ev (by simp [ho, Op.operands]) hx) (cut_ev (by simp [ho, Op.operands]) hv) hp hy hok ?_
            exact SEM.opsnil (SEM.endl ⟨.v undef, by rw [hdst]; rfl, hJ _ _ _ h⟩)
          · exact h
        · exact h
      · exact h
    · rename_i t x ho
      split at h
      · rename_i y hx
        split at h
        · rename_i val hy
          intro J' hJ R
          refine SEM.box hg hd ho (cut_ev (by simp [ho, Op.operands]) hx) hy fun b => ?_
          exact SEM.opsnil (SEM.endl ⟨_, rfl, hJ _ _ _ (h b)⟩)
        · exact h
      · exact h
    · rename_i t ho
      split at h
      · rename_i cs hz
        intro J' hJ R
        refine SEM.alloc hg hd ho hz fun b => ?_
        exact SEM.opsnil (SEM.endl ⟨_, rfl, hJ _ _ _ (h b)⟩)
      · exact h
    · exact h
theorem LG.intro {o : Oper} {J : AV → List Loc → List Assn → Prop} (h : ∀ (k' : List It) (R : Env), (∀ y L2 H2, J y L2 H2 → SEM P N (.ops [o] [] :: k') ((cutE (visT o) E ++ R).put o.dst y) L2 H2 (fun _ _ _ _ => False)) → SEM P N (.ops [o] [o] :: k') (cutE (visT o) E ++ R) L H (fun _ _ _ _ => False)) : LG P N o E L H J :=
  fun J' hJ R => h _ R fun y L2 H2 hj => SEM.opsnil (SEM.endl ⟨y, rfl, hJ _ _ _ hj⟩)
theorem LG.mono {o : Oper} {J J' : AV → List Loc → List Assn → Prop} (h : LG P N o E L H J) (hJ : ∀ y L H, J y L H → J' y L H) : LG P N o E L H J' :=
  fun J2 h2 => h J2 fun y L H hj => h2 y L H (hJ y L H hj)
theorem NR.mono {fin fin' : Env → Prop} (hf : ∀ E, fin E → fin' E) {l : List Nat} {E : Env} (h : NR P N all L H fin l E) : NR P N all L H fin' l E := by
  induction h with
  | nil h => exact .nil (hf _ h)
  | step h hd n ih => exact .step h hd ih
theorem nrn_mono {fin fin' : Env → Prop} (hf : ∀ E, fin E → fin' E) : ∀ {l : List Nat} {E : Env}, nrn P N all L H fin l E → nrn P N all L H fin' l E := by
  intro l
  induction l with
  | nil => intro E h; exact hf _ h
  | cons i l ih =>
    intro E h
    have key : ∀ o d, nst P N all L H fin i o d l E (fun y => nrn P N all L H fin l ((d, y) :: E)) → nst P N all L H fin' i o d l E (fun y => nrn P N all L H fin' l ((d, y) :: E)) := by
      intro o d h
      have hng : NG P N all L H fin i o d l E → NG P N all L H fin' i o d l E := fun ⟨y, h1, h2⟩ => ⟨y, h1, h2.mono hf⟩
      unfold nst at h ⊢
      split at h
      · exact ih h
      · split at h
        · split at h
          · exact ⟨h.1, ih h.2⟩
          · exact hng h
        · split at h
          · exact ⟨h.1, ih h.2⟩
          · exact hng h
        · exact hng h
    simp only [nrn] at h ⊢
    split at h
    · exact h.elim
    · split at h
      · exact h.elim
      · rename_i o ho x d hd
        split at h
        · exact h.elim
        · split at h
          · exact key o d h
          · split at h
            · split at h
              · exact ⟨fun e => key o d (h.1 e), fun e => ih (h.2 e)⟩
              · exact h.elim
            · exact h.elim
theorem lk_kids : ∀ (l : Line) (E : Env) (L : List Loc) (H : List Assn), lk P N k all Q l E L H → (toPlan l = .nil → SEM P N k E L H Q) ∧ Kids P N k all Q (toPlan l) E L H := by
  intro l
  induction l with
  | nil => intro E L H h; exact ⟨fun _ => h, trivial⟩
  | cons q r ih =>
    obtain ⟨c, news, opens⟩ := q
    intro E L H h
    refine ⟨fun e => (by cases e), ?_⟩
    simp only [lk] at h
    split at h
    · exact h.elim
    · rename_i o ho
      split at h
      · rename_i hg hd
        refine Kids.step o ho hg hd ?_ trivial
        refine lst_sound hg hd h _ fun y L2 H2 hj => nrn_sound _ _ (nrn_mono (fun E' hE => ?_) hj)
        have := ih E' L2 H2 hE.2
        exact ⟨opn_sound _ hE.1, this.1, this.2⟩
      · exact h.elim
theorem lk_nil (h : SEM P N k E L H Q) : lk P N k all Q [] E L H := by unfold lk; exact h
theorem lk_cons {c : Nat} {news opens : List Nat} {r : Line} {o : Oper} (ho : all[c]? = some o) (hg : o.guard = none) (hd : dstOk N o.dst = true)
    (h : lst P N o E L H (lkJ P N all news opens (fun E L H => lk P N k all Q r E L H) o.dst E)) : lk P N k all Q ((c, news, opens) :: r) E L H := by
  unfold lk
  simp only [ho, hg, hd]
  exact h
/-- A region that draws its order, its makers and writers in one line. -/
theorem SEM.drawL {id : Nat} {ops : Array Oper} (W news : List Nat) (l : Line) (hm : P.follows .mixedOrders = true) (hok : planOk ops.toList W news (toPlan l) = true)
    (h : nrn P N ops.toList L H (lk0 P N k ops.toList Q l L H) news E) : SEM P N (.code (.region id ops true) :: k) E L H Q :=
  SEM.drawG W news (toPlan l) hm hok (nrn_sound _ _ (nrn_mono (fun E' hE => lk_kids l E' L H hE) h))
end
section
variable (P : Program) (N : Nat) (k : List It) (all : List Oper) (Q : Post)
/-- .. in several lines: a plan that parts. -/
def tkK (sub : Plan) (K : Env → List Loc → List Assn → Prop) (E : Env) (L : List Loc) (H : List Assn) : Prop := (match sub with | .nil => SEM P N k E L H Q | _ => True) ∧ K E L H
def tk (p : Plan) (E : Env) (L : List Loc) (H : List Assn) : Prop := match p with
  | .nil => True
  | .kid c news opens sub rest => (match all[c]? with
    | none => False
    | some o => match o.guard, dstOk N o.dst with
      | none, true => lst P N o E L H (lkJ P N all news opens (tkK P N k Q sub (tk sub)) o.dst E)
      | _, _ => False) ∧ tk rest E L H
def tk0 (p : Plan) (L : List Loc) (H : List Assn) (E : Env) : Prop := tk P N k all Q p E L H
end
section
variable {P : Program} {N : Nat} {k : List It} {all : List Oper} {Q : Post} {E : Env} {L : List Loc} {H : List Assn}
theorem tk_kids : ∀ (p : Plan) (E : Env) (L : List Loc) (H : List Assn), tk P N k all Q p E L H → Kids P N k all Q p E L H := by
  intro p
  induction p with
  | nil => intro E L H _; exact trivial
  | kid c news opens sub rest ihs ihr =>
    intro E L H h
    simp only [tk] at h
    obtain ⟨h, hr⟩ := h
    split at h
    · exact h.elim
    · rename_i o ho
      split at h
      · rename_i hg hd
        refine Kids.step o ho hg hd ?_ (ihr _ _ _ hr)
        refine lst_sound hg hd h _ fun y L2 H2 hj => nrn_sound _ _ (nrn_mono (fun E' hE => ?_) hj)
        refine ⟨opn_sound _ hE.1, fun e => ?_, ihs _ _ _ hE.2.2⟩
        have := hE.2.1
        rw [e] at this
        exact this
      · exact h.elim
theorem tk_nil : tk P N k all Q .nil E L H := by unfold tk; trivial
theorem tk_cons {c : Nat} {news opens : List Nat} {sub rest : Plan} {o : Oper} (ho : all[c]? = some o) (hg : o.guard = none) (hd : dstOk N o.dst = true)
    (h : lst P N o E L H (lkJ P N all news opens (tkK P N k Q sub (fun E L H => tk P N k all Q sub E L H)) o.dst E)) (hr : tk P N k all Q rest E L H) : tk P N k all Q (.kid c news opens sub rest) E L H := by
  unfold tk
  simp only [ho, hg, hd]
  exact ⟨h, hr⟩
theorem SEM.drawT {id : Nat} {ops : Array Oper} (W news : List Nat) (p : Plan) (hm : P.follows .mixedOrders = true) (hok : planOk ops.toList W news p = true) (hp : p ≠ .nil)
    (h : nrn P N ops.toList L H (tk0 P N k ops.toList Q p L H) news E) : SEM P N (.code (.region id ops true) :: k) E L H Q :=
  SEM.drawG W news p hm hok (nrn_sound _ _ (nrn_mono (fun E' hE => ⟨fun e => absurd e hp, tk_kids p E' L H hE⟩) h))
end
attribute [go_sem] opn lkF lkJ lk0 lst tkK tk0
end Go.Sep
