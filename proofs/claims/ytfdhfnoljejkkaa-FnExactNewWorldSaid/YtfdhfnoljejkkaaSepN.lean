/-
  The run through a region that draws its order and only reads.
  Plain definitions and theorems; nothing of a program in it.
-/
import Derived.Test.YtfdhfnoljejkkaaSepM
set_option linter.unusedVariables false
set_option linter.unusedSimpArgs false
namespace Go.Sep
open Go Go.RowKit

section
variable (P : Program) (N : Nat) (n : Nat) (k : List It) (all : List Oper) (L : List Loc) (H : List Assn) (Q : Post)
/-- What is still to come of such a region, and behind it. -/
def QR (l : List Oper) (E : Env) : Prop := ∃ ys E', QChain P N all L H l E ys E' ∧ SEM P N k E' L H Q
/-- .. where an operation stands that is to be shown by hand. -/
def QG (o : Oper) (l : List Oper) (E : Env) : Prop := ∃ y, QStep P N o E L H y ∧ QR P N k all L H Q l (E.put o.dst y)
def qst (o : Oper) (l : List Oper) (E : Env) (K : AV → Prop) : Prop := match qop P o.op E.ev L with
  | some y => K y
  | none => match o.op with
    | .index t x i => match E.ev x, E.ev i, tstr P t with
      | some (.v (.string s)), some (.v (.int _ j)), true => (0 ≤ j ∧ j < s.size) ∧ K (.v (.int .u8 (bt s j)))
      | _, _, _ => QG P N k all L H Q o l E
    | .indexAddr t x i => match E.ev x, E.ev i, (tsl P t).bind (tsz P) with
      | some (.v (.slice (some ad) m _)), some (.v (.int _ j)), some sz => (0 ≤ j ∧ j < m) ∧ K (.v (.pointer (some (pl ad (j.toNat * sz)))))
      | _, _, _ => QG P N k all L H Q o l E
    | _ => QG P N k all L H Q o l E
def qrn : List Oper → Env → Prop
  | [], E => wpk P N n k E L H Q
  | o :: l, E => match dstOk N o.dst with
    | false => False
    | true => match o.guard with
      | none => qst P N k all L H Q o l E fun y => qrn l (E.put o.dst y)
      | some (j, want) => match (all[j]?).bind (·.dst) with
        | some d => match E.get d with
          | some (.v (.bool t)) => (t = want → qst P N k all L H Q o l E fun y => qrn l (E.put o.dst y)) ∧ (t = (!want) → qrn l (E.put o.dst (.v undef)))
          | _ => False
        | none => False
end
section
variable {P : Program} {N : Nat} {n : Nat} {k : List It} {all : List Oper} {L : List Loc} {H : List Assn} {Q : Post} {E : Env}
theorem qst_sound {o : Oper} {l : List Oper} {K : AV → Prop} (h : qst P N k all L H Q o l E K) (hK : ∀ y, K y → QR P N k all L H Q l (E.put o.dst y)) : QG P N k all L H Q o l E := by
  unfold qst at h
  split at h
  · rename_i y hq
    exact ⟨y, QStep.of_qop hq, hK _ h⟩
  · split at h
    · rename_i t x i ho
      split at h
      · rename_i s kk j hx hi ht
        exact ⟨_, QStep.indexStr h.1.1 h.1.2 ho hx hi ht, hK _ h.2⟩
      · exact h
    · rename_i t x i ho
      split at h
      · rename_i ad m c kk j sz hx hi hz
        obtain ⟨e, ht, hz⟩ := Option.bind_eq_some_iff.1 hz
        exact ⟨_, QStep.indexAddr h.1.1 h.1.2 rfl ho hx hi ht hz, hK _ h.2⟩
      · exact h
    · exact h
theorem qrn_sound : ∀ (l : List Oper) (E : Env), qrn P N n k all L H Q l E → QR P N k all L H Q l E := by
  intro l
  induction l with
  | nil => intro E h; exact ⟨[], E, .nil E, wpk_sound n h⟩
  | cons o l ih =>
    intro E h
    simp only [qrn] at h
    cases hd : dstOk N o.dst with
    | false => simp only [hd] at h
    | true =>
      simp only [hd] at h
      cases hg : o.guard with
      | none =>
        simp only [hg] at h
        obtain ⟨y, hs, ys, E', hc, hK⟩ := qst_sound h fun y h => ih _ h
        exact ⟨_, E', .step hd hg hs hc, hK⟩
      | some g =>
        obtain ⟨j, want⟩ := g
        simp only [hg] at h
        cases hj : (all[j]?).bind (·.dst) with
        | none => simp only [hj] at h
        | some d =>
          simp only [hj] at h
          split at h
          · rename_i t ht
            by_cases e : t = want
            · subst e
              obtain ⟨y, hs, ys, E', hc, hK⟩ := qst_sound (h.1 rfl) fun y h => ih _ h
              exact ⟨_, E', .yes hd hg hj ht hs hc, hK⟩
            · have e' : t = !want := by cases t <;> cases want <;> simp_all
              subst e'
              obtain ⟨ys, E', hc, hK⟩ := ih _ (h.2 rfl)
              exact ⟨_, E', .no hd hg hj ht hc, hK⟩
          · exact h.elim
theorem SEM.drawW {id : Nat} {ops : Array Oper} (n : Nat) (hm : P.follows .mixedOrders = true) (hok : regOk ops.toList = true) (h : qrn P N n k ops.toList L H Q ops.toList E) : SEM P N (.code (.region id ops true) :: k) E L H Q :=
  SEM.drawC (qrn_sound _ _ h) hm hok
theorem QG.load (n : Nat) {o : Oper} {l : List Oper} {t : TypeId} {x : Operand} {ad : Addr} {cs : List Value} {v : Value} (hs : Says (stA L H) fun w => CellsAt w ad cs) (hv : loadC P t cs 0 = some v)
    (h : qrn P N n k all L H Q l (E.put o.dst (.v v))) (ho : o.op = .load t x) (hx : E.ev x = some (.v (.pointer (some ad)))) : QG P N k all L H Q o l E := ⟨_, QStep.load cs hs hv ho hx, qrn_sound _ _ h⟩
theorem QG.callR (n : Nat) {o : Oper} {l : List Oper} {c : Call} {x : Operand} {f : FuncId} {fi ca : Array Value} {vs args : List Value} {r : Value} (h : ∀ w, Sat (stA L H) w → RFn P f args w r) (hK : qrn P N n k all L H Q l (E.put o.dst (.v r)))
    (ho : o.op = .call c) (hc : c.callee = .value x) (hx : E.ev x = some (.v (.func (.func f) fi ca))) (hv : vals E.ev L c.args.toList = some vs) (hargs : fi.toList ++ vs ++ ca.toList = args) (hf : callable P f = true) : QG P N k all L H Q o l E :=
  ⟨_, QStep.callR h ho hc hx hv hargs hf, qrn_sound _ _ hK⟩
theorem QG.callP (n : Nat) {o : Oper} {l : List Oper} {c : Call} {x : Operand} {f : FuncId} {fi ca : Array Value} {vs args : List Value} {r : Value} (h : PFn P f args r) (hK : qrn P N n k all L H Q l (E.put o.dst (.v r)))
    (ho : o.op = .call c) (hc : c.callee = .value x) (hx : E.ev x = some (.v (.func (.func f) fi ca))) (hv : vals E.ev L c.args.toList = some vs) (hargs : fi.toList ++ vs ++ ca.toList = args) (hf : callable P f = true) : QG P N k all L H Q o l E :=
  ⟨_, QStep.callP h ho hc hx hv hargs hf, qrn_sound _ _ hK⟩
end

/-- What the world of the entry says of cells. -/
theorem amb_cells {L : List Loc} {H : List Assn} {w : World} {ad : Addr} {cs : List Value} (i : Nat) (hi : H[i]? = some (amb w)) (h : CellsAt w ad cs) : Says (stA L H) fun w => CellsAt w ad cs :=
  (H_says hi (amb_still w)).imp fun _ s => h.still s
attribute [go_sem] qrn qst Int.toNat_natCast
end Go.Sep
