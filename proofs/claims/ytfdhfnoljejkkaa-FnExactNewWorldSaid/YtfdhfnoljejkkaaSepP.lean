/-
  The run through a plan: reads in the text's order as a function; calls, loads by hand.
  Plain definitions and theorems; nothing of a program in it.
-/
import Derived.Test.YtfdhfnoljejkkaaSepO
set_option linter.unusedVariables false
set_option linter.unusedSimpArgs false
namespace Go.Sep
open Go Go.RowKit

section
variable (P : Program) (N : Nat) (all : List Oper) (L : List Loc) (H : List Assn) (fin : Env → Prop)
/-- What stands there to be shown by hand. -/
def NG (i : Nat) (o : Oper) (d : Nat) (r : List Nat) (E : Env) : Prop := ∃ y, QStep P N o E L H y ∧ NR P N all L H fin r ((d, y) :: E)
def nst (i : Nat) (o : Oper) (d : Nat) (r : List Nat) (E : Env) (K : AV → Prop) : Prop := match qop P o.op E.ev L with
  | some y => K y
  | none => match o.op with
    | .index t x j => match E.ev x, E.ev j, tstr P t with
      | some (.v (.string s)), some (.v (.int _ j)), true => (0 ≤ j ∧ j < s.size) ∧ K (.v (.int .u8 (bt s j)))
      | _, _, _ => NG P N all L H fin i o d r E
    | .indexAddr t x j => match E.ev x, E.ev j, (tsl P t).bind (tsz P) with
      | some (.v (.slice (some ad) m _)), some (.v (.int _ j)), some sz => (0 ≤ j ∧ j < m) ∧ K (.v (.pointer (some (pl ad (j.toNat * sz)))))
      | _, _, _ => NG P N all L H fin i o d r E
    | _ => NG P N all L H fin i o d r E
def nrn : List Nat → Env → Prop
  | [], E => fin E
  | i :: r, E => match all[i]? with
    | none => False
    | some o => match o.dst with
      | none => False
      | some d => match decide (d < N) with
        | false => False
        | true => match o.guard with
          | none => nst P N all L H fin i o d r E fun y => nrn r ((d, y) :: E)
          | some (j, want) => match dstAt all j with
            | some dj => match E.get dj with
              | some (.v (.bool t)) => (t = want → nst P N all L H fin i o d r E fun y => nrn r ((d, y) :: E)) ∧ (t = (!want) → nrn r ((d, .v undef) :: E))
              | _ => False
            | none => False
end
section
variable {P : Program} {N : Nat} {all : List Oper} {L : List Loc} {H : List Assn} {fin : Env → Prop} {E : Env}
theorem nst_sound {i : Nat} {o : Oper} {d : Nat} {r : List Nat} {K : AV → Prop} (h : nst P N all L H fin i o d r E K) (hK : ∀ y, K y → NR P N all L H fin r ((d, y) :: E)) : NG P N all L H fin i o d r E := by
  unfold nst at h
  split at h
  · rename_i y hq
    exact ⟨y, QStep.of_qop hq, hK _ h⟩
  · split at h
    · rename_i t x j ho
      split at h
      · rename_i s kk j hx hi ht
        exact ⟨_, QStep.indexStr h.1.1 h.1.2 ho hx hi ht, hK _ h.2⟩
      · exact h
    · rename_i t x j ho
      split at h
      · rename_i ad m c kk j sz hx hi hz
        obtain ⟨e, ht, hz⟩ := Option.bind_eq_some_iff.1 hz
        exact ⟨_, QStep.indexAddr h.1.1 h.1.2 rfl ho hx hi ht hz, hK _ h.2⟩
      · exact h
    · exact h
theorem nrn_sound : ∀ (l : List Nat) (E : Env), nrn P N all L H fin l E → NR P N all L H fin l E := by
  intro l
  induction l with
  | nil => intro E h; exact .nil h
  | cons i l ih =>
    intro E h
    simp only [nrn] at h
    split at h
    · exact h.elim
    · rename_i o ho
      split at h
      · exact h.elim
      · rename_i d hd
        have hda : dstAt all i = some d := by simp [dstAt, ho, hd]
        split at h
        · exact h.elim
        · rename_i hN
          have hdN : dstOk N o.dst = true := by rw [hd]; simpa [dstOk] using hN
          split at h
          · rename_i hg
            obtain ⟨y, hs, hr⟩ := nst_sound h fun y h => ih _ h
            exact .step ⟨o, ho, hdN, by rw [hd]; rfl, .inl ⟨hg, hs⟩⟩ hda hr
          · rename_i j want hg
            split at h
            · rename_i dj hj
              split at h
              · rename_i t ht
                by_cases e : t = want
                · subst e
                  obtain ⟨y, hs, hr⟩ := nst_sound (h.1 rfl) fun y h => ih _ h
                  exact .step ⟨o, ho, hdN, by rw [hd]; rfl, .inr ⟨j, t, dj, hg, hj, .inl ⟨ht, hs⟩⟩⟩ hda hr
                · have e' : t = !want := by cases t <;> cases want <;> simp_all
                  subst e'
                  exact .step ⟨o, ho, hdN, by rw [hd]; rfl, .inr ⟨j, want, dj, hg, hj, .inr ⟨ht, rfl⟩⟩⟩ hda (ih _ (h.2 rfl))
              · exact h.elim
            · exact h.elim
/-- What may run next: one by one. -/
theorem Kids.step {k : List It} {Q : Post} {c : Nat} {news opens : List Nat} {sub rest : Plan} (o : Oper) (ho : all[c]? = some o) (hg : o.guard = none) (hd : dstOk N o.dst = true)
    (h : ∀ R : Env, SEM P N [.ops [o] [o], .endl fun E2 L2 H2 => ∃ y, E2 = (cutE (visT o) E ++ R).put o.dst y ∧
      NR P N all L2 H2 (fun E' => OpenOk P N all L2 H2 E' opens ∧ (sub = .nil → SEM P N k E' L2 H2 Q) ∧ Kids P N k all Q sub E' L2 H2) news (E.put o.dst y)] (cutE (visT o) E ++ R) L H (fun _ _ _ _ => False))
    (hr : Kids P N k all Q rest E L H) : Kids P N k all Q (.kid c news opens sub rest) E L H := ⟨⟨o, ho, hg, hd, h⟩, hr⟩
theorem SEM.endJ {Q : Post} {o : Oper} {J : Env → List Loc → List Assn → Prop} {k : List It} {E2 : Env} {L2 : List Loc} {H2 : List Assn} (h : J E2 L2 H2) : SEM P N (.ops [o] [] :: .endl J :: k) E2 L2 H2 Q := SEM.opsnil (SEM.endl h)
theorem OpenOk.nil : OpenOk P N all L H E [] := fun i hi => by cases hi
theorem OpenOk.cons {i d : Nat} {l : List Nat} {y : AV} (o : Oper) (ho : all[i]? = some o) (hd : o.dst = some d) (hN : d < N) (hg : o.guard = none) (hE : E.get d = some y) (h : QStep P N o E L H y) (hl : OpenOk P N all L H E l) : OpenOk P N all L H E (i :: l) := by
  intro j hj
  rcases List.mem_cons.1 hj with rfl | hj
  · exact ⟨d, y, by simp [dstAt, ho, hd], hE, o, ho, by rw [hd]; simpa [dstOk] using hN, by rw [hd]; rfl, .inl ⟨hg, h⟩⟩
  · exact hl j hj
end
attribute [go_sem] nrn nst dstAt visT opTmps cutE Op.operands
end Go.Sep
