/-
  The structs' cells by the values of their slices; what owns a struct, opened and shut; how it is read. Printed by my program opn.py.
-/
import Derived.Test.YtfdhfnoljejkkaaSepP
set_option linter.unusedVariables false
set_option linter.unusedSimpArgs false
namespace Go.Sep
open Go Go.RowKit
theorem EntH.one {A B : Assn} (h : Ent (stars [A]) B) : Ent A B := (Ent.empr _).trans h
theorem EntH.openEx {H : List Assn} {B : Assn} {α : Type} {A : α → Assn} (h : ∀ x, Ent (stars (A x :: H)) B) : Ent (stars (ex A :: H)) B := by
  rintro w S ⟨S1, S2, ⟨x, h1⟩, h2, hd, hs⟩
  exact h x w S ⟨S1, S2, h1, h2, hd, hs⟩
theorem EntH.openFact {H : List Assn} {B : Assn} {p : Prop} (h : p → Ent (stars H) B) : Ent (stars (fact p :: H)) B := by
  rintro w S ⟨S1, S2, ⟨h1, h0⟩, h2, hd, hs⟩
  exact (Ent.right (fact p) (stars H)).trans (h h1) w S ⟨S1, S2, ⟨h1, h0⟩, h2, hd, hs⟩
theorem EntH.openStar {H : List Assn} {A A' B : Assn} (h : Ent (stars (A :: A' :: H)) B) : Ent (stars (Sep.star A A' :: H)) B := (Ent.assoc _ _ _).trans h
theorem EntH.swap {H : List Assn} {A A' B : Assn} (h : Ent (stars (A' :: A :: H)) B) : Ent (stars (A :: A' :: H)) B :=
  ((Ent.assoc' _ _ _).trans ((Ent.star (Ent.comm _ _) (Ent.refl _)).trans (Ent.assoc _ _ _))).trans h
theorem EntH.pull {H : List Assn} {B : Assn} (i : Nat) {A : Assn} (hH : H[i]? = some A) (h : Ent (stars (A :: H.eraseIdx i)) B) : Ent (stars H) B := (stars_pick H i A hH).trans h
theorem stars_app (L M : List Assn) : Ent (stars (L ++ M)) (star (stars L) (stars M)) := stars_append L M
theorem SEM.split {P : Program} {N : Nat} {k : List It} {E : Env} {L : List Loc} {H : List Assn} {Q : Post} {A : List Assn} (h : SEM P N k E L (A ++ H) Q) : SEM P N k E L (stars A :: H) Q :=
  SEM.ent h (stars_append' A H)
theorem SEM.ownShapeAt {P : Program} {N : Nat} {k : List It} {E : Env} {L : List Loc} {H : List Assn} {Q : Post} {α : Type} {kd : K α} {v : Value} {xs : List α} (i : Nat) (hi : H[i]? = some (OwnS kd v xs)) (h : ∀ A c, v = .slice A xs.length c → xs.length ≤ c → xs.length ≤ 140737488355328 → (0 < xs.length → ∃ ad, A = some ad) → SEM P N k E L H Q) : SEM P N k E L H Q :=
  SEM.use (H_says (i := i) hi OwnS.shape) fun ⟨A, c, h1, h2, h3⟩ => h A c h1 h2.1 h2.2 h3
/-- A struct that is handed back, owned. -/
def ownR {α : Type} (k : K α) (x : α) (r : Value) : Assn := ex fun cs => star (fact (r = .agg cs.toArray)) (k.own x cs)

def celGrid (x : SGrid) (v0 : Value) : List Value := [.int .i64 x.cols, v0]
theorem ownGrid_open {x : SGrid} {cs : List Value} : Ent (kGrid.own x cs) (ex fun v0 => star (fact (cs = celGrid x v0)) (stars [OwnS (kS kCell) v0 x.rows])) := by
  refine EntH.one ?_
  refine EntH.openEx fun c1 => EntH.openEx fun c2 => EntH.openStar (EntH.openFact fun e0 => EntH.openStar ?_)
  subst e0
  refine EntH.openFact fun e0 => ?_
  subst e0
  refine EntH.openEx fun c1 => EntH.openEx fun c2 => EntH.openStar (EntH.openFact fun e0 => EntH.openStar ?_)
  subst e0
  refine EntH.openEx fun q0 => EntH.openStar (EntH.openFact fun e0 => ?_)
  subst e0
  refine EntH.swap ?_
  refine EntH.openFact fun e0 => ?_
  subst e0
  refine Ent.oex q0 (Ent.ofact rfl ?_)
  refine Ent.pick 0 rfl (Ent.refl _) ?_
  simp only [List.eraseIdx_cons_zero, List.eraseIdx_cons_succ]
  exact Ent.to_emp _
theorem ownGrid_shut {x : SGrid} {v0 : Value} : Ent (stars [OwnS (kS kCell) v0 x.rows]) (kGrid.own x (celGrid x v0)) := by
  unfold celGrid
  refine ownF_step 1 ?_
  simp only [List.take_succ_cons, List.take_zero, List.drop_succ_cons, List.drop_zero]
  refine Ent.ofact rfl ?_
  refine ownF_step 1 ?_
  simp only [List.take_succ_cons, List.take_zero, List.drop_succ_cons, List.drop_zero]
  refine Ent.pick 0 rfl (kS_own _ _ _) ?_
  simp only [List.eraseIdx_cons_zero, List.eraseIdx_cons_succ]
  exact ent_fact rfl
theorem SEM.openGrid_ {P : Program} {N : Nat} {k : List It} {E : Env} {L : List Loc} {H : List Assn} {Q : Post} {x : SGrid} {cs : List Value} (h : ∀ v0, cs = celGrid x v0 → SEM P N k E L (OwnS (kS kCell) v0 x.rows :: H) Q) : SEM P N k E L (kGrid.own x cs :: H) Q :=
  SEM.open1 (SEM.openEx fun v0 => SEM.openStar (SEM.openFact fun e => SEM.split (h v0 e))) ownGrid_open
theorem SEM.openGrid {P : Program} {N : Nat} {k : List It} {E : Env} {L : List Loc} {H : List Assn} {Q : Post} {x : SGrid} {cs : List Value} (h : ∀ A0 c0, cs = celGrid x (.slice A0 x.rows.length c0) → SEM P N k E L (OwnS (kS kCell) (.slice A0 x.rows.length c0) x.rows :: H) Q) : SEM P N k E L (kGrid.own x cs :: H) Q := by
  refine SEM.openGrid_ fun v0 e => ?_
  refine SEM.ownShapeAt 0 rfl fun A0 c0 e0 _ _ _ => ?_
  subst e0
  exact h A0 c0 e
theorem SEM.openRGrid {P : Program} {N : Nat} {k : List It} {E : Env} {L : List Loc} {H : List Assn} {Q : Post} {x : SGrid} {r : Value} (h : ∀ A0 c0, r = .agg (celGrid x (.slice A0 x.rows.length c0)).toArray → SEM P N k E L (OwnS (kS kCell) (.slice A0 x.rows.length c0) x.rows :: H) Q) : SEM P N k E L (ownR kGrid x r :: H) Q :=
  SEM.openEx fun cs => SEM.openStar (SEM.openFact fun e => SEM.openGrid fun A0 c0 e1 => h A0 c0 (by rw [e, e1]))
theorem rdGrid_open {w : World} {x : SGrid} {cs : List Value} (p : kGrid.rd w x cs) : ∃ A0 c0, cs = celGrid x (.slice A0 x.rows.length c0) ∧ RdS (kS kCell) w (.slice A0 x.rows.length c0) x.rows := by
  obtain ⟨_, _, rfl, rfl, _, _, rfl, ⟨_, rfl, prows⟩, rfl⟩ := p
  have h0 := prows
  obtain ⟨A0, c0, rfl, -⟩ := h0
  exact ⟨_, _, rfl, prows⟩
theorem rdGrid_shut {w : World} {x : SGrid} {v0 : Value} (p0 : RdS (kS kCell) w v0 x.rows) : kGrid.rd w x (celGrid x v0) := by
  exact ⟨[.int .i64 x.cols], _, rfl, rfl, ⟨[v0], _, rfl, ⟨_, rfl, p0⟩, rfl⟩⟩
def celParser (x : SParser) (v0 v1 : Value) : List Value := [.int .i64 x.state, v0, .int .i64 x.mark_, v1]
theorem ownParser_open {x : SParser} {cs : List Value} : Ent (kParser.own x cs) (ex fun v0 => ex fun v1 => star (fact (cs = celParser x v0 v1)) (stars [OwnS kI v0 x.params, OwnS kI v1 x.text_])) := by
  refine EntH.one ?_
  refine EntH.openEx fun c1 => EntH.openEx fun c2 => EntH.openStar (EntH.openFact fun e0 => EntH.openStar ?_)
  subst e0
  refine EntH.openFact fun e0 => ?_
  subst e0
  refine EntH.openEx fun c1 => EntH.openEx fun c2 => EntH.openStar (EntH.openFact fun e0 => EntH.openStar ?_)
  subst e0
  refine EntH.openEx fun q0 => EntH.openStar (EntH.openFact fun e0 => ?_)
  subst e0
  refine EntH.swap ?_
  refine EntH.openEx fun c1 => EntH.openEx fun c2 => EntH.openStar (EntH.openFact fun e0 => EntH.openStar ?_)
  subst e0
  refine EntH.openFact fun e0 => ?_
  subst e0
  refine EntH.openEx fun c1 => EntH.openEx fun c2 => EntH.openStar (EntH.openFact fun e0 => EntH.openStar ?_)
  subst e0
  refine EntH.openEx fun q1 => EntH.openStar (EntH.openFact fun e0 => ?_)
  subst e0
  refine EntH.swap ?_
  refine EntH.openFact fun e0 => ?_
  subst e0
  refine Ent.oex q0 (Ent.oex q1 (Ent.ofact rfl ?_))
  refine Ent.pick 1 rfl (Ent.refl _) ?_
  simp only [List.eraseIdx_cons_zero, List.eraseIdx_cons_succ]
  refine Ent.pick 0 rfl (Ent.refl _) ?_
  simp only [List.eraseIdx_cons_zero, List.eraseIdx_cons_succ]
  exact Ent.to_emp _
theorem ownParser_shut {x : SParser} {v0 v1 : Value} : Ent (stars [OwnS kI v0 x.params, OwnS kI v1 x.text_]) (kParser.own x (celParser x v0 v1)) := by
  unfold celParser
  refine ownF_step 1 ?_
  simp only [List.take_succ_cons, List.take_zero, List.drop_succ_cons, List.drop_zero]
  refine Ent.ofact rfl ?_
  refine ownF_step 1 ?_
  simp only [List.take_succ_cons, List.take_zero, List.drop_succ_cons, List.drop_zero]
  refine Ent.pick 0 rfl (kS_own _ _ _) ?_
  simp only [List.eraseIdx_cons_zero, List.eraseIdx_cons_succ]
  refine ownF_step 1 ?_
  simp only [List.take_succ_cons, List.take_zero, List.drop_succ_cons, List.drop_zero]
  refine Ent.ofact rfl ?_
  refine ownF_step 1 ?_
  simp only [List.take_succ_cons, List.take_zero, List.drop_succ_cons, List.drop_zero]
  refine Ent.pick 0 rfl (kS_own _ _ _) ?_
  simp only [List.eraseIdx_cons_zero, List.eraseIdx_cons_succ]
  exact ent_fact rfl
theorem SEM.openParser_ {P : Program} {N : Nat} {k : List It} {E : Env} {L : List Loc} {H : List Assn} {Q : Post} {x : SParser} {cs : List Value} (h : ∀ v0 v1, cs = celParser x v0 v1 → SEM P N k E L (OwnS kI v0 x.params :: OwnS kI v1 x.text_ :: H) Q) : SEM P N k E L (kParser.own x cs :: H) Q :=
  SEM.open1 (SEM.openEx fun v0 => SEM.openEx fun v1 => SEM.openStar (SEM.openFact fun e => SEM.split (h v0 v1 e))) ownParser_open
theorem SEM.openParser {P : Program} {N : Nat} {k : List It} {E : Env} {L : List Loc} {H : List Assn} {Q : Post} {x : SParser} {cs : List Value} (h : ∀ A0 c0 A1 c1, cs = celParser x (.slice A0 x.params.length c0) (.slice A1 x.text_.length c1) → SEM P N k E L (OwnS kI (.slice A0 x.params.length c0) x.params :: OwnS kI (.slice A1 x.text_.length c1) x.text_ :: H) Q) : SEM P N k E L (kParser.own x cs :: H) Q := by
  refine SEM.openParser_ fun v0 v1 e => ?_
  refine SEM.ownShapeAt 0 rfl fun A0 c0 e0 _ _ _ => ?_
  subst e0
  refine SEM.ownShapeAt 1 rfl fun A1 c1 e1 _ _ _ => ?_
  subst e1
  exact h A0 c0 A1 c1 e
theorem SEM.openRParser {P : Program} {N : Nat} {k : List It} {E : Env} {L : List Loc} {H : List Assn} {Q : Post} {x : SParser} {r : Value} (h : ∀ A0 c0 A1 c1, r = .agg (celParser x (.slice A0 x.params.length c0) (.slice A1 x.text_.length c1)).toArray → SEM P N k E L (OwnS kI (.slice A0 x.params.length c0) x.params :: OwnS kI (.slice A1 x.text_.length c1) x.text_ :: H) Q) : SEM P N k E L (ownR kParser x r :: H) Q :=
  SEM.openEx fun cs => SEM.openStar (SEM.openFact fun e => SEM.openParser fun A0 c0 A1 c1 e1 => h A0 c0 A1 c1 (by rw [e, e1]))
theorem rdParser_open {w : World} {x : SParser} {cs : List Value} (p : kParser.rd w x cs) : ∃ A0 c0 A1 c1, cs = celParser x (.slice A0 x.params.length c0) (.slice A1 x.text_.length c1) ∧ RdS kI w (.slice A0 x.params.length c0) x.params ∧ RdS kI w (.slice A1 x.text_.length c1) x.text_ := by
  obtain ⟨_, _, rfl, rfl, _, _, rfl, ⟨_, rfl, pparams⟩, _, _, rfl, rfl, _, _, rfl, ⟨_, rfl, ptext_⟩, rfl⟩ := p
  have h0 := pparams
  obtain ⟨A0, c0, rfl, -⟩ := h0
  have h1 := ptext_
  obtain ⟨A1, c1, rfl, -⟩ := h1
  exact ⟨_, _, _, _, rfl, pparams, ptext_⟩
theorem rdParser_shut {w : World} {x : SParser} {v0 v1 : Value} (p0 : RdS kI w v0 x.params) (p1 : RdS kI w v1 x.text_) : kParser.rd w x (celParser x v0 v1) := by
  exact ⟨[.int .i64 x.state], _, rfl, rfl, ⟨[v0], _, rfl, ⟨_, rfl, p0⟩, ⟨[.int .i64 x.mark_], _, rfl, rfl, ⟨[v1], _, rfl, ⟨_, rfl, p1⟩, rfl⟩⟩⟩⟩
def celTerm (x : STerm) (v0 v1 v2 v3 v4 : Value) : List Value := [.int .i64 x.grid.cols, v0, .int .i64 x.other.cols, v1, .int .i64 x.row, .int .i64 x.col, .int .i64 x.style.fore, .int .i64 x.style.back, .bool x.style.bold, .bool x.style.under, .bool x.style.turned, .int .i64 x.top, .int .i64 x.bottom, .bool x.full, .bool x.wrap, .bool x.away, .bool x.hidden, .int .i64 x.savedRow, .int .i64 x.savedCol, .int .i64 x.savedStyle.fore, .int .i64 x.savedStyle.back, .bool x.savedStyle.bold, .bool x.savedStyle.under, .bool x.savedStyle.turned, v2, .int .i64 x.parser.state, v3, .int .i64 x.parser.mark_, v4, .string x.feeder.held]
theorem ownTerm_open {x : STerm} {cs : List Value} : Ent (kTerm.own x cs) (ex fun v0 => ex fun v1 => ex fun v2 => ex fun v3 => ex fun v4 => star (fact (cs = celTerm x v0 v1 v2 v3 v4)) (stars [OwnS (kS kCell) v0 x.grid.rows, OwnS (kS kCell) v1 x.other.rows, OwnS kI v2 x.title, OwnS kI v3 x.parser.params, OwnS kI v4 x.parser.text_])) := by
  refine EntH.one ?_
  refine EntH.openEx fun c1 => EntH.openEx fun c2 => EntH.openStar (EntH.openFact fun e0 => EntH.openStar ?_)
  subst e0
  refine EntH.openEx fun c1 => EntH.openEx fun c2 => EntH.openStar (EntH.openFact fun e0 => EntH.openStar ?_)
  subst e0
  refine EntH.openFact fun e0 => ?_
  subst e0
  refine EntH.openEx fun c1 => EntH.openEx fun c2 => EntH.openStar (EntH.openFact fun e0 => EntH.openStar ?_)
  subst e0
  refine EntH.openEx fun q0 => EntH.openStar (EntH.openFact fun e0 => ?_)
  subst e0
  refine EntH.swap ?_
  refine EntH.openFact fun e0 => ?_
  subst e0
  refine EntH.pull 1 rfl ?_
  simp only [List.eraseIdx_cons_zero, List.eraseIdx_cons_succ]
  refine EntH.openEx fun c1 => EntH.openEx fun c2 => EntH.openStar (EntH.openFact fun e0 => EntH.openStar ?_)
  subst e0
  refine EntH.openEx fun c1 => EntH.openEx fun c2 => EntH.openStar (EntH.openFact fun e0 => EntH.openStar ?_)
  subst e0
  refine EntH.openFact fun e0 => ?_
  subst e0
  refine EntH.openEx fun c1 => EntH.openEx fun c2 => EntH.openStar (EntH.openFact fun e0 => EntH.openStar ?_)
  subst e0
  refine EntH.openEx fun q1 => EntH.openStar (EntH.openFact fun e0 => ?_)
  subst e0
  refine EntH.swap ?_
  refine EntH.openFact fun e0 => ?_
  subst e0
  refine EntH.pull 1 rfl ?_
  simp only [List.eraseIdx_cons_zero, List.eraseIdx_cons_succ]
  refine EntH.openEx fun c1 => EntH.openEx fun c2 => EntH.openStar (EntH.openFact fun e0 => EntH.openStar ?_)
  subst e0
  refine EntH.openFact fun e0 => ?_
  subst e0
  refine EntH.openEx fun c1 => EntH.openEx fun c2 => EntH.openStar (EntH.openFact fun e0 => EntH.openStar ?_)
  subst e0
  refine EntH.openFact fun e0 => ?_
  subst e0
  refine EntH.openEx fun c1 => EntH.openEx fun c2 => EntH.openStar (EntH.openFact fun e0 => EntH.openStar ?_)
  subst e0
  refine EntH.openFact fun e0 => ?_
  subst e0
  refine EntH.openEx fun c1 => EntH.openEx fun c2 => EntH.openStar (EntH.openFact fun e0 => EntH.openStar ?_)
  subst e0
  refine EntH.openFact fun e0 => ?_
  subst e0
  refine EntH.openEx fun c1 => EntH.openEx fun c2 => EntH.openStar (EntH.openFact fun e0 => EntH.openStar ?_)
  subst e0
  refine EntH.openFact fun e0 => ?_
  subst e0
  refine EntH.openEx fun c1 => EntH.openEx fun c2 => EntH.openStar (EntH.openFact fun e0 => EntH.openStar ?_)
  subst e0
  refine EntH.openFact fun e0 => ?_
  subst e0
  refine EntH.openEx fun c1 => EntH.openEx fun c2 => EntH.openStar (EntH.openFact fun e0 => EntH.openStar ?_)
  subst e0
  refine EntH.openFact fun e0 => ?_
  subst e0
  refine EntH.openEx fun c1 => EntH.openEx fun c2 => EntH.openStar (EntH.openFact fun e0 => EntH.openStar ?_)
  subst e0
  refine EntH.openFact fun e0 => ?_
  subst e0
  refine EntH.openEx fun c1 => EntH.openEx fun c2 => EntH.openStar (EntH.openFact fun e0 => EntH.openStar ?_)
  subst e0
  refine EntH.openFact fun e0 => ?_
  subst e0
  refine EntH.openEx fun c1 => EntH.openEx fun c2 => EntH.openStar (EntH.openFact fun e0 => EntH.openStar ?_)
  subst e0
  refine EntH.openFact fun e0 => ?_
  subst e0
  refine EntH.openEx fun c1 => EntH.openEx fun c2 => EntH.openStar (EntH.openFact fun e0 => EntH.openStar ?_)
  subst e0
  refine EntH.openFact fun e0 => ?_
  subst e0
  refine EntH.openEx fun c1 => EntH.openEx fun c2 => EntH.openStar (EntH.openFact fun e0 => EntH.openStar ?_)
  subst e0
  refine EntH.openFact fun e0 => ?_
  subst e0
  refine EntH.openEx fun c1 => EntH.openEx fun c2 => EntH.openStar (EntH.openFact fun e0 => EntH.openStar ?_)
  subst e0
  refine EntH.openEx fun q2 => EntH.openStar (EntH.openFact fun e0 => ?_)
  subst e0
  refine EntH.swap ?_
  refine EntH.openEx fun c1 => EntH.openEx fun c2 => EntH.openStar (EntH.openFact fun e0 => EntH.openStar ?_)
  subst e0
  refine EntH.openEx fun c1 => EntH.openEx fun c2 => EntH.openStar (EntH.openFact fun e0 => EntH.openStar ?_)
  subst e0
  refine EntH.openFact fun e0 => ?_
  subst e0
  refine EntH.openEx fun c1 => EntH.openEx fun c2 => EntH.openStar (EntH.openFact fun e0 => EntH.openStar ?_)
  subst e0
  refine EntH.openEx fun q3 => EntH.openStar (EntH.openFact fun e0 => ?_)
  subst e0
  refine EntH.swap ?_
  refine EntH.openEx fun c1 => EntH.openEx fun c2 => EntH.openStar (EntH.openFact fun e0 => EntH.openStar ?_)
  subst e0
  refine EntH.openFact fun e0 => ?_
  subst e0
  refine EntH.openEx fun c1 => EntH.openEx fun c2 => EntH.openStar (EntH.openFact fun e0 => EntH.openStar ?_)
  subst e0
  refine EntH.openEx fun q4 => EntH.openStar (EntH.openFact fun e0 => ?_)
  subst e0
  refine EntH.swap ?_
  refine EntH.openFact fun e0 => ?_
  subst e0
  refine EntH.pull 2 rfl ?_
  simp only [List.eraseIdx_cons_zero, List.eraseIdx_cons_succ]
  refine EntH.openEx fun c1 => EntH.openEx fun c2 => EntH.openStar (EntH.openFact fun e0 => EntH.openStar ?_)
  subst e0
  refine EntH.openFact fun e0 => ?_
  subst e0
  refine EntH.openFact fun e0 => ?_
  subst e0
  refine Ent.oex q0 (Ent.oex q1 (Ent.oex q2 (Ent.oex q3 (Ent.oex q4 (Ent.ofact rfl ?_)))))
  refine Ent.pick 4 rfl (Ent.refl _) ?_
  simp only [List.eraseIdx_cons_zero, List.eraseIdx_cons_succ]
  refine Ent.pick 3 rfl (Ent.refl _) ?_
  simp only [List.eraseIdx_cons_zero, List.eraseIdx_cons_succ]
  refine Ent.pick 2 rfl (Ent.refl _) ?_
  simp only [List.eraseIdx_cons_zero, List.eraseIdx_cons_succ]
  refine Ent.pick 1 rfl (Ent.refl _) ?_
  simp only [List.eraseIdx_cons_zero, List.eraseIdx_cons_succ]
  refine Ent.pick 0 rfl (Ent.refl _) ?_
  simp only [List.eraseIdx_cons_zero, List.eraseIdx_cons_succ]
  exact Ent.to_emp _
theorem ownTerm_shut {x : STerm} {v0 v1 v2 v3 v4 : Value} : Ent (stars [OwnS (kS kCell) v0 x.grid.rows, OwnS (kS kCell) v1 x.other.rows, OwnS kI v2 x.title, OwnS kI v3 x.parser.params, OwnS kI v4 x.parser.text_]) (kTerm.own x (celTerm x v0 v1 v2 v3 v4)) := by
  unfold celTerm
  refine ownF_step 2 ?_
  simp only [List.take_succ_cons, List.take_zero, List.drop_succ_cons, List.drop_zero]
  refine ownF_stepL 1 ?_
  simp only [List.take_succ_cons, List.take_zero, List.drop_succ_cons, List.drop_zero]
  refine Ent.ofact rfl ?_
  refine ownF_stepL 1 ?_
  simp only [List.take_succ_cons, List.take_zero, List.drop_succ_cons, List.drop_zero]
  refine Ent.pick 0 rfl (kS_own _ _ _) ?_
  simp only [List.eraseIdx_cons_zero, List.eraseIdx_cons_succ]
  refine Ent.ofact rfl ?_
  refine ownF_step 2 ?_
  simp only [List.take_succ_cons, List.take_zero, List.drop_succ_cons, List.drop_zero]
  refine ownF_stepL 1 ?_
  simp only [List.take_succ_cons, List.take_zero, List.drop_succ_cons, List.drop_zero]
  refine Ent.ofact rfl ?_
  refine ownF_stepL 1 ?_
  simp only [List.take_succ_cons, List.take_zero, List.drop_succ_cons, List.drop_zero]
  refine Ent.pick 0 rfl (kS_own _ _ _) ?_
  simp only [List.eraseIdx_cons_zero, List.eraseIdx_cons_succ]
  refine Ent.ofact rfl ?_
  refine ownF_step 1 ?_
  simp only [List.take_succ_cons, List.take_zero, List.drop_succ_cons, List.drop_zero]
  refine Ent.ofact rfl ?_
  refine ownF_step 1 ?_
  simp only [List.take_succ_cons, List.take_zero, List.drop_succ_cons, List.drop_zero]
  refine Ent.ofact rfl ?_
  refine ownF_step 5 ?_
  simp only [List.take_succ_cons, List.take_zero, List.drop_succ_cons, List.drop_zero]
  refine Ent.ofact rfl ?_
  refine ownF_step 1 ?_
  simp only [List.take_succ_cons, List.take_zero, List.drop_succ_cons, List.drop_zero]
  refine Ent.ofact rfl ?_
  refine ownF_step 1 ?_
  simp only [List.take_succ_cons, List.take_zero, List.drop_succ_cons, List.drop_zero]
  refine Ent.ofact rfl ?_
  refine ownF_step 1 ?_
  simp only [List.take_succ_cons, List.take_zero, List.drop_succ_cons, List.drop_zero]
  refine Ent.ofact rfl ?_
  refine ownF_step 1 ?_
  simp only [List.take_succ_cons, List.take_zero, List.drop_succ_cons, List.drop_zero]
  refine Ent.ofact rfl ?_
  refine ownF_step 1 ?_
  simp only [List.take_succ_cons, List.take_zero, List.drop_succ_cons, List.drop_zero]
  refine Ent.ofact rfl ?_
  refine ownF_step 1 ?_
  simp only [List.take_succ_cons, List.take_zero, List.drop_succ_cons, List.drop_zero]
  refine Ent.ofact rfl ?_
  refine ownF_step 1 ?_
  simp only [List.take_succ_cons, List.take_zero, List.drop_succ_cons, List.drop_zero]
  refine Ent.ofact rfl ?_
  refine ownF_step 1 ?_
  simp only [List.take_succ_cons, List.take_zero, List.drop_succ_cons, List.drop_zero]
  refine Ent.ofact rfl ?_
  refine ownF_step 5 ?_
  simp only [List.take_succ_cons, List.take_zero, List.drop_succ_cons, List.drop_zero]
  refine Ent.ofact rfl ?_
  refine ownF_step 1 ?_
  simp only [List.take_succ_cons, List.take_zero, List.drop_succ_cons, List.drop_zero]
  refine Ent.pick 0 rfl (kS_own _ _ _) ?_
  simp only [List.eraseIdx_cons_zero, List.eraseIdx_cons_succ]
  refine ownF_step 4 ?_
  simp only [List.take_succ_cons, List.take_zero, List.drop_succ_cons, List.drop_zero]
  refine ownF_stepL 1 ?_
  simp only [List.take_succ_cons, List.take_zero, List.drop_succ_cons, List.drop_zero]
  refine Ent.ofact rfl ?_
  refine ownF_stepL 1 ?_
  simp only [List.take_succ_cons, List.take_zero, List.drop_succ_cons, List.drop_zero]
  refine Ent.pick 0 rfl (kS_own _ _ _) ?_
  simp only [List.eraseIdx_cons_zero, List.eraseIdx_cons_succ]
  refine ownF_stepL 1 ?_
  simp only [List.take_succ_cons, List.take_zero, List.drop_succ_cons, List.drop_zero]
  refine Ent.ofact rfl ?_
  refine ownF_stepL 1 ?_
  simp only [List.take_succ_cons, List.take_zero, List.drop_succ_cons, List.drop_zero]
  refine Ent.pick 0 rfl (kS_own _ _ _) ?_
  simp only [List.eraseIdx_cons_zero, List.eraseIdx_cons_succ]
  refine Ent.ofact rfl ?_
  refine ownF_step 1 ?_
  simp only [List.take_succ_cons, List.take_zero, List.drop_succ_cons, List.drop_zero]
  refine Ent.ofact rfl ?_
  exact ent_fact rfl
theorem SEM.openTerm_ {P : Program} {N : Nat} {k : List It} {E : Env} {L : List Loc} {H : List Assn} {Q : Post} {x : STerm} {cs : List Value} (h : ∀ v0 v1 v2 v3 v4, cs = celTerm x v0 v1 v2 v3 v4 → SEM P N k E L (OwnS (kS kCell) v0 x.grid.rows :: OwnS (kS kCell) v1 x.other.rows :: OwnS kI v2 x.title :: OwnS kI v3 x.parser.params :: OwnS kI v4 x.parser.text_ :: H) Q) : SEM P N k E L (kTerm.own x cs :: H) Q :=
  SEM.open1 (SEM.openEx fun v0 => SEM.openEx fun v1 => SEM.openEx fun v2 => SEM.openEx fun v3 => SEM.openEx fun v4 => SEM.openStar (SEM.openFact fun e => SEM.split (h v0 v1 v2 v3 v4 e))) ownTerm_open
theorem SEM.openTerm {P : Program} {N : Nat} {k : List It} {E : Env} {L : List Loc} {H : List Assn} {Q : Post} {x : STerm} {cs : List Value} (h : ∀ A0 c0 A1 c1 A2 c2 A3 c3 A4 c4, cs = celTerm x (.slice A0 x.grid.rows.length c0) (.slice A1 x.other.rows.length c1) (.slice A2 x.title.length c2) (.slice A3 x.parser.params.length c3) (.slice A4 x.parser.text_.length c4) → SEM P N k E L (OwnS (kS kCell) (.slice A0 x.grid.rows.length c0) x.grid.rows :: OwnS (kS kCell) (.slice A1 x.other.rows.length c1) x.other.rows :: OwnS kI (.slice A2 x.title.length c2) x.title :: OwnS kI (.slice A3 x.parser.params.length c3) x.parser.params :: OwnS kI (.slice A4 x.parser.text_.length c4) x.parser.text_ :: H) Q) : SEM P N k E L (kTerm.own x cs :: H) Q := by
  refine SEM.openTerm_ fun v0 v1 v2 v3 v4 e => ?_
  refine SEM.ownShapeAt 0 rfl fun A0 c0 e0 _ _ _ => ?_
  subst e0
  refine SEM.ownShapeAt 1 rfl fun A1 c1 e1 _ _ _ => ?_
  subst e1
  refine SEM.ownShapeAt 2 rfl fun A2 c2 e2 _ _ _ => ?_
  subst e2
  refine SEM.ownShapeAt 3 rfl fun A3 c3 e3 _ _ _ => ?_
  subst e3
  refine SEM.ownShapeAt 4 rfl fun A4 c4 e4 _ _ _ => ?_
  subst e4
  exact h A0 c0 A1 c1 A2 c2 A3 c3 A4 c4 e
theorem SEM.openRTerm {P : Program} {N : Nat} {k : List It} {E : Env} {L : List Loc} {H : List Assn} {Q : Post} {x : STerm} {r : Value} (h : ∀ A0 c0 A1 c1 A2 c2 A3 c3 A4 c4, r = .agg (celTerm x (.slice A0 x.grid.rows.length c0) (.slice A1 x.other.rows.length c1) (.slice A2 x.title.length c2) (.slice A3 x.parser.params.length c3) (.slice A4 x.parser.text_.length c4)).toArray → SEM P N k E L (OwnS (kS kCell) (.slice A0 x.grid.rows.length c0) x.grid.rows :: OwnS (kS kCell) (.slice A1 x.other.rows.length c1) x.other.rows :: OwnS kI (.slice A2 x.title.length c2) x.title :: OwnS kI (.slice A3 x.parser.params.length c3) x.parser.params :: OwnS kI (.slice A4 x.parser.text_.length c4) x.parser.text_ :: H) Q) : SEM P N k E L (ownR kTerm x r :: H) Q :=
  SEM.openEx fun cs => SEM.openStar (SEM.openFact fun e => SEM.openTerm fun A0 c0 A1 c1 A2 c2 A3 c3 A4 c4 e1 => h A0 c0 A1 c1 A2 c2 A3 c3 A4 c4 (by rw [e, e1]))
theorem rdTerm_open {w : World} {x : STerm} {cs : List Value} (p : kTerm.rd w x cs) : ∃ A0 c0 A1 c1 A2 c2 A3 c3 A4 c4, cs = celTerm x (.slice A0 x.grid.rows.length c0) (.slice A1 x.other.rows.length c1) (.slice A2 x.title.length c2) (.slice A3 x.parser.params.length c3) (.slice A4 x.parser.text_.length c4) ∧ RdS (kS kCell) w (.slice A0 x.grid.rows.length c0) x.grid.rows ∧ RdS (kS kCell) w (.slice A1 x.other.rows.length c1) x.other.rows ∧ RdS kI w (.slice A2 x.title.length c2) x.title ∧ RdS kI w (.slice A3 x.parser.params.length c3) x.parser.params ∧ RdS kI w (.slice A4 x.parser.text_.length c4) x.parser.text_ := by
  obtain ⟨_, _, rfl, pgrid, _, _, rfl, pother, _, _, rfl, rfl, _, _, rfl, rfl, _, _, rfl, rfl, _, _, rfl, rfl, _, _, rfl, rfl, _, _, rfl, rfl, _, _, rfl, rfl, _, _, rfl, rfl, _, _, rfl, rfl, _, _, rfl, rfl, _, _, rfl, rfl, _, _, rfl, rfl, _, _, rfl, ⟨_, rfl, ptitle⟩, _, _, rfl, pparser, _, _, rfl, rfl, rfl⟩ := p
  have pgrid_ := pgrid
  obtain ⟨_, _, rfl, rfl, _, _, rfl, ⟨_, rfl, pgridrows⟩, rfl⟩ := pgrid
  have pother_ := pother
  obtain ⟨_, _, rfl, rfl, _, _, rfl, ⟨_, rfl, potherrows⟩, rfl⟩ := pother
  have pparser_ := pparser
  obtain ⟨_, _, rfl, rfl, _, _, rfl, ⟨_, rfl, pparserparams⟩, _, _, rfl, rfl, _, _, rfl, ⟨_, rfl, pparsertext_⟩, rfl⟩ := pparser
  have h0 := pgridrows
  obtain ⟨A0, c0, rfl, -⟩ := h0
  have h1 := potherrows
  obtain ⟨A1, c1, rfl, -⟩ := h1
  have h2 := ptitle
  obtain ⟨A2, c2, rfl, -⟩ := h2
  have h3 := pparserparams
  obtain ⟨A3, c3, rfl, -⟩ := h3
  have h4 := pparsertext_
  obtain ⟨A4, c4, rfl, -⟩ := h4
  exact ⟨_, _, _, _, _, _, _, _, _, _, rfl, pgridrows, potherrows, ptitle, pparserparams, pparsertext_⟩
theorem rdTerm_shut {w : World} {x : STerm} {v0 v1 v2 v3 v4 : Value} (p0 : RdS (kS kCell) w v0 x.grid.rows) (p1 : RdS (kS kCell) w v1 x.other.rows) (p2 : RdS kI w v2 x.title) (p3 : RdS kI w v3 x.parser.params) (p4 : RdS kI w v4 x.parser.text_) : kTerm.rd w x (celTerm x v0 v1 v2 v3 v4) := by
  exact ⟨[.int .i64 x.grid.cols, v0], _, rfl, ⟨[.int .i64 x.grid.cols], _, rfl, rfl, ⟨[v0], _, rfl, ⟨_, rfl, p0⟩, rfl⟩⟩, ⟨[.int .i64 x.other.cols, v1], _, rfl, ⟨[.int .i64 x.other.cols], _, rfl, rfl, ⟨[v1], _, rfl, ⟨_, rfl, p1⟩, rfl⟩⟩, ⟨[.int .i64 x.row], _, rfl, rfl, ⟨[.int .i64 x.col], _, rfl, rfl, ⟨[.int .i64 x.style.fore, .int .i64 x.style.back, .bool x.style.bold, .bool x.style.under, .bool x.style.turned], _, rfl, rfl, ⟨[.int .i64 x.top], _, rfl, rfl, ⟨[.int .i64 x.bottom], _, rfl, rfl, ⟨[.bool x.full], _, rfl, rfl, ⟨[.bool x.wrap], _, rfl, rfl, ⟨[.bool x.away], _, rfl, rfl, ⟨[.bool x.hidden], _, rfl, rfl, ⟨[.int .i64 x.savedRow], _, rfl, rfl, ⟨[.int .i64 x.savedCol], _, rfl, rfl, ⟨[.int .i64 x.savedStyle.fore, .int .i64 x.savedStyle.back, .bool x.savedStyle.bold, .bool x.savedStyle.under, .bool x.savedStyle.turned], _, rfl, rfl, ⟨[v2], _, rfl, ⟨_, rfl, p2⟩, ⟨[.int .i64 x.parser.state, v3, .int .i64 x.parser.mark_, v4], _, rfl, ⟨[.int .i64 x.parser.state], _, rfl, rfl, ⟨[v3], _, rfl, ⟨_, rfl, p3⟩, ⟨[.int .i64 x.parser.mark_], _, rfl, rfl, ⟨[v4], _, rfl, ⟨_, rfl, p4⟩, rfl⟩⟩⟩⟩, ⟨[.string x.feeder.held], _, rfl, rfl, rfl⟩⟩⟩⟩⟩⟩⟩⟩⟩⟩⟩⟩⟩⟩⟩⟩⟩
def celAction (x : SAction) (v0 v1 : Value) : List Value := [.int .i64 x.kind, .int .i64 x.rune, v0, .int .i64 x.mark_, v1]
theorem ownAction_open {x : SAction} {cs : List Value} : Ent (kAction.own x cs) (ex fun v0 => ex fun v1 => star (fact (cs = celAction x v0 v1)) (stars [OwnS kI v0 x.params, OwnS kI v1 x.text_])) := by
  refine EntH.one ?_
  refine EntH.openEx fun c1 => EntH.openEx fun c2 => EntH.openStar (EntH.openFact fun e0 => EntH.openStar ?_)
  subst e0
  refine EntH.openFact fun e0 => ?_
  subst e0
  refine EntH.openEx fun c1 => EntH.openEx fun c2 => EntH.openStar (EntH.openFact fun e0 => EntH.openStar ?_)
  subst e0
  refine EntH.openFact fun e0 => ?_
  subst e0
  refine EntH.openEx fun c1 => EntH.openEx fun c2 => EntH.openStar (EntH.openFact fun e0 => EntH.openStar ?_)
  subst e0
  refine EntH.openEx fun q0 => EntH.openStar (EntH.openFact fun e0 => ?_)
  subst e0
  refine EntH.swap ?_
  refine EntH.openEx fun c1 => EntH.openEx fun c2 => EntH.openStar (EntH.openFact fun e0 => EntH.openStar ?_)
  subst e0
  refine EntH.openFact fun e0 => ?_
  subst e0
  refine EntH.openEx fun c1 => EntH.openEx fun c2 => EntH.openStar (EntH.openFact fun e0 => EntH.openStar ?_)
  subst e0
  refine EntH.openEx fun q1 => EntH.openStar (EntH.openFact fun e0 => ?_)
  subst e0
  refine EntH.swap ?_
  refine EntH.openFact fun e0 => ?_
  subst e0
  refine Ent.oex q0 (Ent.oex q1 (Ent.ofact rfl ?_))
  refine Ent.pick 1 rfl (Ent.refl _) ?_
  simp only [List.eraseIdx_cons_zero, List.eraseIdx_cons_succ]
  refine Ent.pick 0 rfl (Ent.refl _) ?_
  simp only [List.eraseIdx_cons_zero, List.eraseIdx_cons_succ]
  exact Ent.to_emp _
theorem ownAction_shut {x : SAction} {v0 v1 : Value} : Ent (stars [OwnS kI v0 x.params, OwnS kI v1 x.text_]) (kAction.own x (celAction x v0 v1)) := by
  unfold celAction
  refine ownF_step 1 ?_
  simp only [List.take_succ_cons, List.take_zero, List.drop_succ_cons, List.drop_zero]
  refine Ent.ofact rfl ?_
  refine ownF_step 1 ?_
  simp only [List.take_succ_cons, List.take_zero, List.drop_succ_cons, List.drop_zero]
  refine Ent.ofact rfl ?_
  refine ownF_step 1 ?_
  simp only [List.take_succ_cons, List.take_zero, List.drop_succ_cons, List.drop_zero]
  refine Ent.pick 0 rfl (kS_own _ _ _) ?_
  simp only [List.eraseIdx_cons_zero, List.eraseIdx_cons_succ]
  refine ownF_step 1 ?_
  simp only [List.take_succ_cons, List.take_zero, List.drop_succ_cons, List.drop_zero]
  refine Ent.ofact rfl ?_
  refine ownF_step 1 ?_
  simp only [List.take_succ_cons, List.take_zero, List.drop_succ_cons, List.drop_zero]
  refine Ent.pick 0 rfl (kS_own _ _ _) ?_
  simp only [List.eraseIdx_cons_zero, List.eraseIdx_cons_succ]
  exact ent_fact rfl
theorem SEM.openAction_ {P : Program} {N : Nat} {k : List It} {E : Env} {L : List Loc} {H : List Assn} {Q : Post} {x : SAction} {cs : List Value} (h : ∀ v0 v1, cs = celAction x v0 v1 → SEM P N k E L (OwnS kI v0 x.params :: OwnS kI v1 x.text_ :: H) Q) : SEM P N k E L (kAction.own x cs :: H) Q :=
  SEM.open1 (SEM.openEx fun v0 => SEM.openEx fun v1 => SEM.openStar (SEM.openFact fun e => SEM.split (h v0 v1 e))) ownAction_open
theorem SEM.openAction {P : Program} {N : Nat} {k : List It} {E : Env} {L : List Loc} {H : List Assn} {Q : Post} {x : SAction} {cs : List Value} (h : ∀ A0 c0 A1 c1, cs = celAction x (.slice A0 x.params.length c0) (.slice A1 x.text_.length c1) → SEM P N k E L (OwnS kI (.slice A0 x.params.length c0) x.params :: OwnS kI (.slice A1 x.text_.length c1) x.text_ :: H) Q) : SEM P N k E L (kAction.own x cs :: H) Q := by
  refine SEM.openAction_ fun v0 v1 e => ?_
  refine SEM.ownShapeAt 0 rfl fun A0 c0 e0 _ _ _ => ?_
  subst e0
  refine SEM.ownShapeAt 1 rfl fun A1 c1 e1 _ _ _ => ?_
  subst e1
  exact h A0 c0 A1 c1 e
theorem SEM.openRAction {P : Program} {N : Nat} {k : List It} {E : Env} {L : List Loc} {H : List Assn} {Q : Post} {x : SAction} {r : Value} (h : ∀ A0 c0 A1 c1, r = .agg (celAction x (.slice A0 x.params.length c0) (.slice A1 x.text_.length c1)).toArray → SEM P N k E L (OwnS kI (.slice A0 x.params.length c0) x.params :: OwnS kI (.slice A1 x.text_.length c1) x.text_ :: H) Q) : SEM P N k E L (ownR kAction x r :: H) Q :=
  SEM.openEx fun cs => SEM.openStar (SEM.openFact fun e => SEM.openAction fun A0 c0 A1 c1 e1 => h A0 c0 A1 c1 (by rw [e, e1]))
theorem rdAction_open {w : World} {x : SAction} {cs : List Value} (p : kAction.rd w x cs) : ∃ A0 c0 A1 c1, cs = celAction x (.slice A0 x.params.length c0) (.slice A1 x.text_.length c1) ∧ RdS kI w (.slice A0 x.params.length c0) x.params ∧ RdS kI w (.slice A1 x.text_.length c1) x.text_ := by
  obtain ⟨_, _, rfl, rfl, _, _, rfl, rfl, _, _, rfl, ⟨_, rfl, pparams⟩, _, _, rfl, rfl, _, _, rfl, ⟨_, rfl, ptext_⟩, rfl⟩ := p
  have h0 := pparams
  obtain ⟨A0, c0, rfl, -⟩ := h0
  have h1 := ptext_
  obtain ⟨A1, c1, rfl, -⟩ := h1
  exact ⟨_, _, _, _, rfl, pparams, ptext_⟩
theorem rdAction_shut {w : World} {x : SAction} {v0 v1 : Value} (p0 : RdS kI w v0 x.params) (p1 : RdS kI w v1 x.text_) : kAction.rd w x (celAction x v0 v1) := by
  exact ⟨[.int .i64 x.kind], _, rfl, rfl, ⟨[.int .i64 x.rune], _, rfl, rfl, ⟨[v0], _, rfl, ⟨_, rfl, p0⟩, ⟨[.int .i64 x.mark_], _, rfl, rfl, ⟨[v1], _, rfl, ⟨_, rfl, p1⟩, rfl⟩⟩⟩⟩⟩
def celChange (x : SChange) (v0 : Value) : List Value := [.int .i64 x.row, .int .i64 x.from_, v0]
theorem ownChange_open {x : SChange} {cs : List Value} : Ent (kChange.own x cs) (ex fun v0 => star (fact (cs = celChange x v0)) (stars [OwnS kCell v0 x.cells])) := by
  refine EntH.one ?_
  refine EntH.openEx fun c1 => EntH.openEx fun c2 => EntH.openStar (EntH.openFact fun e0 => EntH.openStar ?_)
  subst e0
  refine EntH.openFact fun e0 => ?_
  subst e0
  refine EntH.openEx fun c1 => EntH.openEx fun c2 => EntH.openStar (EntH.openFact fun e0 => EntH.openStar ?_)
  subst e0
  refine EntH.openFact fun e0 => ?_
  subst e0
  refine EntH.openEx fun c1 => EntH.openEx fun c2 => EntH.openStar (EntH.openFact fun e0 => EntH.openStar ?_)
  subst e0
  refine EntH.openEx fun q0 => EntH.openStar (EntH.openFact fun e0 => ?_)
  subst e0
  refine EntH.swap ?_
  refine EntH.openFact fun e0 => ?_
  subst e0
  refine Ent.oex q0 (Ent.ofact rfl ?_)
  refine Ent.pick 0 rfl (Ent.refl _) ?_
  simp only [List.eraseIdx_cons_zero, List.eraseIdx_cons_succ]
  exact Ent.to_emp _
theorem ownChange_shut {x : SChange} {v0 : Value} : Ent (stars [OwnS kCell v0 x.cells]) (kChange.own x (celChange x v0)) := by
  unfold celChange
  refine ownF_step 1 ?_
  simp only [List.take_succ_cons, List.take_zero, List.drop_succ_cons, List.drop_zero]
  refine Ent.ofact rfl ?_
  refine ownF_step 1 ?_
  simp only [List.take_succ_cons, List.take_zero, List.drop_succ_cons, List.drop_zero]
  refine Ent.ofact rfl ?_
  refine ownF_step 1 ?_
  simp only [List.take_succ_cons, List.take_zero, List.drop_succ_cons, List.drop_zero]
  refine Ent.pick 0 rfl (kS_own _ _ _) ?_
  simp only [List.eraseIdx_cons_zero, List.eraseIdx_cons_succ]
  exact ent_fact rfl
theorem SEM.openChange_ {P : Program} {N : Nat} {k : List It} {E : Env} {L : List Loc} {H : List Assn} {Q : Post} {x : SChange} {cs : List Value} (h : ∀ v0, cs = celChange x v0 → SEM P N k E L (OwnS kCell v0 x.cells :: H) Q) : SEM P N k E L (kChange.own x cs :: H) Q :=
  SEM.open1 (SEM.openEx fun v0 => SEM.openStar (SEM.openFact fun e => SEM.split (h v0 e))) ownChange_open
theorem SEM.openChange {P : Program} {N : Nat} {k : List It} {E : Env} {L : List Loc} {H : List Assn} {Q : Post} {x : SChange} {cs : List Value} (h : ∀ A0 c0, cs = celChange x (.slice A0 x.cells.length c0) → SEM P N k E L (OwnS kCell (.slice A0 x.cells.length c0) x.cells :: H) Q) : SEM P N k E L (kChange.own x cs :: H) Q := by
  refine SEM.openChange_ fun v0 e => ?_
  refine SEM.ownShapeAt 0 rfl fun A0 c0 e0 _ _ _ => ?_
  subst e0
  exact h A0 c0 e
theorem SEM.openRChange {P : Program} {N : Nat} {k : List It} {E : Env} {L : List Loc} {H : List Assn} {Q : Post} {x : SChange} {r : Value} (h : ∀ A0 c0, r = .agg (celChange x (.slice A0 x.cells.length c0)).toArray → SEM P N k E L (OwnS kCell (.slice A0 x.cells.length c0) x.cells :: H) Q) : SEM P N k E L (ownR kChange x r :: H) Q :=
  SEM.openEx fun cs => SEM.openStar (SEM.openFact fun e => SEM.openChange fun A0 c0 e1 => h A0 c0 (by rw [e, e1]))
theorem rdChange_open {w : World} {x : SChange} {cs : List Value} (p : kChange.rd w x cs) : ∃ A0 c0, cs = celChange x (.slice A0 x.cells.length c0) ∧ RdS kCell w (.slice A0 x.cells.length c0) x.cells := by
  obtain ⟨_, _, rfl, rfl, _, _, rfl, rfl, _, _, rfl, ⟨_, rfl, pcells⟩, rfl⟩ := p
  have h0 := pcells
  obtain ⟨A0, c0, rfl, -⟩ := h0
  exact ⟨_, _, rfl, pcells⟩
theorem rdChange_shut {w : World} {x : SChange} {v0 : Value} (p0 : RdS kCell w v0 x.cells) : kChange.rd w x (celChange x v0) := by
  exact ⟨[.int .i64 x.row], _, rfl, rfl, ⟨[.int .i64 x.from_], _, rfl, rfl, ⟨[v0], _, rfl, ⟨_, rfl, p0⟩, rfl⟩⟩⟩
def celPatch (x : SPatch) (v0 : Value) : List Value := [.int .i64 x.cols, .int .i64 x.rows, v0]
theorem ownPatch_open {x : SPatch} {cs : List Value} : Ent (kPatch.own x cs) (ex fun v0 => star (fact (cs = celPatch x v0)) (stars [OwnS kChange v0 x.changes])) := by
  refine EntH.one ?_
  refine EntH.openEx fun c1 => EntH.openEx fun c2 => EntH.openStar (EntH.openFact fun e0 => EntH.openStar ?_)
  subst e0
  refine EntH.openFact fun e0 => ?_
  subst e0
  refine EntH.openEx fun c1 => EntH.openEx fun c2 => EntH.openStar (EntH.openFact fun e0 => EntH.openStar ?_)
  subst e0
  refine EntH.openFact fun e0 => ?_
  subst e0
  refine EntH.openEx fun c1 => EntH.openEx fun c2 => EntH.openStar (EntH.openFact fun e0 => EntH.openStar ?_)
  subst e0
  refine EntH.openEx fun q0 => EntH.openStar (EntH.openFact fun e0 => ?_)
  subst e0
  refine EntH.swap ?_
  refine EntH.openFact fun e0 => ?_
  subst e0
  refine Ent.oex q0 (Ent.ofact rfl ?_)
  refine Ent.pick 0 rfl (Ent.refl _) ?_
  simp only [List.eraseIdx_cons_zero, List.eraseIdx_cons_succ]
  exact Ent.to_emp _
theorem ownPatch_shut {x : SPatch} {v0 : Value} : Ent (stars [OwnS kChange v0 x.changes]) (kPatch.own x (celPatch x v0)) := by
  unfold celPatch
  refine ownF_step 1 ?_
  simp only [List.take_succ_cons, List.take_zero, List.drop_succ_cons, List.drop_zero]
  refine Ent.ofact rfl ?_
  refine ownF_step 1 ?_
  simp only [List.take_succ_cons, List.take_zero, List.drop_succ_cons, List.drop_zero]
  refine Ent.ofact rfl ?_
  refine ownF_step 1 ?_
  simp only [List.take_succ_cons, List.take_zero, List.drop_succ_cons, List.drop_zero]
  refine Ent.pick 0 rfl (kS_own _ _ _) ?_
  simp only [List.eraseIdx_cons_zero, List.eraseIdx_cons_succ]
  exact ent_fact rfl
theorem SEM.openPatch_ {P : Program} {N : Nat} {k : List It} {E : Env} {L : List Loc} {H : List Assn} {Q : Post} {x : SPatch} {cs : List Value} (h : ∀ v0, cs = celPatch x v0 → SEM P N k E L (OwnS kChange v0 x.changes :: H) Q) : SEM P N k E L (kPatch.own x cs :: H) Q :=
  SEM.open1 (SEM.openEx fun v0 => SEM.openStar (SEM.openFact fun e => SEM.split (h v0 e))) ownPatch_open
theorem SEM.openPatch {P : Program} {N : Nat} {k : List It} {E : Env} {L : List Loc} {H : List Assn} {Q : Post} {x : SPatch} {cs : List Value} (h : ∀ A0 c0, cs = celPatch x (.slice A0 x.changes.length c0) → SEM P N k E L (OwnS kChange (.slice A0 x.changes.length c0) x.changes :: H) Q) : SEM P N k E L (kPatch.own x cs :: H) Q := by
  refine SEM.openPatch_ fun v0 e => ?_
  refine SEM.ownShapeAt 0 rfl fun A0 c0 e0 _ _ _ => ?_
  subst e0
  exact h A0 c0 e
theorem SEM.openRPatch {P : Program} {N : Nat} {k : List It} {E : Env} {L : List Loc} {H : List Assn} {Q : Post} {x : SPatch} {r : Value} (h : ∀ A0 c0, r = .agg (celPatch x (.slice A0 x.changes.length c0)).toArray → SEM P N k E L (OwnS kChange (.slice A0 x.changes.length c0) x.changes :: H) Q) : SEM P N k E L (ownR kPatch x r :: H) Q :=
  SEM.openEx fun cs => SEM.openStar (SEM.openFact fun e => SEM.openPatch fun A0 c0 e1 => h A0 c0 (by rw [e, e1]))
theorem rdPatch_open {w : World} {x : SPatch} {cs : List Value} (p : kPatch.rd w x cs) : ∃ A0 c0, cs = celPatch x (.slice A0 x.changes.length c0) ∧ RdS kChange w (.slice A0 x.changes.length c0) x.changes := by
  obtain ⟨_, _, rfl, rfl, _, _, rfl, rfl, _, _, rfl, ⟨_, rfl, pchanges⟩, rfl⟩ := p
  have h0 := pchanges
  obtain ⟨A0, c0, rfl, -⟩ := h0
  exact ⟨_, _, rfl, pchanges⟩
theorem rdPatch_shut {w : World} {x : SPatch} {v0 : Value} (p0 : RdS kChange w v0 x.changes) : kPatch.rd w x (celPatch x v0) := by
  exact ⟨[.int .i64 x.cols], _, rfl, rfl, ⟨[.int .i64 x.rows], _, rfl, rfl, ⟨[v0], _, rfl, ⟨_, rfl, p0⟩, rfl⟩⟩⟩
def celHistory (x : SHistory) (v0 : Value) : List Value := [.int .i64 x.limit, v0, .int .i64 x.gone]
theorem ownHistory_open {x : SHistory} {cs : List Value} : Ent (kHistory.own x cs) (ex fun v0 => star (fact (cs = celHistory x v0)) (stars [OwnS kT v0 x.lines])) := by
  refine EntH.one ?_
  refine EntH.openEx fun c1 => EntH.openEx fun c2 => EntH.openStar (EntH.openFact fun e0 => EntH.openStar ?_)
  subst e0
  refine EntH.openFact fun e0 => ?_
  subst e0
  refine EntH.openEx fun c1 => EntH.openEx fun c2 => EntH.openStar (EntH.openFact fun e0 => EntH.openStar ?_)
  subst e0
  refine EntH.openEx fun q0 => EntH.openStar (EntH.openFact fun e0 => ?_)
  subst e0
  refine EntH.swap ?_
  refine EntH.openEx fun c1 => EntH.openEx fun c2 => EntH.openStar (EntH.openFact fun e0 => EntH.openStar ?_)
  subst e0
  refine EntH.openFact fun e0 => ?_
  subst e0
  refine EntH.openFact fun e0 => ?_
  subst e0
  refine Ent.oex q0 (Ent.ofact rfl ?_)
  refine Ent.pick 0 rfl (Ent.refl _) ?_
  simp only [List.eraseIdx_cons_zero, List.eraseIdx_cons_succ]
  exact Ent.to_emp _
theorem ownHistory_shut {x : SHistory} {v0 : Value} : Ent (stars [OwnS kT v0 x.lines]) (kHistory.own x (celHistory x v0)) := by
  unfold celHistory
  refine ownF_step 1 ?_
  simp only [List.take_succ_cons, List.take_zero, List.drop_succ_cons, List.drop_zero]
  refine Ent.ofact rfl ?_
  refine ownF_step 1 ?_
  simp only [List.take_succ_cons, List.take_zero, List.drop_succ_cons, List.drop_zero]
  refine Ent.pick 0 rfl (kS_own _ _ _) ?_
  simp only [List.eraseIdx_cons_zero, List.eraseIdx_cons_succ]
  refine ownF_step 1 ?_
  simp only [List.take_succ_cons, List.take_zero, List.drop_succ_cons, List.drop_zero]
  refine Ent.ofact rfl ?_
  exact ent_fact rfl
theorem SEM.openHistory_ {P : Program} {N : Nat} {k : List It} {E : Env} {L : List Loc} {H : List Assn} {Q : Post} {x : SHistory} {cs : List Value} (h : ∀ v0, cs = celHistory x v0 → SEM P N k E L (OwnS kT v0 x.lines :: H) Q) : SEM P N k E L (kHistory.own x cs :: H) Q :=
  SEM.open1 (SEM.openEx fun v0 => SEM.openStar (SEM.openFact fun e => SEM.split (h v0 e))) ownHistory_open
theorem SEM.openHistory {P : Program} {N : Nat} {k : List It} {E : Env} {L : List Loc} {H : List Assn} {Q : Post} {x : SHistory} {cs : List Value} (h : ∀ A0 c0, cs = celHistory x (.slice A0 x.lines.length c0) → SEM P N k E L (OwnS kT (.slice A0 x.lines.length c0) x.lines :: H) Q) : SEM P N k E L (kHistory.own x cs :: H) Q := by
  refine SEM.openHistory_ fun v0 e => ?_
  refine SEM.ownShapeAt 0 rfl fun A0 c0 e0 _ _ _ => ?_
  subst e0
  exact h A0 c0 e
theorem SEM.openRHistory {P : Program} {N : Nat} {k : List It} {E : Env} {L : List Loc} {H : List Assn} {Q : Post} {x : SHistory} {r : Value} (h : ∀ A0 c0, r = .agg (celHistory x (.slice A0 x.lines.length c0)).toArray → SEM P N k E L (OwnS kT (.slice A0 x.lines.length c0) x.lines :: H) Q) : SEM P N k E L (ownR kHistory x r :: H) Q :=
  SEM.openEx fun cs => SEM.openStar (SEM.openFact fun e => SEM.openHistory fun A0 c0 e1 => h A0 c0 (by rw [e, e1]))
theorem rdHistory_open {w : World} {x : SHistory} {cs : List Value} (p : kHistory.rd w x cs) : ∃ A0 c0, cs = celHistory x (.slice A0 x.lines.length c0) ∧ RdS kT w (.slice A0 x.lines.length c0) x.lines := by
  obtain ⟨_, _, rfl, rfl, _, _, rfl, ⟨_, rfl, plines⟩, _, _, rfl, rfl, rfl⟩ := p
  have h0 := plines
  obtain ⟨A0, c0, rfl, -⟩ := h0
  exact ⟨_, _, rfl, plines⟩
theorem rdHistory_shut {w : World} {x : SHistory} {v0 : Value} (p0 : RdS kT w v0 x.lines) : kHistory.rd w x (celHistory x v0) := by
  exact ⟨[.int .i64 x.limit], _, rfl, rfl, ⟨[v0], _, rfl, ⟨_, rfl, p0⟩, ⟨[.int .i64 x.gone], _, rfl, rfl, rfl⟩⟩⟩
def celWindow (x : SWindow) (v0 : Value) : List Value := [.int .i64 x.top, v0]
theorem ownWindow_open {x : SWindow} {cs : List Value} : Ent (kWindow.own x cs) (ex fun v0 => star (fact (cs = celWindow x v0)) (stars [OwnS kI v0 x.seen])) := by
  refine EntH.one ?_
  refine EntH.openEx fun c1 => EntH.openEx fun c2 => EntH.openStar (EntH.openFact fun e0 => EntH.openStar ?_)
  subst e0
  refine EntH.openFact fun e0 => ?_
  subst e0
  refine EntH.openEx fun c1 => EntH.openEx fun c2 => EntH.openStar (EntH.openFact fun e0 => EntH.openStar ?_)
  subst e0
  refine EntH.openEx fun q0 => EntH.openStar (EntH.openFact fun e0 => ?_)
  subst e0
  refine EntH.swap ?_
  refine EntH.openFact fun e0 => ?_
  subst e0
  refine Ent.oex q0 (Ent.ofact rfl ?_)
  refine Ent.pick 0 rfl (Ent.refl _) ?_
  simp only [List.eraseIdx_cons_zero, List.eraseIdx_cons_succ]
  exact Ent.to_emp _
theorem ownWindow_shut {x : SWindow} {v0 : Value} : Ent (stars [OwnS kI v0 x.seen]) (kWindow.own x (celWindow x v0)) := by
  unfold celWindow
  refine ownF_step 1 ?_
  simp only [List.take_succ_cons, List.take_zero, List.drop_succ_cons, List.drop_zero]
  refine Ent.ofact rfl ?_
  refine ownF_step 1 ?_
  simp only [List.take_succ_cons, List.take_zero, List.drop_succ_cons, List.drop_zero]
  refine Ent.pick 0 rfl (kS_own _ _ _) ?_
  simp only [List.eraseIdx_cons_zero, List.eraseIdx_cons_succ]
  exact ent_fact rfl
theorem SEM.openWindow_ {P : Program} {N : Nat} {k : List It} {E : Env} {L : List Loc} {H : List Assn} {Q : Post} {x : SWindow} {cs : List Value} (h : ∀ v0, cs = celWindow x v0 → SEM P N k E L (OwnS kI v0 x.seen :: H) Q) : SEM P N k E L (kWindow.own x cs :: H) Q :=
  SEM.open1 (SEM.openEx fun v0 => SEM.openStar (SEM.openFact fun e => SEM.split (h v0 e))) ownWindow_open
theorem SEM.openWindow {P : Program} {N : Nat} {k : List It} {E : Env} {L : List Loc} {H : List Assn} {Q : Post} {x : SWindow} {cs : List Value} (h : ∀ A0 c0, cs = celWindow x (.slice A0 x.seen.length c0) → SEM P N k E L (OwnS kI (.slice A0 x.seen.length c0) x.seen :: H) Q) : SEM P N k E L (kWindow.own x cs :: H) Q := by
  refine SEM.openWindow_ fun v0 e => ?_
  refine SEM.ownShapeAt 0 rfl fun A0 c0 e0 _ _ _ => ?_
  subst e0
  exact h A0 c0 e
theorem SEM.openRWindow {P : Program} {N : Nat} {k : List It} {E : Env} {L : List Loc} {H : List Assn} {Q : Post} {x : SWindow} {r : Value} (h : ∀ A0 c0, r = .agg (celWindow x (.slice A0 x.seen.length c0)).toArray → SEM P N k E L (OwnS kI (.slice A0 x.seen.length c0) x.seen :: H) Q) : SEM P N k E L (ownR kWindow x r :: H) Q :=
  SEM.openEx fun cs => SEM.openStar (SEM.openFact fun e => SEM.openWindow fun A0 c0 e1 => h A0 c0 (by rw [e, e1]))
theorem rdWindow_open {w : World} {x : SWindow} {cs : List Value} (p : kWindow.rd w x cs) : ∃ A0 c0, cs = celWindow x (.slice A0 x.seen.length c0) ∧ RdS kI w (.slice A0 x.seen.length c0) x.seen := by
  obtain ⟨_, _, rfl, rfl, _, _, rfl, ⟨_, rfl, pseen⟩, rfl⟩ := p
  have h0 := pseen
  obtain ⟨A0, c0, rfl, -⟩ := h0
  exact ⟨_, _, rfl, pseen⟩
theorem rdWindow_shut {w : World} {x : SWindow} {v0 : Value} (p0 : RdS kI w v0 x.seen) : kWindow.rd w x (celWindow x v0) := by
  exact ⟨[.int .i64 x.top], _, rfl, rfl, ⟨[v0], _, rfl, ⟨_, rfl, p0⟩, rfl⟩⟩
def celServer (x : SServer) (v0 : Value) : List Value := [v0, .int .i64 x.sure]
theorem ownServer_open {x : SServer} {cs : List Value} : Ent (kServer.own x cs) (ex fun v0 => star (fact (cs = celServer x v0)) (stars [OwnS kT v0 x.log])) := by
  refine EntH.one ?_
  refine EntH.openEx fun c1 => EntH.openEx fun c2 => EntH.openStar (EntH.openFact fun e0 => EntH.openStar ?_)
  subst e0
  refine EntH.openEx fun q0 => EntH.openStar (EntH.openFact fun e0 => ?_)
  subst e0
  refine EntH.swap ?_
  refine EntH.openEx fun c1 => EntH.openEx fun c2 => EntH.openStar (EntH.openFact fun e0 => EntH.openStar ?_)
  subst e0
  refine EntH.openFact fun e0 => ?_
  subst e0
  refine EntH.openFact fun e0 => ?_
  subst e0
  refine Ent.oex q0 (Ent.ofact rfl ?_)
  refine Ent.pick 0 rfl (Ent.refl _) ?_
  simp only [List.eraseIdx_cons_zero, List.eraseIdx_cons_succ]
  exact Ent.to_emp _
theorem ownServer_shut {x : SServer} {v0 : Value} : Ent (stars [OwnS kT v0 x.log]) (kServer.own x (celServer x v0)) := by
  unfold celServer
  refine ownF_step 1 ?_
  simp only [List.take_succ_cons, List.take_zero, List.drop_succ_cons, List.drop_zero]
  refine Ent.pick 0 rfl (kS_own _ _ _) ?_
  simp only [List.eraseIdx_cons_zero, List.eraseIdx_cons_succ]
  refine ownF_step 1 ?_
  simp only [List.take_succ_cons, List.take_zero, List.drop_succ_cons, List.drop_zero]
  refine Ent.ofact rfl ?_
  exact ent_fact rfl
theorem SEM.openServer_ {P : Program} {N : Nat} {k : List It} {E : Env} {L : List Loc} {H : List Assn} {Q : Post} {x : SServer} {cs : List Value} (h : ∀ v0, cs = celServer x v0 → SEM P N k E L (OwnS kT v0 x.log :: H) Q) : SEM P N k E L (kServer.own x cs :: H) Q :=
  SEM.open1 (SEM.openEx fun v0 => SEM.openStar (SEM.openFact fun e => SEM.split (h v0 e))) ownServer_open
theorem SEM.openServer {P : Program} {N : Nat} {k : List It} {E : Env} {L : List Loc} {H : List Assn} {Q : Post} {x : SServer} {cs : List Value} (h : ∀ A0 c0, cs = celServer x (.slice A0 x.log.length c0) → SEM P N k E L (OwnS kT (.slice A0 x.log.length c0) x.log :: H) Q) : SEM P N k E L (kServer.own x cs :: H) Q := by
  refine SEM.openServer_ fun v0 e => ?_
  refine SEM.ownShapeAt 0 rfl fun A0 c0 e0 _ _ _ => ?_
  subst e0
  exact h A0 c0 e
theorem SEM.openRServer {P : Program} {N : Nat} {k : List It} {E : Env} {L : List Loc} {H : List Assn} {Q : Post} {x : SServer} {r : Value} (h : ∀ A0 c0, r = .agg (celServer x (.slice A0 x.log.length c0)).toArray → SEM P N k E L (OwnS kT (.slice A0 x.log.length c0) x.log :: H) Q) : SEM P N k E L (ownR kServer x r :: H) Q :=
  SEM.openEx fun cs => SEM.openStar (SEM.openFact fun e => SEM.openServer fun A0 c0 e1 => h A0 c0 (by rw [e, e1]))
theorem rdServer_open {w : World} {x : SServer} {cs : List Value} (p : kServer.rd w x cs) : ∃ A0 c0, cs = celServer x (.slice A0 x.log.length c0) ∧ RdS kT w (.slice A0 x.log.length c0) x.log := by
  obtain ⟨_, _, rfl, ⟨_, rfl, plog⟩, _, _, rfl, rfl, rfl⟩ := p
  have h0 := plog
  obtain ⟨A0, c0, rfl, -⟩ := h0
  exact ⟨_, _, rfl, plog⟩
theorem rdServer_shut {w : World} {x : SServer} {v0 : Value} (p0 : RdS kT w v0 x.log) : kServer.rd w x (celServer x v0) := by
  exact ⟨[v0], _, rfl, ⟨_, rfl, p0⟩, ⟨[.int .i64 x.sure], _, rfl, rfl, rfl⟩⟩
def celChain (x : SChain) (v0 v1 v2 : Value) : List Value := [v0, v1, v2]
theorem ownChain_open {x : SChain} {cs : List Value} : Ent (kChain.own x cs) (ex fun v0 => ex fun v1 => ex fun v2 => star (fact (cs = celChain x v0 v1 v2)) (stars [OwnS kServer v0 x.servers, OwnS (kS kT) v1 x.down, OwnS (kS kI) v2 x.up])) := by
  refine EntH.one ?_
  refine EntH.openEx fun c1 => EntH.openEx fun c2 => EntH.openStar (EntH.openFact fun e0 => EntH.openStar ?_)
  subst e0
  refine EntH.openEx fun q0 => EntH.openStar (EntH.openFact fun e0 => ?_)
  subst e0
  refine EntH.swap ?_
  refine EntH.openEx fun c1 => EntH.openEx fun c2 => EntH.openStar (EntH.openFact fun e0 => EntH.openStar ?_)
  subst e0
  refine EntH.openEx fun q1 => EntH.openStar (EntH.openFact fun e0 => ?_)
  subst e0
  refine EntH.swap ?_
  refine EntH.openEx fun c1 => EntH.openEx fun c2 => EntH.openStar (EntH.openFact fun e0 => EntH.openStar ?_)
  subst e0
  refine EntH.openEx fun q2 => EntH.openStar (EntH.openFact fun e0 => ?_)
  subst e0
  refine EntH.swap ?_
  refine EntH.openFact fun e0 => ?_
  subst e0
  refine Ent.oex q0 (Ent.oex q1 (Ent.oex q2 (Ent.ofact rfl ?_)))
  refine Ent.pick 2 rfl (Ent.refl _) ?_
  simp only [List.eraseIdx_cons_zero, List.eraseIdx_cons_succ]
  refine Ent.pick 1 rfl (Ent.refl _) ?_
  simp only [List.eraseIdx_cons_zero, List.eraseIdx_cons_succ]
  refine Ent.pick 0 rfl (Ent.refl _) ?_
  simp only [List.eraseIdx_cons_zero, List.eraseIdx_cons_succ]
  exact Ent.to_emp _
theorem ownChain_shut {x : SChain} {v0 v1 v2 : Value} : Ent (stars [OwnS kServer v0 x.servers, OwnS (kS kT) v1 x.down, OwnS (kS kI) v2 x.up]) (kChain.own x (celChain x v0 v1 v2)) := by
  unfold celChain
  refine ownF_step 1 ?_
  simp only [List.take_succ_cons, List.take_zero, List.drop_succ_cons, List.drop_zero]
  refine Ent.pick 0 rfl (kS_own _ _ _) ?_
  simp only [List.eraseIdx_cons_zero, List.eraseIdx_cons_succ]
  refine ownF_step 1 ?_
  simp only [List.take_succ_cons, List.take_zero, List.drop_succ_cons, List.drop_zero]
  refine Ent.pick 0 rfl (kS_own _ _ _) ?_
  simp only [List.eraseIdx_cons_zero, List.eraseIdx_cons_succ]
  refine ownF_step 1 ?_
  simp only [List.take_succ_cons, List.take_zero, List.drop_succ_cons, List.drop_zero]
  refine Ent.pick 0 rfl (kS_own _ _ _) ?_
  simp only [List.eraseIdx_cons_zero, List.eraseIdx_cons_succ]
  exact ent_fact rfl
theorem SEM.openChain_ {P : Program} {N : Nat} {k : List It} {E : Env} {L : List Loc} {H : List Assn} {Q : Post} {x : SChain} {cs : List Value} (h : ∀ v0 v1 v2, cs = celChain x v0 v1 v2 → SEM P N k E L (OwnS kServer v0 x.servers :: OwnS (kS kT) v1 x.down :: OwnS (kS kI) v2 x.up :: H) Q) : SEM P N k E L (kChain.own x cs :: H) Q :=
  SEM.open1 (SEM.openEx fun v0 => SEM.openEx fun v1 => SEM.openEx fun v2 => SEM.openStar (SEM.openFact fun e => SEM.split (h v0 v1 v2 e))) ownChain_open
theorem SEM.openChain {P : Program} {N : Nat} {k : List It} {E : Env} {L : List Loc} {H : List Assn} {Q : Post} {x : SChain} {cs : List Value} (h : ∀ A0 c0 A1 c1 A2 c2, cs = celChain x (.slice A0 x.servers.length c0) (.slice A1 x.down.length c1) (.slice A2 x.up.length c2) → SEM P N k E L (OwnS kServer (.slice A0 x.servers.length c0) x.servers :: OwnS (kS kT) (.slice A1 x.down.length c1) x.down :: OwnS (kS kI) (.slice A2 x.up.length c2) x.up :: H) Q) : SEM P N k E L (kChain.own x cs :: H) Q := by
  refine SEM.openChain_ fun v0 v1 v2 e => ?_
  refine SEM.ownShapeAt 0 rfl fun A0 c0 e0 _ _ _ => ?_
  subst e0
  refine SEM.ownShapeAt 1 rfl fun A1 c1 e1 _ _ _ => ?_
  subst e1
  refine SEM.ownShapeAt 2 rfl fun A2 c2 e2 _ _ _ => ?_
  subst e2
  exact h A0 c0 A1 c1 A2 c2 e
theorem SEM.openRChain {P : Program} {N : Nat} {k : List It} {E : Env} {L : List Loc} {H : List Assn} {Q : Post} {x : SChain} {r : Value} (h : ∀ A0 c0 A1 c1 A2 c2, r = .agg (celChain x (.slice A0 x.servers.length c0) (.slice A1 x.down.length c1) (.slice A2 x.up.length c2)).toArray → SEM P N k E L (OwnS kServer (.slice A0 x.servers.length c0) x.servers :: OwnS (kS kT) (.slice A1 x.down.length c1) x.down :: OwnS (kS kI) (.slice A2 x.up.length c2) x.up :: H) Q) : SEM P N k E L (ownR kChain x r :: H) Q :=
  SEM.openEx fun cs => SEM.openStar (SEM.openFact fun e => SEM.openChain fun A0 c0 A1 c1 A2 c2 e1 => h A0 c0 A1 c1 A2 c2 (by rw [e, e1]))
theorem rdChain_open {w : World} {x : SChain} {cs : List Value} (p : kChain.rd w x cs) : ∃ A0 c0 A1 c1 A2 c2, cs = celChain x (.slice A0 x.servers.length c0) (.slice A1 x.down.length c1) (.slice A2 x.up.length c2) ∧ RdS kServer w (.slice A0 x.servers.length c0) x.servers ∧ RdS (kS kT) w (.slice A1 x.down.length c1) x.down ∧ RdS (kS kI) w (.slice A2 x.up.length c2) x.up := by
  obtain ⟨_, _, rfl, ⟨_, rfl, pservers⟩, _, _, rfl, ⟨_, rfl, pdown⟩, _, _, rfl, ⟨_, rfl, pup⟩, rfl⟩ := p
  have h0 := pservers
  obtain ⟨A0, c0, rfl, -⟩ := h0
  have h1 := pdown
  obtain ⟨A1, c1, rfl, -⟩ := h1
  have h2 := pup
  obtain ⟨A2, c2, rfl, -⟩ := h2
  exact ⟨_, _, _, _, _, _, rfl, pservers, pdown, pup⟩
theorem rdChain_shut {w : World} {x : SChain} {v0 v1 v2 : Value} (p0 : RdS kServer w v0 x.servers) (p1 : RdS (kS kT) w v1 x.down) (p2 : RdS (kS kI) w v2 x.up) : kChain.rd w x (celChain x v0 v1 v2) := by
  exact ⟨[v0], _, rfl, ⟨_, rfl, p0⟩, ⟨[v1], _, rfl, ⟨_, rfl, p1⟩, ⟨[v2], _, rfl, ⟨_, rfl, p2⟩, rfl⟩⟩⟩
def celSession (x : SSession) (v0 v1 v2 v3 v4 v5 : Value) : List Value := [.int .i64 x.term.grid.cols, v0, .int .i64 x.term.other.cols, v1, .int .i64 x.term.row, .int .i64 x.term.col, .int .i64 x.term.style.fore, .int .i64 x.term.style.back, .bool x.term.style.bold, .bool x.term.style.under, .bool x.term.style.turned, .int .i64 x.term.top, .int .i64 x.term.bottom, .bool x.term.full, .bool x.term.wrap, .bool x.term.away, .bool x.term.hidden, .int .i64 x.term.savedRow, .int .i64 x.term.savedCol, .int .i64 x.term.savedStyle.fore, .int .i64 x.term.savedStyle.back, .bool x.term.savedStyle.bold, .bool x.term.savedStyle.under, .bool x.term.savedStyle.turned, v2, .int .i64 x.term.parser.state, v3, .int .i64 x.term.parser.mark_, v4, .string x.term.feeder.held, .string x.typed, v5, .int .i64 x.count]
theorem ownSession_open {x : SSession} {cs : List Value} : Ent (kSession.own x cs) (ex fun v0 => ex fun v1 => ex fun v2 => ex fun v3 => ex fun v4 => ex fun v5 => star (fact (cs = celSession x v0 v1 v2 v3 v4 v5)) (stars [OwnS (kS kCell) v0 x.term.grid.rows, OwnS (kS kCell) v1 x.term.other.rows, OwnS kI v2 x.term.title, OwnS kI v3 x.term.parser.params, OwnS kI v4 x.term.parser.text_, OwnS kI v5 x.lasts])) := by
  refine EntH.one ?_
  refine EntH.openEx fun c1 => EntH.openEx fun c2 => EntH.openStar (EntH.openFact fun e0 => EntH.openStar ?_)
  subst e0
  refine EntH.openEx fun c1 => EntH.openEx fun c2 => EntH.openStar (EntH.openFact fun e0 => EntH.openStar ?_)
  subst e0
  refine EntH.openEx fun c1 => EntH.openEx fun c2 => EntH.openStar (EntH.openFact fun e0 => EntH.openStar ?_)
  subst e0
  refine EntH.openFact fun e0 => ?_
  subst e0
  refine EntH.openEx fun c1 => EntH.openEx fun c2 => EntH.openStar (EntH.openFact fun e0 => EntH.openStar ?_)
  subst e0
  refine EntH.openEx fun q0 => EntH.openStar (EntH.openFact fun e0 => ?_)
  subst e0
  refine EntH.swap ?_
  refine EntH.openFact fun e0 => ?_
  subst e0
  refine EntH.pull 1 rfl ?_
  simp only [List.eraseIdx_cons_zero, List.eraseIdx_cons_succ]
  refine EntH.openEx fun c1 => EntH.openEx fun c2 => EntH.openStar (EntH.openFact fun e0 => EntH.openStar ?_)
  subst e0
  refine EntH.openEx fun c1 => EntH.openEx fun c2 => EntH.openStar (EntH.openFact fun e0 => EntH.openStar ?_)
  subst e0
  refine EntH.openFact fun e0 => ?_
  subst e0
  refine EntH.openEx fun c1 => EntH.openEx fun c2 => EntH.openStar (EntH.openFact fun e0 => EntH.openStar ?_)
  subst e0
  refine EntH.openEx fun q1 => EntH.openStar (EntH.openFact fun e0 => ?_)
  subst e0
  refine EntH.swap ?_
  refine EntH.openFact fun e0 => ?_
  subst e0
  refine EntH.pull 1 rfl ?_
  simp only [List.eraseIdx_cons_zero, List.eraseIdx_cons_succ]
  refine EntH.openEx fun c1 => EntH.openEx fun c2 => EntH.openStar (EntH.openFact fun e0 => EntH.openStar ?_)
  subst e0
  refine EntH.openFact fun e0 => ?_
  subst e0
  refine EntH.openEx fun c1 => EntH.openEx fun c2 => EntH.openStar (EntH.openFact fun e0 => EntH.openStar ?_)
  subst e0
  refine EntH.openFact fun e0 => ?_
  subst e0
  refine EntH.openEx fun c1 => EntH.openEx fun c2 => EntH.openStar (EntH.openFact fun e0 => EntH.openStar ?_)
  subst e0
  refine EntH.openFact fun e0 => ?_
  subst e0
  refine EntH.openEx fun c1 => EntH.openEx fun c2 => EntH.openStar (EntH.openFact fun e0 => EntH.openStar ?_)
  subst e0
  refine EntH.openFact fun e0 => ?_
  subst e0
  refine EntH.openEx fun c1 => EntH.openEx fun c2 => EntH.openStar (EntH.openFact fun e0 => EntH.openStar ?_)
  subst e0
  refine EntH.openFact fun e0 => ?_
  subst e0
  refine EntH.openEx fun c1 => EntH.openEx fun c2 => EntH.openStar (EntH.openFact fun e0 => EntH.openStar ?_)
  subst e0
  refine EntH.openFact fun e0 => ?_
  subst e0
  refine EntH.openEx fun c1 => EntH.openEx fun c2 => EntH.openStar (EntH.openFact fun e0 => EntH.openStar ?_)
  subst e0
  refine EntH.openFact fun e0 => ?_
  subst e0
  refine EntH.openEx fun c1 => EntH.openEx fun c2 => EntH.openStar (EntH.openFact fun e0 => EntH.openStar ?_)
  subst e0
  refine EntH.openFact fun e0 => ?_
  subst e0
  refine EntH.openEx fun c1 => EntH.openEx fun c2 => EntH.openStar (EntH.openFact fun e0 => EntH.openStar ?_)
  subst e0
  refine EntH.openFact fun e0 => ?_
  subst e0
  refine EntH.openEx fun c1 => EntH.openEx fun c2 => EntH.openStar (EntH.openFact fun e0 => EntH.openStar ?_)
  subst e0
  refine EntH.openFact fun e0 => ?_
  subst e0
  refine EntH.openEx fun c1 => EntH.openEx fun c2 => EntH.openStar (EntH.openFact fun e0 => EntH.openStar ?_)
  subst e0
  refine EntH.openFact fun e0 => ?_
  subst e0
  refine EntH.openEx fun c1 => EntH.openEx fun c2 => EntH.openStar (EntH.openFact fun e0 => EntH.openStar ?_)
  subst e0
  refine EntH.openFact fun e0 => ?_
  subst e0
  refine EntH.openEx fun c1 => EntH.openEx fun c2 => EntH.openStar (EntH.openFact fun e0 => EntH.openStar ?_)
  subst e0
  refine EntH.openEx fun q2 => EntH.openStar (EntH.openFact fun e0 => ?_)
  subst e0
  refine EntH.swap ?_
  refine EntH.openEx fun c1 => EntH.openEx fun c2 => EntH.openStar (EntH.openFact fun e0 => EntH.openStar ?_)
  subst e0
  refine EntH.openEx fun c1 => EntH.openEx fun c2 => EntH.openStar (EntH.openFact fun e0 => EntH.openStar ?_)
  subst e0
  refine EntH.openFact fun e0 => ?_
  subst e0
  refine EntH.openEx fun c1 => EntH.openEx fun c2 => EntH.openStar (EntH.openFact fun e0 => EntH.openStar ?_)
  subst e0
  refine EntH.openEx fun q3 => EntH.openStar (EntH.openFact fun e0 => ?_)
  subst e0
  refine EntH.swap ?_
  refine EntH.openEx fun c1 => EntH.openEx fun c2 => EntH.openStar (EntH.openFact fun e0 => EntH.openStar ?_)
  subst e0
  refine EntH.openFact fun e0 => ?_
  subst e0
  refine EntH.openEx fun c1 => EntH.openEx fun c2 => EntH.openStar (EntH.openFact fun e0 => EntH.openStar ?_)
  subst e0
  refine EntH.openEx fun q4 => EntH.openStar (EntH.openFact fun e0 => ?_)
  subst e0
  refine EntH.swap ?_
  refine EntH.openFact fun e0 => ?_
  subst e0
  refine EntH.pull 2 rfl ?_
  simp only [List.eraseIdx_cons_zero, List.eraseIdx_cons_succ]
  refine EntH.openEx fun c1 => EntH.openEx fun c2 => EntH.openStar (EntH.openFact fun e0 => EntH.openStar ?_)
  subst e0
  refine EntH.openFact fun e0 => ?_
  subst e0
  refine EntH.openFact fun e0 => ?_
  subst e0
  refine EntH.pull 5 rfl ?_
  simp only [List.eraseIdx_cons_zero, List.eraseIdx_cons_succ]
  refine EntH.openEx fun c1 => EntH.openEx fun c2 => EntH.openStar (EntH.openFact fun e0 => EntH.openStar ?_)
  subst e0
  refine EntH.openFact fun e0 => ?_
  subst e0
  refine EntH.openEx fun c1 => EntH.openEx fun c2 => EntH.openStar (EntH.openFact fun e0 => EntH.openStar ?_)
  subst e0
  refine EntH.openEx fun q5 => EntH.openStar (EntH.openFact fun e0 => ?_)
  subst e0
  refine EntH.swap ?_
  refine EntH.openEx fun c1 => EntH.openEx fun c2 => EntH.openStar (EntH.openFact fun e0 => EntH.openStar ?_)
  subst e0
  refine EntH.openFact fun e0 => ?_
  subst e0
  refine EntH.openFact fun e0 => ?_
  subst e0
  refine Ent.oex q0 (Ent.oex q1 (Ent.oex q2 (Ent.oex q3 (Ent.oex q4 (Ent.oex q5 (Ent.ofact rfl ?_))))))
  refine Ent.pick 5 rfl (Ent.refl _) ?_
  simp only [List.eraseIdx_cons_zero, List.eraseIdx_cons_succ]
  refine Ent.pick 4 rfl (Ent.refl _) ?_
  simp only [List.eraseIdx_cons_zero, List.eraseIdx_cons_succ]
  refine Ent.pick 3 rfl (Ent.refl _) ?_
  simp only [List.eraseIdx_cons_zero, List.eraseIdx_cons_succ]
  refine Ent.pick 2 rfl (Ent.refl _) ?_
  simp only [List.eraseIdx_cons_zero, List.eraseIdx_cons_succ]
  refine Ent.pick 1 rfl (Ent.refl _) ?_
  simp only [List.eraseIdx_cons_zero, List.eraseIdx_cons_succ]
  refine Ent.pick 0 rfl (Ent.refl _) ?_
  simp only [List.eraseIdx_cons_zero, List.eraseIdx_cons_succ]
  exact Ent.to_emp _
theorem ownSession_shut {x : SSession} {v0 v1 v2 v3 v4 v5 : Value} : Ent (stars [OwnS (kS kCell) v0 x.term.grid.rows, OwnS (kS kCell) v1 x.term.other.rows, OwnS kI v2 x.term.title, OwnS kI v3 x.term.parser.params, OwnS kI v4 x.term.parser.text_, OwnS kI v5 x.lasts]) (kSession.own x (celSession x v0 v1 v2 v3 v4 v5)) := by
  unfold celSession
  refine ownF_step 30 ?_
  simp only [List.take_succ_cons, List.take_zero, List.drop_succ_cons, List.drop_zero]
  refine ownF_stepL 2 ?_
  simp only [List.take_succ_cons, List.take_zero, List.drop_succ_cons, List.drop_zero]
  refine ownF_stepL 1 ?_
  simp only [List.take_succ_cons, List.take_zero, List.drop_succ_cons, List.drop_zero]
  refine Ent.ofact rfl ?_
  refine ownF_stepL 1 ?_
  simp only [List.take_succ_cons, List.take_zero, List.drop_succ_cons, List.drop_zero]
  refine Ent.pick 0 rfl (kS_own _ _ _) ?_
  simp only [List.eraseIdx_cons_zero, List.eraseIdx_cons_succ]
  refine Ent.ofact rfl ?_
  refine ownF_stepL 2 ?_
  simp only [List.take_succ_cons, List.take_zero, List.drop_succ_cons, List.drop_zero]
  refine ownF_stepL 1 ?_
  simp only [List.take_succ_cons, List.take_zero, List.drop_succ_cons, List.drop_zero]
  refine Ent.ofact rfl ?_
  refine ownF_stepL 1 ?_
  simp only [List.take_succ_cons, List.take_zero, List.drop_succ_cons, List.drop_zero]
  refine Ent.pick 0 rfl (kS_own _ _ _) ?_
  simp only [List.eraseIdx_cons_zero, List.eraseIdx_cons_succ]
  refine Ent.ofact rfl ?_
  refine ownF_stepL 1 ?_
  simp only [List.take_succ_cons, List.take_zero, List.drop_succ_cons, List.drop_zero]
  refine Ent.ofact rfl ?_
  refine ownF_stepL 1 ?_
  simp only [List.take_succ_cons, List.take_zero, List.drop_succ_cons, List.drop_zero]
  refine Ent.ofact rfl ?_
  refine ownF_stepL 5 ?_
  simp only [List.take_succ_cons, List.take_zero, List.drop_succ_cons, List.drop_zero]
  refine Ent.ofact rfl ?_
  refine ownF_stepL 1 ?_
  simp only [List.take_succ_cons, List.take_zero, List.drop_succ_cons, List.drop_zero]
  refine Ent.ofact rfl ?_
  refine ownF_stepL 1 ?_
  simp only [List.take_succ_cons, List.take_zero, List.drop_succ_cons, List.drop_zero]
  refine Ent.ofact rfl ?_
  refine ownF_stepL 1 ?_
  simp only [List.take_succ_cons, List.take_zero, List.drop_succ_cons, List.drop_zero]
  refine Ent.ofact rfl ?_
  refine ownF_stepL 1 ?_
  simp only [List.take_succ_cons, List.take_zero, List.drop_succ_cons, List.drop_zero]
  refine Ent.ofact rfl ?_
  refine ownF_stepL 1 ?_
  simp only [List.take_succ_cons, List.take_zero, List.drop_succ_cons, List.drop_zero]
  refine Ent.ofact rfl ?_
  refine ownF_stepL 1 ?_
  simp only [List.take_succ_cons, List.take_zero, List.drop_succ_cons, List.drop_zero]
  refine Ent.ofact rfl ?_
  refine ownF_stepL 1 ?_
  simp only [List.take_succ_cons, List.take_zero, List.drop_succ_cons, List.drop_zero]
  refine Ent.ofact rfl ?_
  refine ownF_stepL 1 ?_
  simp only [List.take_succ_cons, List.take_zero, List.drop_succ_cons, List.drop_zero]
  refine Ent.ofact rfl ?_
  refine ownF_stepL 5 ?_
  simp only [List.take_succ_cons, List.take_zero, List.drop_succ_cons, List.drop_zero]
  refine Ent.ofact rfl ?_
  refine ownF_stepL 1 ?_
  simp only [List.take_succ_cons, List.take_zero, List.drop_succ_cons, List.drop_zero]
  refine Ent.pick 0 rfl (kS_own _ _ _) ?_
  simp only [List.eraseIdx_cons_zero, List.eraseIdx_cons_succ]
  refine ownF_stepL 4 ?_
  simp only [List.take_succ_cons, List.take_zero, List.drop_succ_cons, List.drop_zero]
  refine ownF_stepL 1 ?_
  simp only [List.take_succ_cons, List.take_zero, List.drop_succ_cons, List.drop_zero]
  refine Ent.ofact rfl ?_
  refine ownF_stepL 1 ?_
  simp only [List.take_succ_cons, List.take_zero, List.drop_succ_cons, List.drop_zero]
  refine Ent.pick 0 rfl (kS_own _ _ _) ?_
  simp only [List.eraseIdx_cons_zero, List.eraseIdx_cons_succ]
  refine ownF_stepL 1 ?_
  simp only [List.take_succ_cons, List.take_zero, List.drop_succ_cons, List.drop_zero]
  refine Ent.ofact rfl ?_
  refine ownF_stepL 1 ?_
  simp only [List.take_succ_cons, List.take_zero, List.drop_succ_cons, List.drop_zero]
  refine Ent.pick 0 rfl (kS_own _ _ _) ?_
  simp only [List.eraseIdx_cons_zero, List.eraseIdx_cons_succ]
  refine Ent.ofact rfl ?_
  refine ownF_stepL 1 ?_
  simp only [List.take_succ_cons, List.take_zero, List.drop_succ_cons, List.drop_zero]
  refine Ent.ofact rfl ?_
  refine Ent.ofact rfl ?_
  refine ownF_step 1 ?_
  simp only [List.take_succ_cons, List.take_zero, List.drop_succ_cons, List.drop_zero]
  refine Ent.ofact rfl ?_
  refine ownF_step 1 ?_
  simp only [List.take_succ_cons, List.take_zero, List.drop_succ_cons, List.drop_zero]
  refine Ent.pick 0 rfl (kS_own _ _ _) ?_
  simp only [List.eraseIdx_cons_zero, List.eraseIdx_cons_succ]
  refine ownF_step 1 ?_
  simp only [List.take_succ_cons, List.take_zero, List.drop_succ_cons, List.drop_zero]
  refine Ent.ofact rfl ?_
  exact ent_fact rfl
theorem SEM.openSession_ {P : Program} {N : Nat} {k : List It} {E : Env} {L : List Loc} {H : List Assn} {Q : Post} {x : SSession} {cs : List Value} (h : ∀ v0 v1 v2 v3 v4 v5, cs = celSession x v0 v1 v2 v3 v4 v5 → SEM P N k E L (OwnS (kS kCell) v0 x.term.grid.rows :: OwnS (kS kCell) v1 x.term.other.rows :: OwnS kI v2 x.term.title :: OwnS kI v3 x.term.parser.params :: OwnS kI v4 x.term.parser.text_ :: OwnS kI v5 x.lasts :: H) Q) : SEM P N k E L (kSession.own x cs :: H) Q :=
  SEM.open1 (SEM.openEx fun v0 => SEM.openEx fun v1 => SEM.openEx fun v2 => SEM.openEx fun v3 => SEM.openEx fun v4 => SEM.openEx fun v5 => SEM.openStar (SEM.openFact fun e => SEM.split (h v0 v1 v2 v3 v4 v5 e))) ownSession_open
theorem SEM.openSession {P : Program} {N : Nat} {k : List It} {E : Env} {L : List Loc} {H : List Assn} {Q : Post} {x : SSession} {cs : List Value} (h : ∀ A0 c0 A1 c1 A2 c2 A3 c3 A4 c4 A5 c5, cs = celSession x (.slice A0 x.term.grid.rows.length c0) (.slice A1 x.term.other.rows.length c1) (.slice A2 x.term.title.length c2) (.slice A3 x.term.parser.params.length c3) (.slice A4 x.term.parser.text_.length c4) (.slice A5 x.lasts.length c5) → SEM P N k E L (OwnS (kS kCell) (.slice A0 x.term.grid.rows.length c0) x.term.grid.rows :: OwnS (kS kCell) (.slice A1 x.term.other.rows.length c1) x.term.other.rows :: OwnS kI (.slice A2 x.term.title.length c2) x.term.title :: OwnS kI (.slice A3 x.term.parser.params.length c3) x.term.parser.params :: OwnS kI (.slice A4 x.term.parser.text_.length c4) x.term.parser.text_ :: OwnS kI (.slice A5 x.lasts.length c5) x.lasts :: H) Q) : SEM P N k E L (kSession.own x cs :: H) Q := by
  refine SEM.openSession_ fun v0 v1 v2 v3 v4 v5 e => ?_
  refine SEM.ownShapeAt 0 rfl fun A0 c0 e0 _ _ _ => ?_
  subst e0
  refine SEM.ownShapeAt 1 rfl fun A1 c1 e1 _ _ _ => ?_
  subst e1
  refine SEM.ownShapeAt 2 rfl fun A2 c2 e2 _ _ _ => ?_
  subst e2
  refine SEM.ownShapeAt 3 rfl fun A3 c3 e3 _ _ _ => ?_
  subst e3
  refine SEM.ownShapeAt 4 rfl fun A4 c4 e4 _ _ _ => ?_
  subst e4
  refine SEM.ownShapeAt 5 rfl fun A5 c5 e5 _ _ _ => ?_
  subst e5
  exact h A0 c0 A1 c1 A2 c2 A3 c3 A4 c4 A5 c5 e
theorem SEM.openRSession {P : Program} {N : Nat} {k : List It} {E : Env} {L : List Loc} {H : List Assn} {Q : Post} {x : SSession} {r : Value} (h : ∀ A0 c0 A1 c1 A2 c2 A3 c3 A4 c4 A5 c5, r = .agg (celSession x (.slice A0 x.term.grid.rows.length c0) (.slice A1 x.term.other.rows.length c1) (.slice A2 x.term.title.length c2) (.slice A3 x.term.parser.params.length c3) (.slice A4 x.term.parser.text_.length c4) (.slice A5 x.lasts.length c5)).toArray → SEM P N k E L (OwnS (kS kCell) (.slice A0 x.term.grid.rows.length c0) x.term.grid.rows :: OwnS (kS kCell) (.slice A1 x.term.other.rows.length c1) x.term.other.rows :: OwnS kI (.slice A2 x.term.title.length c2) x.term.title :: OwnS kI (.slice A3 x.term.parser.params.length c3) x.term.parser.params :: OwnS kI (.slice A4 x.term.parser.text_.length c4) x.term.parser.text_ :: OwnS kI (.slice A5 x.lasts.length c5) x.lasts :: H) Q) : SEM P N k E L (ownR kSession x r :: H) Q :=
  SEM.openEx fun cs => SEM.openStar (SEM.openFact fun e => SEM.openSession fun A0 c0 A1 c1 A2 c2 A3 c3 A4 c4 A5 c5 e1 => h A0 c0 A1 c1 A2 c2 A3 c3 A4 c4 A5 c5 (by rw [e, e1]))
theorem rdSession_open {w : World} {x : SSession} {cs : List Value} (p : kSession.rd w x cs) : ∃ A0 c0 A1 c1 A2 c2 A3 c3 A4 c4 A5 c5, cs = celSession x (.slice A0 x.term.grid.rows.length c0) (.slice A1 x.term.other.rows.length c1) (.slice A2 x.term.title.length c2) (.slice A3 x.term.parser.params.length c3) (.slice A4 x.term.parser.text_.length c4) (.slice A5 x.lasts.length c5) ∧ RdS (kS kCell) w (.slice A0 x.term.grid.rows.length c0) x.term.grid.rows ∧ RdS (kS kCell) w (.slice A1 x.term.other.rows.length c1) x.term.other.rows ∧ RdS kI w (.slice A2 x.term.title.length c2) x.term.title ∧ RdS kI w (.slice A3 x.term.parser.params.length c3) x.term.parser.params ∧ RdS kI w (.slice A4 x.term.parser.text_.length c4) x.term.parser.text_ ∧ RdS kI w (.slice A5 x.lasts.length c5) x.lasts := by
  obtain ⟨_, _, rfl, pterm, _, _, rfl, rfl, _, _, rfl, ⟨_, rfl, plasts⟩, _, _, rfl, rfl, rfl⟩ := p
  have pterm_ := pterm
  obtain ⟨_, _, rfl, ptermgrid, _, _, rfl, ptermother, _, _, rfl, rfl, _, _, rfl, rfl, _, _, rfl, rfl, _, _, rfl, rfl, _, _, rfl, rfl, _, _, rfl, rfl, _, _, rfl, rfl, _, _, rfl, rfl, _, _, rfl, rfl, _, _, rfl, rfl, _, _, rfl, rfl, _, _, rfl, rfl, _, _, rfl, ⟨_, rfl, ptermtitle⟩, _, _, rfl, ptermparser, _, _, rfl, rfl, rfl⟩ := pterm
  have ptermgrid_ := ptermgrid
  obtain ⟨_, _, rfl, rfl, _, _, rfl, ⟨_, rfl, ptermgridrows⟩, rfl⟩ := ptermgrid
  have ptermother_ := ptermother
  obtain ⟨_, _, rfl, rfl, _, _, rfl, ⟨_, rfl, ptermotherrows⟩, rfl⟩ := ptermother
  have ptermparser_ := ptermparser
  obtain ⟨_, _, rfl, rfl, _, _, rfl, ⟨_, rfl, ptermparserparams⟩, _, _, rfl, rfl, _, _, rfl, ⟨_, rfl, ptermparsertext_⟩, rfl⟩ := ptermparser
  have h0 := ptermgridrows
  obtain ⟨A0, c0, rfl, -⟩ := h0
  have h1 := ptermotherrows
  obtain ⟨A1, c1, rfl, -⟩ := h1
  have h2 := ptermtitle
  obtain ⟨A2, c2, rfl, -⟩ := h2
  have h3 := ptermparserparams
  obtain ⟨A3, c3, rfl, -⟩ := h3
  have h4 := ptermparsertext_
  obtain ⟨A4, c4, rfl, -⟩ := h4
  have h5 := plasts
  obtain ⟨A5, c5, rfl, -⟩ := h5
  exact ⟨_, _, _, _, _, _, _, _, _, _, _, _, rfl, ptermgridrows, ptermotherrows, ptermtitle, ptermparserparams, ptermparsertext_, plasts⟩
theorem rdSession_shut {w : World} {x : SSession} {v0 v1 v2 v3 v4 v5 : Value} (p0 : RdS (kS kCell) w v0 x.term.grid.rows) (p1 : RdS (kS kCell) w v1 x.term.other.rows) (p2 : RdS kI w v2 x.term.title) (p3 : RdS kI w v3 x.term.parser.params) (p4 : RdS kI w v4 x.term.parser.text_) (p5 : RdS kI w v5 x.lasts) : kSession.rd w x (celSession x v0 v1 v2 v3 v4 v5) := by
  exact ⟨[.int .i64 x.term.grid.cols, v0, .int .i64 x.term.other.cols, v1, .int .i64 x.term.row, .int .i64 x.term.col, .int .i64 x.term.style.fore, .int .i64 x.term.style.back, .bool x.term.style.bold, .bool x.term.style.under, .bool x.term.style.turned, .int .i64 x.term.top, .int .i64 x.term.bottom, .bool x.term.full, .bool x.term.wrap, .bool x.term.away, .bool x.term.hidden, .int .i64 x.term.savedRow, .int .i64 x.term.savedCol, .int .i64 x.term.savedStyle.fore, .int .i64 x.term.savedStyle.back, .bool x.term.savedStyle.bold, .bool x.term.savedStyle.under, .bool x.term.savedStyle.turned, v2, .int .i64 x.term.parser.state, v3, .int .i64 x.term.parser.mark_, v4, .string x.term.feeder.held], _, rfl, ⟨[.int .i64 x.term.grid.cols, v0], _, rfl, ⟨[.int .i64 x.term.grid.cols], _, rfl, rfl, ⟨[v0], _, rfl, ⟨_, rfl, p0⟩, rfl⟩⟩, ⟨[.int .i64 x.term.other.cols, v1], _, rfl, ⟨[.int .i64 x.term.other.cols], _, rfl, rfl, ⟨[v1], _, rfl, ⟨_, rfl, p1⟩, rfl⟩⟩, ⟨[.int .i64 x.term.row], _, rfl, rfl, ⟨[.int .i64 x.term.col], _, rfl, rfl, ⟨[.int .i64 x.term.style.fore, .int .i64 x.term.style.back, .bool x.term.style.bold, .bool x.term.style.under, .bool x.term.style.turned], _, rfl, rfl, ⟨[.int .i64 x.term.top], _, rfl, rfl, ⟨[.int .i64 x.term.bottom], _, rfl, rfl, ⟨[.bool x.term.full], _, rfl, rfl, ⟨[.bool x.term.wrap], _, rfl, rfl, ⟨[.bool x.term.away], _, rfl, rfl, ⟨[.bool x.term.hidden], _, rfl, rfl, ⟨[.int .i64 x.term.savedRow], _, rfl, rfl, ⟨[.int .i64 x.term.savedCol], _, rfl, rfl, ⟨[.int .i64 x.term.savedStyle.fore, .int .i64 x.term.savedStyle.back, .bool x.term.savedStyle.bold, .bool x.term.savedStyle.under, .bool x.term.savedStyle.turned], _, rfl, rfl, ⟨[v2], _, rfl, ⟨_, rfl, p2⟩, ⟨[.int .i64 x.term.parser.state, v3, .int .i64 x.term.parser.mark_, v4], _, rfl, ⟨[.int .i64 x.term.parser.state], _, rfl, rfl, ⟨[v3], _, rfl, ⟨_, rfl, p3⟩, ⟨[.int .i64 x.term.parser.mark_], _, rfl, rfl, ⟨[v4], _, rfl, ⟨_, rfl, p4⟩, rfl⟩⟩⟩⟩, ⟨[.string x.term.feeder.held], _, rfl, rfl, rfl⟩⟩⟩⟩⟩⟩⟩⟩⟩⟩⟩⟩⟩⟩⟩⟩⟩, ⟨[.string x.typed], _, rfl, rfl, ⟨[v5], _, rfl, ⟨_, rfl, p5⟩, ⟨[.int .i64 x.count], _, rfl, rfl, rfl⟩⟩⟩⟩
def celClient (x : SClient) (v0 v1 v2 : Value) : List Value := [.int .i64 x.id, v0, .int .i64 x.first, .int .i64 x.screen.cols, v1, .int .i64 x.number, .int .i64 x.window.top, v2, .int .i64 x.sends]
theorem ownClient_open {x : SClient} {cs : List Value} : Ent (kClient.own x cs) (ex fun v0 => ex fun v1 => ex fun v2 => star (fact (cs = celClient x v0 v1 v2)) (stars [OwnS kT v0 x.queue, OwnS (kS kCell) v1 x.screen.rows, OwnS kI v2 x.window.seen])) := by
  refine EntH.one ?_
  refine EntH.openEx fun c1 => EntH.openEx fun c2 => EntH.openStar (EntH.openFact fun e0 => EntH.openStar ?_)
  subst e0
  refine EntH.openFact fun e0 => ?_
  subst e0
  refine EntH.openEx fun c1 => EntH.openEx fun c2 => EntH.openStar (EntH.openFact fun e0 => EntH.openStar ?_)
  subst e0
  refine EntH.openEx fun q0 => EntH.openStar (EntH.openFact fun e0 => ?_)
  subst e0
  refine EntH.swap ?_
  refine EntH.openEx fun c1 => EntH.openEx fun c2 => EntH.openStar (EntH.openFact fun e0 => EntH.openStar ?_)
  subst e0
  refine EntH.openFact fun e0 => ?_
  subst e0
  refine EntH.openEx fun c1 => EntH.openEx fun c2 => EntH.openStar (EntH.openFact fun e0 => EntH.openStar ?_)
  subst e0
  refine EntH.openEx fun c1 => EntH.openEx fun c2 => EntH.openStar (EntH.openFact fun e0 => EntH.openStar ?_)
  subst e0
  refine EntH.openFact fun e0 => ?_
  subst e0
  refine EntH.openEx fun c1 => EntH.openEx fun c2 => EntH.openStar (EntH.openFact fun e0 => EntH.openStar ?_)
  subst e0
  refine EntH.openEx fun q1 => EntH.openStar (EntH.openFact fun e0 => ?_)
  subst e0
  refine EntH.swap ?_
  refine EntH.openFact fun e0 => ?_
  subst e0
  refine EntH.pull 1 rfl ?_
  simp only [List.eraseIdx_cons_zero, List.eraseIdx_cons_succ]
  refine EntH.openEx fun c1 => EntH.openEx fun c2 => EntH.openStar (EntH.openFact fun e0 => EntH.openStar ?_)
  subst e0
  refine EntH.openFact fun e0 => ?_
  subst e0
  refine EntH.openEx fun c1 => EntH.openEx fun c2 => EntH.openStar (EntH.openFact fun e0 => EntH.openStar ?_)
  subst e0
  refine EntH.openEx fun c1 => EntH.openEx fun c2 => EntH.openStar (EntH.openFact fun e0 => EntH.openStar ?_)
  subst e0
  refine EntH.openFact fun e0 => ?_
  subst e0
  refine EntH.openEx fun c1 => EntH.openEx fun c2 => EntH.openStar (EntH.openFact fun e0 => EntH.openStar ?_)
  subst e0
  refine EntH.openEx fun q2 => EntH.openStar (EntH.openFact fun e0 => ?_)
  subst e0
  refine EntH.swap ?_
  refine EntH.openFact fun e0 => ?_
  subst e0
  refine EntH.pull 1 rfl ?_
  simp only [List.eraseIdx_cons_zero, List.eraseIdx_cons_succ]
  refine EntH.openEx fun c1 => EntH.openEx fun c2 => EntH.openStar (EntH.openFact fun e0 => EntH.openStar ?_)
  subst e0
  refine EntH.openFact fun e0 => ?_
  subst e0
  refine EntH.openFact fun e0 => ?_
  subst e0
  refine Ent.oex q0 (Ent.oex q1 (Ent.oex q2 (Ent.ofact rfl ?_)))
  refine Ent.pick 2 rfl (Ent.refl _) ?_
  simp only [List.eraseIdx_cons_zero, List.eraseIdx_cons_succ]
  refine Ent.pick 1 rfl (Ent.refl _) ?_
  simp only [List.eraseIdx_cons_zero, List.eraseIdx_cons_succ]
  refine Ent.pick 0 rfl (Ent.refl _) ?_
  simp only [List.eraseIdx_cons_zero, List.eraseIdx_cons_succ]
  exact Ent.to_emp _
theorem ownClient_shut {x : SClient} {v0 v1 v2 : Value} : Ent (stars [OwnS kT v0 x.queue, OwnS (kS kCell) v1 x.screen.rows, OwnS kI v2 x.window.seen]) (kClient.own x (celClient x v0 v1 v2)) := by
  unfold celClient
  refine ownF_step 1 ?_
  simp only [List.take_succ_cons, List.take_zero, List.drop_succ_cons, List.drop_zero]
  refine Ent.ofact rfl ?_
  refine ownF_step 1 ?_
  simp only [List.take_succ_cons, List.take_zero, List.drop_succ_cons, List.drop_zero]
  refine Ent.pick 0 rfl (kS_own _ _ _) ?_
  simp only [List.eraseIdx_cons_zero, List.eraseIdx_cons_succ]
  refine ownF_step 1 ?_
  simp only [List.take_succ_cons, List.take_zero, List.drop_succ_cons, List.drop_zero]
  refine Ent.ofact rfl ?_
  refine ownF_step 2 ?_
  simp only [List.take_succ_cons, List.take_zero, List.drop_succ_cons, List.drop_zero]
  refine ownF_stepL 1 ?_
  simp only [List.take_succ_cons, List.take_zero, List.drop_succ_cons, List.drop_zero]
  refine Ent.ofact rfl ?_
  refine ownF_stepL 1 ?_
  simp only [List.take_succ_cons, List.take_zero, List.drop_succ_cons, List.drop_zero]
  refine Ent.pick 0 rfl (kS_own _ _ _) ?_
  simp only [List.eraseIdx_cons_zero, List.eraseIdx_cons_succ]
  refine Ent.ofact rfl ?_
  refine ownF_step 1 ?_
  simp only [List.take_succ_cons, List.take_zero, List.drop_succ_cons, List.drop_zero]
  refine Ent.ofact rfl ?_
  refine ownF_step 2 ?_
  simp only [List.take_succ_cons, List.take_zero, List.drop_succ_cons, List.drop_zero]
  refine ownF_stepL 1 ?_
  simp only [List.take_succ_cons, List.take_zero, List.drop_succ_cons, List.drop_zero]
  refine Ent.ofact rfl ?_
  refine ownF_stepL 1 ?_
  simp only [List.take_succ_cons, List.take_zero, List.drop_succ_cons, List.drop_zero]
  refine Ent.pick 0 rfl (kS_own _ _ _) ?_
  simp only [List.eraseIdx_cons_zero, List.eraseIdx_cons_succ]
  refine Ent.ofact rfl ?_
  refine ownF_step 1 ?_
  simp only [List.take_succ_cons, List.take_zero, List.drop_succ_cons, List.drop_zero]
  refine Ent.ofact rfl ?_
  exact ent_fact rfl
theorem SEM.openClient_ {P : Program} {N : Nat} {k : List It} {E : Env} {L : List Loc} {H : List Assn} {Q : Post} {x : SClient} {cs : List Value} (h : ∀ v0 v1 v2, cs = celClient x v0 v1 v2 → SEM P N k E L (OwnS kT v0 x.queue :: OwnS (kS kCell) v1 x.screen.rows :: OwnS kI v2 x.window.seen :: H) Q) : SEM P N k E L (kClient.own x cs :: H) Q :=
  SEM.open1 (SEM.openEx fun v0 => SEM.openEx fun v1 => SEM.openEx fun v2 => SEM.openStar (SEM.openFact fun e => SEM.split (h v0 v1 v2 e))) ownClient_open
theorem SEM.openClient {P : Program} {N : Nat} {k : List It} {E : Env} {L : List Loc} {H : List Assn} {Q : Post} {x : SClient} {cs : List Value} (h : ∀ A0 c0 A1 c1 A2 c2, cs = celClient x (.slice A0 x.queue.length c0) (.slice A1 x.screen.rows.length c1) (.slice A2 x.window.seen.length c2) → SEM P N k E L (OwnS kT (.slice A0 x.queue.length c0) x.queue :: OwnS (kS kCell) (.slice A1 x.screen.rows.length c1) x.screen.rows :: OwnS kI (.slice A2 x.window.seen.length c2) x.window.seen :: H) Q) : SEM P N k E L (kClient.own x cs :: H) Q := by
  refine SEM.openClient_ fun v0 v1 v2 e => ?_
  refine SEM.ownShapeAt 0 rfl fun A0 c0 e0 _ _ _ => ?_
  subst e0
  refine SEM.ownShapeAt 1 rfl fun A1 c1 e1 _ _ _ => ?_
  subst e1
  refine SEM.ownShapeAt 2 rfl fun A2 c2 e2 _ _ _ => ?_
  subst e2
  exact h A0 c0 A1 c1 A2 c2 e
theorem SEM.openRClient {P : Program} {N : Nat} {k : List It} {E : Env} {L : List Loc} {H : List Assn} {Q : Post} {x : SClient} {r : Value} (h : ∀ A0 c0 A1 c1 A2 c2, r = .agg (celClient x (.slice A0 x.queue.length c0) (.slice A1 x.screen.rows.length c1) (.slice A2 x.window.seen.length c2)).toArray → SEM P N k E L (OwnS kT (.slice A0 x.queue.length c0) x.queue :: OwnS (kS kCell) (.slice A1 x.screen.rows.length c1) x.screen.rows :: OwnS kI (.slice A2 x.window.seen.length c2) x.window.seen :: H) Q) : SEM P N k E L (ownR kClient x r :: H) Q :=
  SEM.openEx fun cs => SEM.openStar (SEM.openFact fun e => SEM.openClient fun A0 c0 A1 c1 A2 c2 e1 => h A0 c0 A1 c1 A2 c2 (by rw [e, e1]))
theorem rdClient_open {w : World} {x : SClient} {cs : List Value} (p : kClient.rd w x cs) : ∃ A0 c0 A1 c1 A2 c2, cs = celClient x (.slice A0 x.queue.length c0) (.slice A1 x.screen.rows.length c1) (.slice A2 x.window.seen.length c2) ∧ RdS kT w (.slice A0 x.queue.length c0) x.queue ∧ RdS (kS kCell) w (.slice A1 x.screen.rows.length c1) x.screen.rows ∧ RdS kI w (.slice A2 x.window.seen.length c2) x.window.seen := by
  obtain ⟨_, _, rfl, rfl, _, _, rfl, ⟨_, rfl, pqueue⟩, _, _, rfl, rfl, _, _, rfl, pscreen, _, _, rfl, rfl, _, _, rfl, pwindow, _, _, rfl, rfl, rfl⟩ := p
  have pscreen_ := pscreen
  obtain ⟨_, _, rfl, rfl, _, _, rfl, ⟨_, rfl, pscreenrows⟩, rfl⟩ := pscreen
  have pwindow_ := pwindow
  obtain ⟨_, _, rfl, rfl, _, _, rfl, ⟨_, rfl, pwindowseen⟩, rfl⟩ := pwindow
  have h0 := pqueue
  obtain ⟨A0, c0, rfl, -⟩ := h0
  have h1 := pscreenrows
  obtain ⟨A1, c1, rfl, -⟩ := h1
  have h2 := pwindowseen
  obtain ⟨A2, c2, rfl, -⟩ := h2
  exact ⟨_, _, _, _, _, _, rfl, pqueue, pscreenrows, pwindowseen⟩
theorem rdClient_shut {w : World} {x : SClient} {v0 v1 v2 : Value} (p0 : RdS kT w v0 x.queue) (p1 : RdS (kS kCell) w v1 x.screen.rows) (p2 : RdS kI w v2 x.window.seen) : kClient.rd w x (celClient x v0 v1 v2) := by
  exact ⟨[.int .i64 x.id], _, rfl, rfl, ⟨[v0], _, rfl, ⟨_, rfl, p0⟩, ⟨[.int .i64 x.first], _, rfl, rfl, ⟨[.int .i64 x.screen.cols, v1], _, rfl, ⟨[.int .i64 x.screen.cols], _, rfl, rfl, ⟨[v1], _, rfl, ⟨_, rfl, p1⟩, rfl⟩⟩, ⟨[.int .i64 x.number], _, rfl, rfl, ⟨[.int .i64 x.window.top, v2], _, rfl, ⟨[.int .i64 x.window.top], _, rfl, rfl, ⟨[v2], _, rfl, ⟨_, rfl, p2⟩, rfl⟩⟩, ⟨[.int .i64 x.sends], _, rfl, rfl, rfl⟩⟩⟩⟩⟩⟩⟩
def celFrame (x : SFrame) (v0 : Value) : List Value := [.int .i64 x.number, .int .i64 x.base, .int .i64 x.known, .int .i64 x.patch.cols, .int .i64 x.patch.rows, v0]
theorem ownFrame_open {x : SFrame} {cs : List Value} : Ent (kFrame.own x cs) (ex fun v0 => star (fact (cs = celFrame x v0)) (stars [OwnS kChange v0 x.patch.changes])) := by
  refine EntH.one ?_
  refine EntH.openEx fun c1 => EntH.openEx fun c2 => EntH.openStar (EntH.openFact fun e0 => EntH.openStar ?_)
  subst e0
  refine EntH.openFact fun e0 => ?_
  subst e0
  refine EntH.openEx fun c1 => EntH.openEx fun c2 => EntH.openStar (EntH.openFact fun e0 => EntH.openStar ?_)
  subst e0
  refine EntH.openFact fun e0 => ?_
  subst e0
  refine EntH.openEx fun c1 => EntH.openEx fun c2 => EntH.openStar (EntH.openFact fun e0 => EntH.openStar ?_)
  subst e0
  refine EntH.openFact fun e0 => ?_
  subst e0
  refine EntH.openEx fun c1 => EntH.openEx fun c2 => EntH.openStar (EntH.openFact fun e0 => EntH.openStar ?_)
  subst e0
  refine EntH.openEx fun c1 => EntH.openEx fun c2 => EntH.openStar (EntH.openFact fun e0 => EntH.openStar ?_)
  subst e0
  refine EntH.openFact fun e0 => ?_
  subst e0
  refine EntH.openEx fun c1 => EntH.openEx fun c2 => EntH.openStar (EntH.openFact fun e0 => EntH.openStar ?_)
  subst e0
  refine EntH.openFact fun e0 => ?_
  subst e0
  refine EntH.openEx fun c1 => EntH.openEx fun c2 => EntH.openStar (EntH.openFact fun e0 => EntH.openStar ?_)
  subst e0
  refine EntH.openEx fun q0 => EntH.openStar (EntH.openFact fun e0 => ?_)
  subst e0
  refine EntH.swap ?_
  refine EntH.openFact fun e0 => ?_
  subst e0
  refine EntH.pull 1 rfl ?_
  simp only [List.eraseIdx_cons_zero, List.eraseIdx_cons_succ]
  refine EntH.openFact fun e0 => ?_
  subst e0
  refine Ent.oex q0 (Ent.ofact rfl ?_)
  refine Ent.pick 0 rfl (Ent.refl _) ?_
  simp only [List.eraseIdx_cons_zero, List.eraseIdx_cons_succ]
  exact Ent.to_emp _
theorem ownFrame_shut {x : SFrame} {v0 : Value} : Ent (stars [OwnS kChange v0 x.patch.changes]) (kFrame.own x (celFrame x v0)) := by
  unfold celFrame
  refine ownF_step 1 ?_
  simp only [List.take_succ_cons, List.take_zero, List.drop_succ_cons, List.drop_zero]
  refine Ent.ofact rfl ?_
  refine ownF_step 1 ?_
  simp only [List.take_succ_cons, List.take_zero, List.drop_succ_cons, List.drop_zero]
  refine Ent.ofact rfl ?_
  refine ownF_step 1 ?_
  simp only [List.take_succ_cons, List.take_zero, List.drop_succ_cons, List.drop_zero]
  refine Ent.ofact rfl ?_
  refine ownF_step 3 ?_
  simp only [List.take_succ_cons, List.take_zero, List.drop_succ_cons, List.drop_zero]
  refine ownF_stepL 1 ?_
  simp only [List.take_succ_cons, List.take_zero, List.drop_succ_cons, List.drop_zero]
  refine Ent.ofact rfl ?_
  refine ownF_stepL 1 ?_
  simp only [List.take_succ_cons, List.take_zero, List.drop_succ_cons, List.drop_zero]
  refine Ent.ofact rfl ?_
  refine ownF_stepL 1 ?_
  simp only [List.take_succ_cons, List.take_zero, List.drop_succ_cons, List.drop_zero]
  refine Ent.pick 0 rfl (kS_own _ _ _) ?_
  simp only [List.eraseIdx_cons_zero, List.eraseIdx_cons_succ]
  refine Ent.ofact rfl ?_
  exact ent_fact rfl
theorem SEM.openFrame_ {P : Program} {N : Nat} {k : List It} {E : Env} {L : List Loc} {H : List Assn} {Q : Post} {x : SFrame} {cs : List Value} (h : ∀ v0, cs = celFrame x v0 → SEM P N k E L (OwnS kChange v0 x.patch.changes :: H) Q) : SEM P N k E L (kFrame.own x cs :: H) Q :=
  SEM.open1 (SEM.openEx fun v0 => SEM.openStar (SEM.openFact fun e => SEM.split (h v0 e))) ownFrame_open
theorem SEM.openFrame {P : Program} {N : Nat} {k : List It} {E : Env} {L : List Loc} {H : List Assn} {Q : Post} {x : SFrame} {cs : List Value} (h : ∀ A0 c0, cs = celFrame x (.slice A0 x.patch.changes.length c0) → SEM P N k E L (OwnS kChange (.slice A0 x.patch.changes.length c0) x.patch.changes :: H) Q) : SEM P N k E L (kFrame.own x cs :: H) Q := by
  refine SEM.openFrame_ fun v0 e => ?_
  refine SEM.ownShapeAt 0 rfl fun A0 c0 e0 _ _ _ => ?_
  subst e0
  exact h A0 c0 e
theorem SEM.openRFrame {P : Program} {N : Nat} {k : List It} {E : Env} {L : List Loc} {H : List Assn} {Q : Post} {x : SFrame} {r : Value} (h : ∀ A0 c0, r = .agg (celFrame x (.slice A0 x.patch.changes.length c0)).toArray → SEM P N k E L (OwnS kChange (.slice A0 x.patch.changes.length c0) x.patch.changes :: H) Q) : SEM P N k E L (ownR kFrame x r :: H) Q :=
  SEM.openEx fun cs => SEM.openStar (SEM.openFact fun e => SEM.openFrame fun A0 c0 e1 => h A0 c0 (by rw [e, e1]))
theorem rdFrame_open {w : World} {x : SFrame} {cs : List Value} (p : kFrame.rd w x cs) : ∃ A0 c0, cs = celFrame x (.slice A0 x.patch.changes.length c0) ∧ RdS kChange w (.slice A0 x.patch.changes.length c0) x.patch.changes := by
  obtain ⟨_, _, rfl, rfl, _, _, rfl, rfl, _, _, rfl, rfl, _, _, rfl, ppatch, rfl⟩ := p
  have ppatch_ := ppatch
  obtain ⟨_, _, rfl, rfl, _, _, rfl, rfl, _, _, rfl, ⟨_, rfl, ppatchchanges⟩, rfl⟩ := ppatch
  have h0 := ppatchchanges
  obtain ⟨A0, c0, rfl, -⟩ := h0
  exact ⟨_, _, rfl, ppatchchanges⟩
theorem rdFrame_shut {w : World} {x : SFrame} {v0 : Value} (p0 : RdS kChange w v0 x.patch.changes) : kFrame.rd w x (celFrame x v0) := by
  exact ⟨[.int .i64 x.number], _, rfl, rfl, ⟨[.int .i64 x.base], _, rfl, rfl, ⟨[.int .i64 x.known], _, rfl, rfl, ⟨[.int .i64 x.patch.cols, .int .i64 x.patch.rows, v0], _, rfl, ⟨[.int .i64 x.patch.cols], _, rfl, rfl, ⟨[.int .i64 x.patch.rows], _, rfl, rfl, ⟨[v0], _, rfl, ⟨_, rfl, p0⟩, rfl⟩⟩⟩, rfl⟩⟩⟩⟩
def celWorld (x : SWorld) (v0 v1 v2 v3 v4 v5 : Value) : List Value := [v0, v1, v2, v3, v4, v5]
theorem ownWorld_open {x : SWorld} {cs : List Value} : Ent (kWorld.own x cs) (ex fun v0 => ex fun v1 => ex fun v2 => ex fun v3 => ex fun v4 => ex fun v5 => star (fact (cs = celWorld x v0 v1 v2 v3 v4 v5)) (stars [OwnS kServer v0 x.chain.servers, OwnS (kS kT) v1 x.chain.down, OwnS (kS kI) v2 x.chain.up, OwnS kClient v3 x.clients, OwnS kT v4 x.net, OwnS kDatagram v5 x.frames])) := by
  refine EntH.one ?_
  refine EntH.openEx fun c1 => EntH.openEx fun c2 => EntH.openStar (EntH.openFact fun e0 => EntH.openStar ?_)
  subst e0
  refine EntH.openEx fun c1 => EntH.openEx fun c2 => EntH.openStar (EntH.openFact fun e0 => EntH.openStar ?_)
  subst e0
  refine EntH.openEx fun q0 => EntH.openStar (EntH.openFact fun e0 => ?_)
  subst e0
  refine EntH.swap ?_
  refine EntH.openEx fun c1 => EntH.openEx fun c2 => EntH.openStar (EntH.openFact fun e0 => EntH.openStar ?_)
  subst e0
  refine EntH.openEx fun q1 => EntH.openStar (EntH.openFact fun e0 => ?_)
  subst e0
  refine EntH.swap ?_
  refine EntH.openEx fun c1 => EntH.openEx fun c2 => EntH.openStar (EntH.openFact fun e0 => EntH.openStar ?_)
  subst e0
  refine EntH.openEx fun q2 => EntH.openStar (EntH.openFact fun e0 => ?_)
  subst e0
  refine EntH.swap ?_
  refine EntH.openFact fun e0 => ?_
  subst e0
  refine EntH.pull 3 rfl ?_
  simp only [List.eraseIdx_cons_zero, List.eraseIdx_cons_succ]
  refine EntH.openEx fun c1 => EntH.openEx fun c2 => EntH.openStar (EntH.openFact fun e0 => EntH.openStar ?_)
  subst e0
  refine EntH.openEx fun q3 => EntH.openStar (EntH.openFact fun e0 => ?_)
  subst e0
  refine EntH.swap ?_
  refine EntH.openEx fun c1 => EntH.openEx fun c2 => EntH.openStar (EntH.openFact fun e0 => EntH.openStar ?_)
  subst e0
  refine EntH.openEx fun q4 => EntH.openStar (EntH.openFact fun e0 => ?_)
  subst e0
  refine EntH.swap ?_
  refine EntH.openEx fun c1 => EntH.openEx fun c2 => EntH.openStar (EntH.openFact fun e0 => EntH.openStar ?_)
  subst e0
  refine EntH.openEx fun q5 => EntH.openStar (EntH.openFact fun e0 => ?_)
  subst e0
  refine EntH.swap ?_
  refine EntH.openFact fun e0 => ?_
  subst e0
  refine Ent.oex q0 (Ent.oex q1 (Ent.oex q2 (Ent.oex q3 (Ent.oex q4 (Ent.oex q5 (Ent.ofact rfl ?_))))))
  refine Ent.pick 5 rfl (Ent.refl _) ?_
  simp only [List.eraseIdx_cons_zero, List.eraseIdx_cons_succ]
  refine Ent.pick 4 rfl (Ent.refl _) ?_
  simp only [List.eraseIdx_cons_zero, List.eraseIdx_cons_succ]
  refine Ent.pick 3 rfl (Ent.refl _) ?_
  simp only [List.eraseIdx_cons_zero, List.eraseIdx_cons_succ]
  refine Ent.pick 2 rfl (Ent.refl _) ?_
  simp only [List.eraseIdx_cons_zero, List.eraseIdx_cons_succ]
  refine Ent.pick 1 rfl (Ent.refl _) ?_
  simp only [List.eraseIdx_cons_zero, List.eraseIdx_cons_succ]
  refine Ent.pick 0 rfl (Ent.refl _) ?_
  simp only [List.eraseIdx_cons_zero, List.eraseIdx_cons_succ]
  exact Ent.to_emp _
theorem ownWorld_shut {x : SWorld} {v0 v1 v2 v3 v4 v5 : Value} : Ent (stars [OwnS kServer v0 x.chain.servers, OwnS (kS kT) v1 x.chain.down, OwnS (kS kI) v2 x.chain.up, OwnS kClient v3 x.clients, OwnS kT v4 x.net, OwnS kDatagram v5 x.frames]) (kWorld.own x (celWorld x v0 v1 v2 v3 v4 v5)) := by
  unfold celWorld
  refine ownF_step 3 ?_
  simp only [List.take_succ_cons, List.take_zero, List.drop_succ_cons, List.drop_zero]
  refine ownF_stepL 1 ?_
  simp only [List.take_succ_cons, List.take_zero, List.drop_succ_cons, List.drop_zero]
  refine Ent.pick 0 rfl (kS_own _ _ _) ?_
  simp only [List.eraseIdx_cons_zero, List.eraseIdx_cons_succ]
  refine ownF_stepL 1 ?_
  simp only [List.take_succ_cons, List.take_zero, List.drop_succ_cons, List.drop_zero]
  refine Ent.pick 0 rfl (kS_own _ _ _) ?_
  simp only [List.eraseIdx_cons_zero, List.eraseIdx_cons_succ]
  refine ownF_stepL 1 ?_
  simp only [List.take_succ_cons, List.take_zero, List.drop_succ_cons, List.drop_zero]
  refine Ent.pick 0 rfl (kS_own _ _ _) ?_
  simp only [List.eraseIdx_cons_zero, List.eraseIdx_cons_succ]
  refine Ent.ofact rfl ?_
  refine ownF_step 1 ?_
  simp only [List.take_succ_cons, List.take_zero, List.drop_succ_cons, List.drop_zero]
  refine Ent.pick 0 rfl (kS_own _ _ _) ?_
  simp only [List.eraseIdx_cons_zero, List.eraseIdx_cons_succ]
  refine ownF_step 1 ?_
  simp only [List.take_succ_cons, List.take_zero, List.drop_succ_cons, List.drop_zero]
  refine Ent.pick 0 rfl (kS_own _ _ _) ?_
  simp only [List.eraseIdx_cons_zero, List.eraseIdx_cons_succ]
  refine ownF_step 1 ?_
  simp only [List.take_succ_cons, List.take_zero, List.drop_succ_cons, List.drop_zero]
  refine Ent.pick 0 rfl (kS_own _ _ _) ?_
  simp only [List.eraseIdx_cons_zero, List.eraseIdx_cons_succ]
  exact ent_fact rfl
theorem SEM.openWorld_ {P : Program} {N : Nat} {k : List It} {E : Env} {L : List Loc} {H : List Assn} {Q : Post} {x : SWorld} {cs : List Value} (h : ∀ v0 v1 v2 v3 v4 v5, cs = celWorld x v0 v1 v2 v3 v4 v5 → SEM P N k E L (OwnS kServer v0 x.chain.servers :: OwnS (kS kT) v1 x.chain.down :: OwnS (kS kI) v2 x.chain.up :: OwnS kClient v3 x.clients :: OwnS kT v4 x.net :: OwnS kDatagram v5 x.frames :: H) Q) : SEM P N k E L (kWorld.own x cs :: H) Q :=
  SEM.open1 (SEM.openEx fun v0 => SEM.openEx fun v1 => SEM.openEx fun v2 => SEM.openEx fun v3 => SEM.openEx fun v4 => SEM.openEx fun v5 => SEM.openStar (SEM.openFact fun e => SEM.split (h v0 v1 v2 v3 v4 v5 e))) ownWorld_open
theorem SEM.openWorld {P : Program} {N : Nat} {k : List It} {E : Env} {L : List Loc} {H : List Assn} {Q : Post} {x : SWorld} {cs : List Value} (h : ∀ A0 c0 A1 c1 A2 c2 A3 c3 A4 c4 A5 c5, cs = celWorld x (.slice A0 x.chain.servers.length c0) (.slice A1 x.chain.down.length c1) (.slice A2 x.chain.up.length c2) (.slice A3 x.clients.length c3) (.slice A4 x.net.length c4) (.slice A5 x.frames.length c5) → SEM P N k E L (OwnS kServer (.slice A0 x.chain.servers.length c0) x.chain.servers :: OwnS (kS kT) (.slice A1 x.chain.down.length c1) x.chain.down :: OwnS (kS kI) (.slice A2 x.chain.up.length c2) x.chain.up :: OwnS kClient (.slice A3 x.clients.length c3) x.clients :: OwnS kT (.slice A4 x.net.length c4) x.net :: OwnS kDatagram (.slice A5 x.frames.length c5) x.frames :: H) Q) : SEM P N k E L (kWorld.own x cs :: H) Q := by
  refine SEM.openWorld_ fun v0 v1 v2 v3 v4 v5 e => ?_
  refine SEM.ownShapeAt 0 rfl fun A0 c0 e0 _ _ _ => ?_
  subst e0
  refine SEM.ownShapeAt 1 rfl fun A1 c1 e1 _ _ _ => ?_
  subst e1
  refine SEM.ownShapeAt 2 rfl fun A2 c2 e2 _ _ _ => ?_
  subst e2
  refine SEM.ownShapeAt 3 rfl fun A3 c3 e3 _ _ _ => ?_
  subst e3
  refine SEM.ownShapeAt 4 rfl fun A4 c4 e4 _ _ _ => ?_
  subst e4
  refine SEM.ownShapeAt 5 rfl fun A5 c5 e5 _ _ _ => ?_
  subst e5
  exact h A0 c0 A1 c1 A2 c2 A3 c3 A4 c4 A5 c5 e
theorem SEM.openRWorld {P : Program} {N : Nat} {k : List It} {E : Env} {L : List Loc} {H : List Assn} {Q : Post} {x : SWorld} {r : Value} (h : ∀ A0 c0 A1 c1 A2 c2 A3 c3 A4 c4 A5 c5, r = .agg (celWorld x (.slice A0 x.chain.servers.length c0) (.slice A1 x.chain.down.length c1) (.slice A2 x.chain.up.length c2) (.slice A3 x.clients.length c3) (.slice A4 x.net.length c4) (.slice A5 x.frames.length c5)).toArray → SEM P N k E L (OwnS kServer (.slice A0 x.chain.servers.length c0) x.chain.servers :: OwnS (kS kT) (.slice A1 x.chain.down.length c1) x.chain.down :: OwnS (kS kI) (.slice A2 x.chain.up.length c2) x.chain.up :: OwnS kClient (.slice A3 x.clients.length c3) x.clients :: OwnS kT (.slice A4 x.net.length c4) x.net :: OwnS kDatagram (.slice A5 x.frames.length c5) x.frames :: H) Q) : SEM P N k E L (ownR kWorld x r :: H) Q :=
  SEM.openEx fun cs => SEM.openStar (SEM.openFact fun e => SEM.openWorld fun A0 c0 A1 c1 A2 c2 A3 c3 A4 c4 A5 c5 e1 => h A0 c0 A1 c1 A2 c2 A3 c3 A4 c4 A5 c5 (by rw [e, e1]))
theorem rdWorld_open {w : World} {x : SWorld} {cs : List Value} (p : kWorld.rd w x cs) : ∃ A0 c0 A1 c1 A2 c2 A3 c3 A4 c4 A5 c5, cs = celWorld x (.slice A0 x.chain.servers.length c0) (.slice A1 x.chain.down.length c1) (.slice A2 x.chain.up.length c2) (.slice A3 x.clients.length c3) (.slice A4 x.net.length c4) (.slice A5 x.frames.length c5) ∧ RdS kServer w (.slice A0 x.chain.servers.length c0) x.chain.servers ∧ RdS (kS kT) w (.slice A1 x.chain.down.length c1) x.chain.down ∧ RdS (kS kI) w (.slice A2 x.chain.up.length c2) x.chain.up ∧ RdS kClient w (.slice A3 x.clients.length c3) x.clients ∧ RdS kT w (.slice A4 x.net.length c4) x.net ∧ RdS kDatagram w (.slice A5 x.frames.length c5) x.frames := by
  obtain ⟨_, _, rfl, pchain, _, _, rfl, ⟨_, rfl, pclients⟩, _, _, rfl, ⟨_, rfl, pnet⟩, _, _, rfl, ⟨_, rfl, pframes⟩, rfl⟩ := p
  have pchain_ := pchain
  obtain ⟨_, _, rfl, ⟨_, rfl, pchainservers⟩, _, _, rfl, ⟨_, rfl, pchaindown⟩, _, _, rfl, ⟨_, rfl, pchainup⟩, rfl⟩ := pchain
  have h0 := pchainservers
  obtain ⟨A0, c0, rfl, -⟩ := h0
  have h1 := pchaindown
  obtain ⟨A1, c1, rfl, -⟩ := h1
  have h2 := pchainup
  obtain ⟨A2, c2, rfl, -⟩ := h2
  have h3 := pclients
  obtain ⟨A3, c3, rfl, -⟩ := h3
  have h4 := pnet
  obtain ⟨A4, c4, rfl, -⟩ := h4
  have h5 := pframes
  obtain ⟨A5, c5, rfl, -⟩ := h5
  exact ⟨_, _, _, _, _, _, _, _, _, _, _, _, rfl, pchainservers, pchaindown, pchainup, pclients, pnet, pframes⟩
theorem rdWorld_shut {w : World} {x : SWorld} {v0 v1 v2 v3 v4 v5 : Value} (p0 : RdS kServer w v0 x.chain.servers) (p1 : RdS (kS kT) w v1 x.chain.down) (p2 : RdS (kS kI) w v2 x.chain.up) (p3 : RdS kClient w v3 x.clients) (p4 : RdS kT w v4 x.net) (p5 : RdS kDatagram w v5 x.frames) : kWorld.rd w x (celWorld x v0 v1 v2 v3 v4 v5) := by
  exact ⟨[v0, v1, v2], _, rfl, ⟨[v0], _, rfl, ⟨_, rfl, p0⟩, ⟨[v1], _, rfl, ⟨_, rfl, p1⟩, ⟨[v2], _, rfl, ⟨_, rfl, p2⟩, rfl⟩⟩⟩, ⟨[v3], _, rfl, ⟨_, rfl, p3⟩, ⟨[v4], _, rfl, ⟨_, rfl, p4⟩, ⟨[v5], _, rfl, ⟨_, rfl, p5⟩, rfl⟩⟩⟩⟩
attribute [go_sem] celGrid celParser celTerm celAction celChange celPatch celHistory celWindow celServer celChain celSession celClient celFrame celWorld
end Go.Sep
