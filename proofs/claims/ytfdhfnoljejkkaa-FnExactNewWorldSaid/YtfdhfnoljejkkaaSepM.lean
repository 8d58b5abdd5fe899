/-
  Loops, said by what their slots hold.
  Plain definitions and theorems; nothing of a program in it.
-/
import Derived.Test.YtfdhfnoljejkkaaSepL
set_option linter.unusedVariables false
set_option linter.unusedSimpArgs false
namespace Go.Sep
open Go Go.RowKit

/-- E knows all that E' knows. -/
def subE (E : Env) : Env → Prop
  | [] => True
  | (t, x) :: r => E.get t = some x ∧ subE E r
/-- Addresses of these own blocks alone. -/
def okL (n : Nat) : Env → Prop
  | [] => True
  | (_, .l k _) :: r => k < n ∧ okL n r
  | (_, .v _) :: r => okL n r
theorem subE_get {E : Env} : ∀ {E' : Env}, subE E E' → ∀ t x, E'.get t = some x → E.get t = some x := by
  intro E'
  induction E' with
  | nil => intro _ t x h; cases h
  | cons p r ih =>
    intro h t x hx
    simp only [Env.get] at hx
    split at hx
    · rename_i e; subst e; cases hx; exact h.1
    · exact ih h.2 t x hx
theorem okL_get {n : Nat} : ∀ {E : Env}, okL n E → ∀ t k o, E.get t = some (.l k o) → k < n := by
  intro E
  induction E with
  | nil => intro _ t k o h; cases h
  | cons p r ih =>
    rcases p with ⟨u, x⟩
    intro h t k o hx
    simp only [Env.get] at hx
    split at hx
    · cases hx
      exact h.1
    · cases x with
      | v y => exact ih h t k o hx
      | l k' o' => exact ih h.2 t k o hx

section
variable {P : Program} {N : Nat} {k : List It} {E : Env} {L : List Loc} {H : List Assn} {Q : Post}

theorem EOk.less {E' : Env} {L' M : List Loc} {a : Act} (h : EOk N E (L' ++ M) a) (hs : subE E E') (ho : okL L'.length E') : EOk N E' L' a := by
  refine ⟨h.defers, h.size, fun t x hx => ?_⟩
  obtain ⟨v, h1, h2⟩ := h.get t x (subE_get hs t x hx)
  refine ⟨v, ?_, h2⟩
  cases x with
  | v y => exact h1
  | l k o =>
    have hk := okL_get ho t k o hx
    simp only [AV.to] at h1 ⊢
    rw [List.getElem?_append_left hk] at h1
    exact h1
theorem stA_less {L' M : List Loc} {H' : List Assn} (h : Ent (stars H) (stars H')) : Ent (stA (L' ++ M) H) (stA L' H') := by
  refine Ent.star ?_ h
  unfold locs
  rw [List.map_append]
  exact (stars_append _ _).trans (Ent.left _ _)
/-- The end of a round. -/
def Again {X : Type} (EI : X → Env) (LI : X → List Loc) (HI : X → List Assn) (μ : X → Nat) (m : Nat) (E' : Env) (L' : List Loc) (H' : List Assn) : Prop :=
  ∃ x' M, subE E' (EI x') ∧ L' = LI x' ++ M ∧ okL (LI x').length (EI x') ∧ Ent (stars H') (stars (HI x')) ∧ μ x' < m
theorem SEM.loopI {c : Code} {X : Type} (EI : X → Env) (LI : X → List Loc) (HI : X → List Assn) (μ : X → Nat) (x0 : X)
    (h0 : subE E (EI x0)) (hL : ∃ M, L = LI x0 ++ M) (ho : okL (LI x0).length (EI x0)) (hA : Ent (stars H) (stars (HI x0)))
    (round : ∀ x, SEM P N (.code c :: .endl (Again EI LI HI μ (μ x)) :: k) (EI x) (LI x) (HI x) Q) :
    SEM P N (.code (.loop c) :: k) E L H Q := by
  obtain ⟨M, rfl⟩ := hL
  refine SEM.loop EI LI HI μ x0 (fun a he => he.less h0 ho) (stA_less hA) fun x => ?_
  intro w0 S0 a w he hi
  have := round x w0 S0 a w he hi
  simp only [Kk] at this ⊢
  refine wp_mono this fun e a' w' q => ?_
  cases e with
  | normal =>
    obtain ⟨E', L', H', ⟨x', M', h1, rfl, h3, h4, h5⟩, he', hi'⟩ := q
    exact ⟨E', _, H', ⟨x', fun a he => he.less h1 h3, stA_less h4, h5⟩, he', hi'⟩
  | _ => exact q
theorem ret_fact {w : World} {p : Prop} {i : Nat} (hi : H[i]? = some (amb w)) (h : p) : Ent (stA L H) (star (fact p) (amb w)) :=
  ((Ent.right _ _).trans (stars_get H i _ hi)).trans ((Ent.empl _).trans (Ent.star (ent_fact h) (Ent.refl _)))
end
/-- Where an element of a read slice stands. -/
theorem RdS.at' {α : Type} {k : K α} {w : World} {A : Option Addr} {n c : Nat} {xs : List α} (h : RdS k w (.slice A n c) xs) {i : Nat} (hi : i < xs.length) : ∃ ad cs, A = some ad ∧ k.rd w xs[i] cs ∧ CellsAt w (ad.add (i * k.sz)) cs := by
  obtain ⟨A', c', hv, hc, hA⟩ := h
  injection hv with h1 h2 h3
  obtain ⟨ad', rfl, hi'⟩ := hA (by omega)
  subst h1
  obtain ⟨cs, h1, h2⟩ := hi' i xs[i] (by simp [hi])
  exact ⟨ad', cs, rfl, h1, h2⟩
/-- Lists alike up to a place, up to the next. -/
theorem pre_succ {α : Type} {xs ys : List α} {i : Nat} (hp : ∀ j, j < i → xs[j]? = ys[j]?) (hi : i < xs.length) (hi' : i < ys.length) (h : xs[i] = ys[i]) : ∀ j, j < i + 1 → xs[j]? = ys[j]? := by
  intro j hj
  by_cases hji : j = i
  · subst hji; simp [hi, hi', h]
  · exact hp j (by omega)
theorem pre_all {α : Type} {xs ys : List α} {i : Nat} (hp : ∀ j, j < i → xs[j]? = ys[j]?) (hi : xs.length ≤ i) (hl : xs.length = ys.length) : xs = ys := by
  apply List.ext_getElem? 
  intro j
  by_cases hj : j < i
  · exact hp j hj
  · rw [List.getElem?_eq_none (by omega), List.getElem?_eq_none (by omega)]
theorem pre_not {α : Type} {xs ys : List α} {i : Nat} (hi : i < xs.length) (hi' : i < ys.length) (h : xs[i] ≠ ys[i]) : xs ≠ ys := by
  rintro rfl
  exact h rfl
theorem pl_pl (a : Addr) (m n : Nat) : pl (pl a m) n = pl a (m + n) := add_add a m n
theorem pl_zero (a : Addr) : pl a 0 = a := add_zero a
attribute [go_sem] subE okL pl_pl pl_zero
end Go.Sep
