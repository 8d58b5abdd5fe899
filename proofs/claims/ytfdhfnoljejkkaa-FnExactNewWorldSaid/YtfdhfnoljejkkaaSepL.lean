/-
  Kinds of values: what a value's cells say when it is read, and when it is owned with all that it leads to.
  Plain definitions and theorems; nothing of a program in it.
-/
import Derived.Test.YtfdhfnoljejkkaaSepK
set_option linter.unusedVariables false
set_option linter.unusedSimpArgs false
namespace Go.Sep
open Go Go.RowKit

structure K (α : Type) where
  sz : Nat
  rd : World → α → List Value → Prop
  own : α → List Value → Assn
  len : ∀ {w x cs}, rd w x cs → cs.length = sz
  own_rd : ∀ x cs, Says (own x cs) fun w => rd w x cs
  keep : ∀ {w w' x cs}, rd w x cs → Still w w' → rd w' x cs
  one : ∀ {w x cs}, rd w x cs → AllOne cs

/-- A kind without addresses. -/
def K.flat {α : Type} (enc : α → List Value) (n : Nat) (hl : ∀ x, (enc x).length = n) (h1 : ∀ x, AllOne (enc x)) : K α where
  sz := n
  rd _ x cs := cs = enc x
  own x cs := fact (cs = enc x)
  len h := by rw [h, hl]
  own_rd x cs := fun w S h => h.1
  keep h _ := h
  one h := by rw [h]; exact h1 _

theorem CellsAt.still {w w' : World} {ad : Addr} {cs : List Value} (h : CellsAt w ad cs) (k : Still w w') : CellsAt w' ad cs := fun j u hj => k.cell (h j u hj)
theorem SrcAt.still {w w' : World} {A : Option Addr} {cs : List Value} (h : SrcAt w A cs) (k : Still w w') : SrcAt w' A cs := by
  rcases h with h | ⟨ad, e, hc⟩
  · exact .inl h
  · exact .inr ⟨ad, e, hc.still k⟩

/-- A slice that is read. -/
def RdS {α : Type} (k : K α) (w : World) (v : Value) (xs : List α) : Prop :=
  ∃ A c, v = .slice A xs.length c ∧ (xs.length ≤ c ∧ xs.length ≤ 140737488355328) ∧ (0 < xs.length → ∃ ad, A = some ad ∧ ∀ (i : Nat) (x : α), xs[i]? = some x → ∃ cs, k.rd w x cs ∧ CellsAt w (ad.add (i * k.sz)) cs)
def bigs {α : Type} (k : K α) : List α → List (List Value) → Assn
  | [], [] => emp
  | x :: xs, c :: cs => star (k.own x c) (bigs k xs cs)
  | _, _ => fact False
/-- A slice that is owned, with all that its elements own. -/
def OwnS {α : Type} (k : K α) (v : Value) (xs : List α) : Assn := ex fun css : List (List Value) => star (Row v xs.length k.sz css.flatten) (bigs k xs css)

theorem bigs_len {α : Type} (k : K α) : ∀ (xs : List α) (css : List (List Value)), Says (bigs k xs css) fun _ => css.length = xs.length := by
  intro xs
  induction xs with
  | nil => intro css w S h; cases css with
    | nil => rfl
    | cons c cs => exact h.1.elim
  | cons x xs ih => intro css w S h; cases css with
    | nil => exact h.1.elim
    | cons c cs =>
      obtain ⟨S1, S2, h1, h2, _⟩ := h
      have := ih cs w S2 h2
      simp [this]
theorem bigs_rd {α : Type} (k : K α) : ∀ (xs : List α) (css : List (List Value)), Says (bigs k xs css) fun w => ∀ (i : Nat) (x : α), xs[i]? = some x → ∃ cs, css[i]? = some cs ∧ k.rd w x cs := by
  intro xs
  induction xs with
  | nil => intro css w S h i x hx; simp at hx
  | cons x xs ih => intro css w S h i y hy; cases css with
    | nil => exact h.1.elim
    | cons c cs =>
      obtain ⟨S1, S2, h1, h2, _⟩ := h
      cases i with
      | zero =>
        simp only [List.getElem?_cons_zero, Option.some.injEq] at hy ⊢
        subst hy
        exact ⟨c, rfl, k.own_rd _ _ w S1 h1⟩
      | succ i =>
        simp only [List.getElem?_cons_succ] at hy ⊢
        exact ih cs w S2 h2 i y hy
theorem flatten_at (n : Nat) : ∀ (css : List (List Value)) (i : Nat) (cs : List Value), (∀ c ∈ css, c.length = n) → css[i]? = some cs → cs = (css.flatten.drop (i * n)).take n := by
  intro css
  induction css with
  | nil => intro i cs _ h; simp at h
  | cons c css ih =>
    intro i cs hl h
    have hc := hl c (by simp)
    cases i with
    | zero =>
      simp only [List.getElem?_cons_zero, Option.some.injEq] at h
      subst h
      simp only [List.flatten_cons, Nat.zero_mul, List.drop_zero]
      rw [List.take_left' hc]
    | succ i =>
      simp only [List.getElem?_cons_succ] at h
      rw [List.flatten_cons, Nat.add_mul, Nat.one_mul, Nat.add_comm, ← List.drop_drop, List.drop_left' hc]
      exact ih i cs (fun c h => hl c (by simp [h])) h
theorem OwnS.rd {α : Type} (k : K α) (v : Value) (xs : List α) : Says (OwnS k v xs) fun w => RdS k w v xs := by
  rintro w S ⟨css, S1, S2, h1, h2, hd, hs⟩
  obtain ⟨⟨⟨hl, hmx⟩, h1o⟩, A, c, rfl, hc, hA⟩ := Row.shape _ _ _ _ w S1 h1
  refine ⟨A, c, rfl, ⟨hc, hmx⟩, fun h0 => ?_⟩
  obtain ⟨ad, rfl⟩ := hA h0
  refine ⟨ad, rfl, fun i x hx => ?_⟩
  obtain ⟨cs, hcs, hr⟩ := bigs_rd k xs css w S2 h2 i x hx
  refine ⟨cs, hr, ?_⟩
  have hlen : ∀ c ∈ css, c.length = k.sz := by
    intro c hc
    obtain ⟨j, hj⟩ := List.getElem?_of_mem hc
    have hjl := (List.getElem?_eq_some_iff.1 hj).1
    rw [bigs_len k xs css w S2 h2] at hjl
    obtain ⟨cs', hcs', hr'⟩ := bigs_rd k xs css w S2 h2 j xs[j] (by simp [hjl])
    rw [hj] at hcs'
    cases hcs'
    exact k.len hr'
  rw [flatten_at k.sz css i cs hlen hcs]
  exact ((Row.at_ _ _ _ _ _ w S1 h1).drop _).take _

theorem RdS.still {α : Type} {k : K α} {w w' : World} {v : Value} {xs : List α} (h : RdS k w v xs) (s : Still w w') : RdS k w' v xs := by
  obtain ⟨A, c, hv, hc, hA⟩ := h
  refine ⟨A, c, hv, hc, fun h0 => ?_⟩
  obtain ⟨ad, e, hi⟩ := hA h0
  refine ⟨ad, e, fun i x hx => ?_⟩
  obtain ⟨cs, hr, hcs⟩ := hi i x hx
  exact ⟨cs, k.keep hr s, hcs.still s⟩
/-- The kind of a slice. -/
def kS {α : Type} (k : K α) : K (List α) where
  sz := 1
  rd w xs cs := ∃ v, cs = [v] ∧ RdS k w v xs
  own xs cs := ex fun v => star (fact (cs = [v])) (OwnS k v xs)
  len := by rintro w x cs ⟨v, rfl, _⟩; rfl
  own_rd xs cs := by
    rintro w S ⟨v, S1, S2, ⟨rfl, _⟩, h2, _⟩
    exact ⟨v, rfl, OwnS.rd k v xs w S2 h2⟩
  keep := by rintro w w' xs cs ⟨v, rfl, h⟩ s; exact ⟨v, rfl, h.still s⟩
  one := by
    rintro w xs cs ⟨v, rfl, A, c, rfl, _⟩ u hu
    simp only [List.mem_singleton] at hu
    subst hu
    rfl

/-! ### Structs -/
structure Fld (α : Type) where
  β : Type
  k : K β
  π : α → β
def rdF {α : Type} (w : World) (x : α) : List (Fld α) → List Value → Prop
  | [], cs => cs = []
  | f :: fs, cs => ∃ c1 c2, cs = c1 ++ c2 ∧ f.k.rd w (f.π x) c1 ∧ rdF w x fs c2
def ownF {α : Type} (x : α) : List (Fld α) → List Value → Assn
  | [], cs => fact (cs = [])
  | f :: fs, cs => ex fun c1 => ex fun c2 => star (fact (cs = c1 ++ c2)) (star (f.k.own (f.π x) c1) (ownF x fs c2))
def szF {α : Type} : List (Fld α) → Nat
  | [] => 0
  | f :: fs => f.k.sz + szF fs
def K.struct {α : Type} (fs : List (Fld α)) : K α where
  sz := szF fs
  rd w x cs := rdF w x fs cs
  own x cs := ownF x fs cs
  len := by
    intro w x cs h
    induction fs generalizing cs with
    | nil => simp only [rdF] at h; subst h; rfl
    | cons f fs ih =>
      obtain ⟨c1, c2, rfl, h1, h2⟩ := h
      simp [szF, f.k.len h1, ih h2]
  own_rd x cs := by
    induction fs generalizing cs with
    | nil => intro w S h; exact h.1
    | cons f fs ih =>
      rintro w S ⟨c1, c2, S1, S2, ⟨rfl, _⟩, ⟨S3, S4, h3, h4, _⟩, _⟩
      exact ⟨c1, c2, rfl, f.k.own_rd _ _ w S3 h3, ih c2 w S4 h4⟩
  keep := by
    intro w w' x cs h s
    induction fs generalizing cs with
    | nil => exact h
    | cons f fs ih =>
      obtain ⟨c1, c2, rfl, h1, h2⟩ := h
      exact ⟨c1, c2, rfl, f.k.keep h1 s, ih h2⟩
  one := by
    intro w x cs h
    induction fs generalizing cs with
    | nil => simp only [rdF] at h; subst h; exact AllOne.nil
    | cons f fs ih =>
      obtain ⟨c1, c2, rfl, h1, h2⟩ := h
      exact (f.k.one h1).append (ih h2)

/-! ### Elements -/
theorem bigs_flat {α : Type} {enc : α → List Value} {n : Nat} (hl : ∀ x, (enc x).length = n) (h1 : ∀ x, AllOne (enc x)) : ∀ (xs : List α) (css : List (List Value)), Says (bigs (K.flat enc n hl h1) xs css) fun _ => css = xs.map enc := by
  intro xs
  induction xs with
  | nil => intro css w S h; cases css with
    | nil => rfl
    | cons c cs => exact h.1.elim
  | cons x xs ih => intro css w S h; cases css with
    | nil => exact h.1.elim
    | cons c cs =>
      obtain ⟨S1, S2, h1, h2, _⟩ := h
      rw [List.map_cons, ← ih cs w S2 h2]
      have := h1.1
      rw [this]
theorem bigs_flat' {α : Type} {enc : α → List Value} {n : Nat} (hl : ∀ x, (enc x).length = n) (h1 : ∀ x, AllOne (enc x)) (xs : List α) : Ent emp (bigs (K.flat enc n hl h1) xs (xs.map enc)) := by
  induction xs with
  | nil => exact Ent.refl _
  | cons x xs ih => exact (Ent.empl _).trans (Ent.star (fun w S h => ⟨S, ⟨rfl, h⟩, fun _ h => h⟩) ih)
/-- A slice of elements without addresses: a row. -/
theorem OwnS.flat {α : Type} {enc : α → List Value} {n : Nat} (hl : ∀ x, (enc x).length = n) (h1 : ∀ x, AllOne (enc x)) (v : Value) (xs : List α) : Ent (OwnS (K.flat enc n hl h1) v xs) (Row v xs.length n (xs.flatMap enc)) := by
  rintro w S ⟨css, S1, S2, g1, g2, hd, hs⟩
  have := bigs_flat hl h1 xs css w S2 g2
  subst this
  rw [List.flatMap_def]
  exact ⟨S1, g1, fun b hb => (hs b).2 (.inl hb)⟩
theorem OwnS.of_flat {α : Type} {enc : α → List Value} {n : Nat} (hl : ∀ x, (enc x).length = n) (h1 : ∀ x, AllOne (enc x)) (v : Value) (xs : List α) : Ent (Row v xs.length n (xs.flatMap enc)) (OwnS (K.flat enc n hl h1) v xs) := by
  refine Ent.trans ?_ (Ent.ex_intro (xs.map enc))
  rw [List.flatMap_def]
  exact (Ent.empr _).trans (Ent.star (Ent.refl _) (bigs_flat' hl h1 xs))

end Go.Sep
