/-
  A small separation logic over the model's machine: footprints, assertions, and the relation between a call's world and the world behind it.
  Plain definitions and theorems; nothing of a program in it.
-/
import Derived.Below
import Derived.Tactics
import Derived.Laws.World
import Derived.Deep.Draws
set_option linter.unusedVariables false
set_option linter.unusedSimpArgs false
namespace Go.Sep
open Go Go.RowKit

/-- Outside the blocks of S the world w is as w0 was. -/
structure Keeps (S : Nat → Prop) (w0 w : World) : Prop where
  os : w.os = w0.os
  tape : w.tape = w0.tape
  output : w.output = w0.output
  size : w0.heap.size ≤ w.heap.size
  block : ∀ b, b < w0.heap.size → ¬ S b → w.heap[b]? = w0.heap[b]?

abbrev NoS : Nat → Prop := fun _ => False

theorem Keeps.refl (S : Nat → Prop) (w : World) : Keeps S w w := ⟨rfl, rfl, rfl, Nat.le_refl _, fun _ _ _ => rfl⟩
theorem Keeps.mono {S T : Nat → Prop} {w0 w : World} (h : Keeps S w0 w) (hs : ∀ b, S b → T b) : Keeps T w0 w :=
  ⟨h.os, h.tape, h.output, h.size, fun b hb hn => h.block b hb (fun hS => hn (hs b hS))⟩
theorem Keeps.trans {S T : Nat → Prop} {a b c : World} (h : Keeps S a b) (k : Keeps T b c) (hT : ∀ i, T i → S i ∨ a.heap.size ≤ i) : Keeps S a c :=
  ⟨k.os.trans h.os, k.tape.trans h.tape, k.output.trans h.output, Nat.le_trans h.size k.size, fun i hi hn => by
    rw [k.block i (Nat.lt_of_lt_of_le hi h.size) (fun ht => (hT i ht).elim hn (fun h' => by omega)), h.block i hi hn]⟩
theorem Keeps.below {w0 w : World} (h : Keeps NoS w0 w) : Below w0.heap.size w0 w :=
  ⟨h.os, h.tape, h.output, h.size, fun k hk => h.block k hk (fun f => f)⟩
theorem Keeps.of_below {w0 w : World} (h : Below w0.heap.size w0 w) : Keeps NoS w0 w :=
  ⟨h.os, h.tape, h.output, h.size, fun k hk _ => h.block k hk⟩

/-- What is said of some blocks of a world: P w S: in w, of the blocks S. -/
structure Assn where
  P : World → (Nat → Prop) → Prop
  loc : ∀ w w' S, P w S → w.heap.size ≤ w'.heap.size → (∀ b, S b → w'.heap[b]? = w.heap[b]?) → P w' S
  bnd : ∀ w S, P w S → ∀ b, S b → b < w.heap.size

def emp : Assn where
  P _ S := ∀ b, ¬ S b
  loc _ _ _ h _ _ := h
  bnd _ _ h b hb := (h b hb).elim

def star (A B : Assn) : Assn where
  P w S := ∃ S1 S2, A.P w S1 ∧ B.P w S2 ∧ (∀ b, S1 b → S2 b → False) ∧ ∀ b, S b ↔ S1 b ∨ S2 b
  loc w w' S := by
    rintro ⟨S1, S2, h1, h2, hd, hs⟩ hz hb
    exact ⟨S1, S2, A.loc _ _ _ h1 hz (fun b h => hb b ((hs b).2 (.inl h))), B.loc _ _ _ h2 hz (fun b h => hb b ((hs b).2 (.inr h))), hd, hs⟩
  bnd w S := by
    rintro ⟨S1, S2, h1, h2, hd, hs⟩ b hb
    exact ((hs b).1 hb).elim (A.bnd _ _ h1 b) (B.bnd _ _ h2 b)

def ex {α : Type} (A : α → Assn) : Assn where
  P w S := ∃ x, (A x).P w S
  loc w w' S := by rintro ⟨x, h⟩ hz hb; exact ⟨x, (A x).loc _ _ _ h hz hb⟩
  bnd w S := by rintro ⟨x, h⟩ b hb; exact (A x).bnd _ _ h b hb

/-- A plain fact. -/
def fact (p : Prop) : Assn where
  P _ S := p ∧ ∀ b, ¬ S b
  loc _ _ _ h _ _ := h
  bnd _ _ h b hb := (h.2 b hb).elim

/-- A fact beside an assertion. -/
def A_and (p : Prop) (A : Assn) : Assn where
  P w S := p ∧ A.P w S
  loc w w' S h hz hb := ⟨h.1, A.loc _ _ _ h.2 hz hb⟩
  bnd w S h := A.bnd _ _ h.2

/-- The block's cells, none of them frozen. -/
def BlockIs (w : World) (b : Nat) (cs : List Value) : Prop :=
  ∃ e fr, w.heap[b]? = some (.cells cs.toArray e fr) ∧ ∀ i, i < cs.length → ¬ (fr.1 ≤ i ∧ i < fr.2)

/-- Block b, whole. -/
def pt (b : Nat) (cs : List Value) : Assn where
  P w S := BlockIs w b cs ∧ ∀ i, S i ↔ i = b
  loc w w' S := by
    rintro ⟨⟨e, fr, h, hf⟩, hs⟩ _ hb
    exact ⟨⟨e, fr, by rw [hb b ((hs b).2 rfl)]; exact h, hf⟩, hs⟩
  bnd w S := by
    rintro ⟨⟨e, fr, h, hf⟩, hs⟩ i hi
    rw [(hs i).1 hi]
    exact (Array.getElem?_eq_some_iff.1 h).1

/-- All blocks that w0 has, just as they are there. -/
def amb (w0 : World) : Assn where
  P w S := w0.heap.size ≤ w.heap.size ∧ (∀ b, b < w0.heap.size → w.heap[b]? = w0.heap[b]?) ∧ ∀ b, S b ↔ b < w0.heap.size
  loc w w' S := by
    rintro ⟨hz, hb, hs⟩ hz' hb'
    exact ⟨by omega, fun b h => by rw [hb' b ((hs b).2 h)]; exact hb b h, hs⟩
  bnd w S := by
    rintro ⟨hz, hb, hs⟩ b h
    have := (hs b).1 h
    omega

def stars : List Assn → Assn
  | [] => emp
  | A :: L => star A (stars L)

/-- The first says all that the second says, and more blocks may be dropped. -/
def Ent (A B : Assn) : Prop := ∀ w S, A.P w S → ∃ T, B.P w T ∧ ∀ b, T b → S b
/-- What is said lets a fact of the world follow. -/
def Says (A : Assn) (φ : World → Prop) : Prop := ∀ w S, A.P w S → φ w

theorem Ent.refl (A : Assn) : Ent A A := fun _ S h => ⟨S, h, fun _ h => h⟩
theorem Ent.trans {A B C : Assn} (h : Ent A B) (k : Ent B C) : Ent A C := fun w S ha =>
  let ⟨T, hb, ht⟩ := h w S ha
  let ⟨U, hc, hu⟩ := k w T hb
  ⟨U, hc, fun b hb => ht b (hu b hb)⟩
theorem Ent.star {A A' B B' : Assn} (h : Ent A A') (k : Ent B B') : Ent (Sep.star A B) (Sep.star A' B') := by
  rintro w S ⟨S1, S2, h1, h2, hd, hs⟩
  obtain ⟨T1, g1, t1⟩ := h w S1 h1
  obtain ⟨T2, g2, t2⟩ := k w S2 h2
  exact ⟨fun b => T1 b ∨ T2 b, ⟨T1, T2, g1, g2, fun b a c => hd b (t1 b a) (t2 b c), fun b => Iff.rfl⟩, fun b hb => (hs b).2 (hb.imp (t1 b) (t2 b))⟩
theorem Ent.comm (A B : Assn) : Ent (Sep.star A B) (Sep.star B A) := by
  rintro w S ⟨S1, S2, h1, h2, hd, hs⟩
  exact ⟨S, ⟨S2, S1, h2, h1, fun b a c => hd b c a, fun b => by rw [hs b]; exact or_comm⟩, fun _ h => h⟩
theorem Ent.assoc (A B C : Assn) : Ent (Sep.star (Sep.star A B) C) (Sep.star A (Sep.star B C)) := by
  rintro w S ⟨S12, S3, ⟨S1, S2, h1, h2, hd, hs⟩, h3, hd', hs'⟩
  refine ⟨S, ⟨S1, fun b => S2 b ∨ S3 b, h1, ⟨S2, S3, h2, h3, fun b a c => hd' b ((hs b).2 (.inr a)) c, fun b => Iff.rfl⟩, ?_, ?_⟩, fun _ h => h⟩
  · rintro b a (c | c)
    · exact hd b a c
    · exact hd' b ((hs b).2 (.inl a)) c
  · intro b
    rw [hs' b, hs b, or_assoc]
theorem Ent.assoc' (A B C : Assn) : Ent (Sep.star A (Sep.star B C)) (Sep.star (Sep.star A B) C) := by
  rintro w S ⟨S1, S23, h1, ⟨S2, S3, h2, h3, hd, hs⟩, hd', hs'⟩
  refine ⟨S, ⟨fun b => S1 b ∨ S2 b, S3, ⟨S1, S2, h1, h2, fun b a c => hd' b a ((hs b).2 (.inl c)), fun b => Iff.rfl⟩, h3, ?_, ?_⟩, fun _ h => h⟩
  · rintro b (a | a) c
    · exact hd' b a ((hs b).2 (.inr c))
    · exact hd b a c
  · intro b
    rw [hs' b, hs b, or_assoc]
theorem Ent.left (A B : Assn) : Ent (Sep.star A B) A := by
  rintro w S ⟨S1, S2, h1, h2, hd, hs⟩
  exact ⟨S1, h1, fun b h => (hs b).2 (.inl h)⟩
theorem Ent.right (A B : Assn) : Ent (Sep.star A B) B := (Ent.comm A B).trans (Ent.left B A)
theorem Ent.empl (A : Assn) : Ent A (Sep.star emp A) := fun w S h => ⟨S, ⟨NoS, S, fun _ h => h, h, fun _ h => h.elim, fun b => by simp⟩, fun _ h => h⟩
theorem Ent.empr (A : Assn) : Ent A (Sep.star A emp) := (Ent.empl A).trans (Ent.comm _ _)
theorem Ent.to_emp (A : Assn) : Ent A emp := fun w S h => ⟨NoS, fun _ h => h, fun _ h => h.elim⟩
theorem Ent.says {A B : Assn} {φ : World → Prop} (h : Ent A B) (k : Says B φ) : Says A φ := fun w S ha =>
  let ⟨T, hb, _⟩ := h w S ha
  k w T hb
theorem Ent.fact_intro {A : Assn} {p : Prop} (h : p) : Ent A (Sep.star (fact p) A) := fun w S ha => ⟨S, ⟨NoS, S, ⟨h, fun _ h => h⟩, ha, fun _ h => h.elim, fun b => by simp⟩, fun _ h => h⟩
theorem Ent.ex_intro {α : Type} {A : α → Assn} (x : α) : Ent (A x) (ex A) := fun w S h => ⟨S, ⟨x, h⟩, fun _ h => h⟩

theorem stars_append (L M : List Assn) : Ent (stars (L ++ M)) (star (stars L) (stars M)) := by
  induction L with
  | nil => exact Ent.empl _
  | cons A L ih => exact (Ent.star (Ent.refl A) ih).trans (Ent.assoc' _ _ _)
theorem stars_append' (L M : List Assn) : Ent (star (stars L) (stars M)) (stars (L ++ M)) := by
  induction L with
  | nil => exact Ent.right _ _
  | cons A L ih => exact (Ent.assoc _ _ _).trans (Ent.star (Ent.refl A) ih)
/-- One of a list is taken to its head. -/
theorem stars_pick (L : List Assn) (i : Nat) (A : Assn) (h : L[i]? = some A) : Ent (stars L) (star A (stars (L.eraseIdx i))) := by
  induction L generalizing i with
  | nil => simp at h
  | cons B L ih =>
    cases i with
    | zero =>
      simp only [List.getElem?_cons_zero, Option.some.injEq] at h
      subst h
      exact Ent.refl _
    | succ i =>
      simp only [List.getElem?_cons_succ] at h
      exact ((Ent.star (Ent.refl B) (ih i h)).trans (Ent.assoc' _ _ _)).trans ((Ent.star (Ent.comm _ _) (Ent.refl _)).trans (Ent.assoc _ _ _))
theorem stars_get (L : List Assn) (i : Nat) (A : Assn) (h : L[i]? = some A) : Ent (stars L) A := (stars_pick L i A h).trans (Ent.left _ _)
/-- One of a list is put in the place of another. -/
theorem stars_set (L : List Assn) (i : Nat) (A B : Assn) (h : L[i]? = some A) : Ent (star B (stars (L.eraseIdx i))) (stars (L.set i B)) := by
  induction L generalizing i with
  | nil => simp at h
  | cons C L ih =>
    cases i with
    | zero => exact Ent.refl _
    | succ i =>
      simp only [List.getElem?_cons_succ] at h
      simp only [List.eraseIdx_cons_succ, List.set_cons_succ]
      exact (((Ent.assoc' _ _ _).trans (Ent.star (Ent.comm _ _) (Ent.refl _))).trans (Ent.assoc _ _ _)).trans (Ent.star (Ent.refl C) (ih i h))

/-- Of w0 the blocks S0 were given; now, in w, A is said of some of them and of new ones, and all else is as it was. -/
structure Inv (w0 : World) (S0 : Nat → Prop) (A : Assn) (w : World) : Prop where
  keeps : Keeps S0 w0 w
  has : ∃ S, A.P w S ∧ ∀ b, S b → S0 b ∨ w0.heap.size ≤ b

theorem Inv.ent {w0 : World} {S0 : Nat → Prop} {A B : Assn} {w : World} (h : Inv w0 S0 A w) (k : Ent A B) : Inv w0 S0 B w := by
  obtain ⟨S, hA, hs⟩ := h.has
  obtain ⟨T, hB, ht⟩ := k w S hA
  exact ⟨h.keeps, T, hB, fun b hb => hs b (ht b hb)⟩
theorem Inv.says {w0 : World} {S0 : Nat → Prop} {A : Assn} {w : World} {φ : World → Prop} (h : Inv w0 S0 A w) (k : Says A φ) : φ w := by
  obtain ⟨S, hA, hs⟩ := h.has
  exact k w S hA

/-- From A in w to B in w', nothing beside touched. -/
def Step (A B : Assn) (w w' : World) : Prop := ∀ S, A.P w S → Keeps S w w' ∧ ∃ S', B.P w' S' ∧ ∀ b, S' b → S b ∨ w.heap.size ≤ b

theorem Step.inv {A B : Assn} {w0 w w' : World} {S0 : Nat → Prop} (h : Step A B w w') (hi : Inv w0 S0 A w) : Inv w0 S0 B w' := by
  obtain ⟨S, hA, hs⟩ := hi.has
  obtain ⟨hk, S', hB, hs'⟩ := h S hA
  refine ⟨hi.keeps.trans hk hs, S', hB, fun b hb => ?_⟩
  rcases hs' b hb with h1 | h1
  · exact hs b h1
  · exact .inr (Nat.le_trans hi.keeps.size h1)
theorem Step.frame {A B : Assn} {w w' : World} (h : Step A B w w') (F : Assn) : Step (star A F) (star B F) w w' := by
  rintro S ⟨S1, S2, h1, h2, hd, hs⟩
  obtain ⟨hk, S', hB, hs'⟩ := h S1 h1
  refine ⟨hk.mono fun b hb => (hs b).2 (.inl hb), fun b => S' b ∨ S2 b, ⟨S', S2, hB, ?_, ?_, fun b => Iff.rfl⟩, ?_⟩
  · exact F.loc _ _ _ h2 hk.size fun b hb => hk.block b (F.bnd _ _ h2 b hb) fun h1' => hd b h1' hb
  · intro b a c
    rcases hs' b a with h' | h'
    · exact hd b h' c
    · exact absurd (F.bnd _ _ h2 b c) (by omega)
  · rintro b (a | a)
    · exact (hs' b a).imp (fun h => (hs b).2 (.inl h)) id
    · exact .inl ((hs b).2 (.inr a))
theorem Step.trans {A B C : Assn} {w w1 w2 : World} (h : Step A B w w1) (k : Step B C w1 w2) : Step A C w w2 := by
  intro S hA
  obtain ⟨hk, S1, hB, hs1⟩ := h S hA
  obtain ⟨hk2, S2, hC, hs2⟩ := k S1 hB
  refine ⟨hk.trans hk2 hs1, S2, hC, fun b hb => ?_⟩
  rcases hs2 b hb with h' | h'
  · exact hs1 b h'
  · exact .inr (Nat.le_trans hk.size h')
theorem Step.ent {A A' B B' : Assn} {w w' : World} (h : Step A B w w') (ha : Ent A' A) (hb : Ent B B') : Step A' B' w w' := by
  intro S hA
  obtain ⟨T, hA', ht⟩ := ha w S hA
  obtain ⟨hk, S', hB, hs⟩ := h T hA'
  obtain ⟨T', hB', ht'⟩ := hb w' S' hB
  exact ⟨hk.mono ht, T', hB', fun b h' => (hs b (ht' b h')).imp (ht b) id⟩
/-- Nothing of the old was touched; what is new is said by C. -/
theorem Step.grow {A C : Assn} {w w' : World} (hk : Keeps NoS w w') (hC : ∃ S, C.P w' S ∧ ∀ b, S b → w.heap.size ≤ b) : Step A (star C A) w w' := by
  intro S hA
  obtain ⟨T, hC, ht⟩ := hC
  refine ⟨hk.mono fun _ h => h.elim, fun b => T b ∨ S b, ⟨T, S, hC, ?_, ?_, fun b => Iff.rfl⟩, ?_⟩
  · exact A.loc _ _ _ hA hk.size fun b hb => hk.block b (A.bnd _ _ hA b hb) fun h => h
  · intro b a c
    have := ht b a
    have := A.bnd _ _ hA b c
    omega
  · rintro b (a | a)
    · exact .inr (ht b a)
    · exact .inl a
theorem Step.same {A : Assn} {w w' : World} (hk : Keeps NoS w w') : Step A A w w' := by
  intro S hA
  refine ⟨hk.mono fun _ h => h.elim, S, ?_, fun b hb => .inl hb⟩
  exact A.loc _ _ _ hA hk.size fun b hb => hk.block b (A.bnd _ _ hA b hb) fun h => h
theorem Keeps.drew (w : World) : Keeps NoS w w.drew := ⟨rfl, rfl, rfl, Nat.le_refl _, fun _ _ _ => rfl⟩
theorem Keeps.drawn (w : World) (n : Nat) : Keeps NoS w { w with drawn := n } := ⟨rfl, rfl, rfl, Nat.le_refl _, fun _ _ _ => rfl⟩

/-- A new block. -/
theorem Step.alloc {A : Assn} (w : World) (cs : List Value) (e : TypeId) : Step A (star (pt w.heap.size cs) A) w (w.alloc (.cells cs.toArray e)) := by
  refine Step.grow ⟨rfl, rfl, rfl, by show _ ≤ (w.heap.push _).size; simp, fun b hb _ => Below.heap_alloc _ _ _ hb⟩ ⟨fun i => i = w.heap.size, ⟨⟨e, (0, 0), ?_, ?_⟩, fun i => Iff.rfl⟩, ?_⟩
  · show (w.heap.push _)[w.heap.size]? = _
    simp
  · intro i _ h
    simp at h
  · intro b hb
    omega
theorem BlockIs.cell {w : World} {b : Nat} {cs : List Value} (h : BlockIs w b cs) (o : Nat) : w.cell? ⟨b, o, none⟩ = cs[o]? := by
  obtain ⟨e, fr, h, _⟩ := h
  simp [World.cell?, h]
theorem BlockIs.free {w : World} {b : Nat} {cs : List Value} (h : BlockIs w b cs) (o : Nat) (ho : o < cs.length) : w.frozen? ⟨b, o, none⟩ = false := by
  obtain ⟨e, fr, h, hf⟩ := h
  have := hf o ho
  simp only [World.frozen?, h]
  simpa using this
theorem BlockIs.set {w : World} {b : Nat} {cs : List Value} (h : BlockIs w b cs) (o : Nat) (v : Value) : BlockIs (w.setCell ⟨b, o, none⟩ v) b (cs.set o v) := by
  obtain ⟨e, fr, h, hf⟩ := h
  refine ⟨e, fr, ?_, by simpa using hf⟩
  simp [World.setCell, Array.getElem?_modify, h]
theorem BlockIs.lt {w : World} {b : Nat} {cs : List Value} (h : BlockIs w b cs) : b < w.heap.size := by
  obtain ⟨e, fr, h, _⟩ := h
  exact (Array.getElem?_eq_some_iff.1 h).1
theorem Keeps.setCell (w : World) (b o : Nat) (v : Value) : Keeps (fun i => i = b) w (w.setCell ⟨b, o, none⟩ v) :=
  ⟨rfl, rfl, rfl, by simp [World.setCell], fun i _ hn => Below.heap_setCell _ _ _ _ hn⟩
theorem Step.setCell {w : World} {b o : Nat} {cs : List Value} (v : Value) : Step (pt b cs) (pt b (cs.set o v)) w (w.setCell ⟨b, o, none⟩ v) := by
  rintro S ⟨hb, hs⟩
  exact ⟨(Keeps.setCell w b o v).mono fun i hi => (hs i).2 hi, S, ⟨hb.set o v, hs⟩, fun i hi => .inl hi⟩

end Go.Sep
