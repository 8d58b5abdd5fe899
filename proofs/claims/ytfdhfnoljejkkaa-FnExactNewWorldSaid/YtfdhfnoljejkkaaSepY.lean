/-
  New slices of one element, appended ones.
  Plain definitions and theorems; nothing of a program in it.
-/
import Derived.Test.YtfdhfnoljejkkaaSepX
set_option linter.unusedVariables false
set_option linter.unusedSimpArgs false
namespace Go.Sep
open Go Go.RowKit

theorem splice_all : ∀ (vs cs : List Value) , cs.length = vs.length → splice cs 0 vs = vs := by
  have key : ∀ (vs pre cs : List Value), cs.length = vs.length → splice (pre ++ cs) pre.length vs = pre ++ vs := by
    intro vs
    induction vs with
    | nil => intro pre cs h; have := List.eq_nil_of_length_eq_zero h; subst this; rfl
    | cons v r ih =>
      intro pre cs h
      cases cs with
      | nil => simp at h
      | cons c cs =>
        simp only [splice]
        rw [List.set_append_right _ _ (by omega), Nat.sub_self, List.set_cons_zero]
        have := ih (pre ++ [v]) cs (by simpa using h)
        simpa using this
  intro vs cs h
  simpa using key vs [] cs h
section
variable {P : Program} {N : Nat} {k : List It} {E : Env} {L : List Loc} {H : List Assn} {Q : Post}
theorem SEM.build1 {all l : List Oper} {o : Oper} {t e : TypeId} {sz : Nat} {x : Operand} {z : List Value} {y : AV} {val : Value} (hy : y.to L = some val) (hl : val.cells.toList.length = sz) (h1 : AllOne val.cells.toList)
    (h : ∀ b, SEM P N (.ops all l :: k) (E.put o.dst (.v (.slice (some ⟨b, 0, none⟩) 1 1))) L (Row (.slice (some ⟨b, 0, none⟩) 1 1) 1 sz val.cells.toList :: H) Q)
    (hg : o.guard = none) (hd : dstOk N o.dst = true) (ho : o.op = .buildSlice t 1 #[(0, x)]) (hx : E.ev x = some y)
    (ht : tsl P t = some e) (hz : tsz P e = some sz) (hzero : tzero P e = some z) (hsm : sz ≤ 16777216) (hsz : 0 < sz) : SEM P N (.ops all (o :: l) :: k) E L H Q := by
  refine SEM.buildSlice (vs := [val]) (cells := val.cells) hg hd ho ht hz hzero (by omega) hsz (by simp [vals, hx, hy]) ?_ (by simpa using hl) h1 h
  have hlen : ((List.range (1 * sz)).map (z.toArray[· % z.toArray.size]!)).length = sz := by simp
  have hf : fillF (fun i => some (i * sz, sz)) ((List.range (1 * sz)).map (z.toArray[· % z.toArray.size]!)) [(0, val)] = some val.cells.toList := by
    simp only [fillF, hl, true_and]
    rw [if_pos (by omega), Nat.zero_mul, splice_all _ _ (by rw [hlen, hl])]
  have := fill_fillF _ _ _ _ hf
  simp only [Array.toArray_toList] at this
  rw [← this]
  congr 1
  apply Array.ext'
  simp
theorem OwnS.of_rep {α : Type} {enc : α → List Value} {n : Nat} (hl : ∀ x, (enc x).length = n) (h1 : ∀ x, AllOne (enc x)) (v : Value) (m : Nat) (x : α) : Ent (Row v m n (List.replicate m (enc x)).flatten) (OwnS (K.flat enc n hl h1) v (List.replicate m x)) := by
  have := OwnS.of_flat hl h1 v (List.replicate m x)
  rw [List.length_replicate, List.flatMap_def, List.map_replicate] at this
  exact this
theorem rep_succ {cs : List Value} (i : Nat) : (List.replicate i cs).flatten ++ cs = (List.replicate (i + 1) cs).flatten := by
  rw [List.replicate_succ', List.flatten_append]; simp
theorem mask32 {x : Int} (h0 : 0 ≤ x) (h : x < 4294967296) : bAnd .u64 x 4294967295 = x := by
  have e : (BitVec.ofInt 64 x &&& BitVec.ofInt 64 4294967295).toNat = x.toNat := by
    rw [BitVec.toNat_and, BitVec.toNat_ofInt, BitVec.toNat_ofInt]
    show (x % 18446744073709551616).toNat &&& (2 ^ 32 - 1) = x.toNat
    rw [Nat.and_two_pow_sub_one_eq_mod]
    omega
  show IntKind.u64.wrap ((BitVec.ofInt 64 x &&& BitVec.ofInt 64 4294967295).toNat : Nat) = x
  rw [e, IntKind.wrap_u64]
  omega
theorem shr32 {x : Int} (h0 : 0 ≤ x) (h : x < 4294967296) : bShr .u64 x 32 = 0 := by
  show x.fdiv 4294967296 = 0
  rw [Int.fdiv_eq_ediv_of_nonneg _ (by omega)]
  omega
/-! ### Zero values own nothing -/
theorem Ent.emp2 {A B : Assn} (h : Ent emp A) (h' : Ent emp B) : Ent emp (Sep.star A B) := (Ent.empl emp).trans (Ent.star h h')
theorem Ent.empf {p : Prop} (h : p) : Ent emp (fact p) := ent_fact h
theorem Ent.empx {α : Type} {A : α → Assn} (x : α) (h : Ent emp (A x)) : Ent emp (ex A) := h.trans (Ent.ex_intro x)
theorem own_nil {α : Type} (k : K α) (A : Option Addr) : Ent emp (OwnS k (.slice A 0 0) []) :=
  Ent.empx [] (Ent.emp2 (Row.empty A k.sz) (Ent.refl _))
theorem kS_nil {α : Type} (k : K α) (A : Option Addr) : Ent emp ((kS k).own [] [.slice A 0 0]) := by
  show Ent emp (ex fun u => star (fact ([.slice A 0 0] = [u])) (OwnS k u []))
  exact Ent.empx (.slice A 0 0) (Ent.emp2 (Ent.empf rfl) (own_nil k A))
theorem ownF_emp {α : Type} {f : Fld α} {fs : List (Fld α)} {x : α} {cs : List Value} (n : Nat) (h : Ent emp (f.k.own (f.π x) (cs.take n))) (h' : Ent emp (ownF x fs (cs.drop n))) : Ent emp (ownF x (f :: fs) cs) :=
  Ent.empx (cs.take n) (Ent.empx (cs.drop n) (Ent.emp2 (Ent.empf (List.take_append_drop n cs).symm) (Ent.emp2 h h')))
theorem bigs_emp {α : Type} {k : K α} {x : α} {z : List Value} (h : Ent emp (k.own x z)) : ∀ m, Ent emp (bigs k (List.replicate m x) (List.replicate m z)) := by
  intro m
  induction m with
  | zero => exact Ent.refl _
  | succ m ih => exact Ent.emp2 h ih
theorem OwnS.of_zero {α : Type} {k : K α} {x : α} {z : List Value} {v : Value} (m : Nat) (h : Ent emp (k.own x z)) : Ent (Row v m k.sz (List.replicate m z).flatten) (OwnS k v (List.replicate m x)) := by
  refine Ent.trans ?_ (Ent.ex_intro (List.replicate m z))
  rw [List.length_replicate]
  exact (Ent.empr _).trans (Ent.star (Ent.refl _) (bigs_emp h m))
/-- Cells of a value that is loaded whole. -/
theorem agg_cells (cs : List Value) : (Value.agg cs.toArray).cells.toList = cs := rfl
end
end Go.Sep
