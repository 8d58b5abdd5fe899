/-
  What is still wanted for turning slices in place: entries, endings, the texts of the marks.
  Plain definitions and theorems; nothing of a program in it.
-/
import Derived.Test.YtfdhfnoljejkkaaSepV
set_option linter.unusedVariables false
set_option linter.unusedSimpArgs false
namespace Go.Sep
open Go Go.RowKit

theorem Fn.run1 {P : Program} {N : Nat} {f : FuncId} {fn : Func} {c : Code} {rs : List ResultVar} {args : List Value} {A : Assn} {B : Value → Assn} (n : Nat) (hf : P.funcs[f]? = some fn) (hn : fn.ntmps = N) (hb : fn.body = some c)
    (hrs : fn.results = rs.toArray) (ha : args.length ≤ N) (h : wpk P N n [.code c] (enterE 0 args) [] [A] (RetPost P rs B)) : Fn P f args A B :=
  (Fn.run n hf hn hb hrs ha h).mono (Ent.empr _) fun _ => Ent.refl _
theorem Fn.ownS1 {P : Program} {f : FuncId} {α : Type} {k : K α} {v : Value} {xs : List α} {args : List Value} {B : Value → Assn} (h : ∀ X c, v = .slice X xs.length c → xs.length ≤ c → xs.length ≤ 140737488355328 → (0 < xs.length → ∃ ad, X = some ad) → Fn P f args (OwnS k v xs) B) :
    Fn P f args (OwnS k v xs) B := by
  intro w S hA
  obtain ⟨X, c, hv, hc, hX⟩ := OwnS.shape w S hA
  exact h X c hv hc.1 hc.2 hX w S hA
theorem OwnS.put_in' {α : Type} {k : K α} {v : Value} {n : Nat} {x : α} {M D : List α} {P c Q : List Value} (hn : n = M.length + 1 + D.length) : Ent (star (Row v n k.sz (P ++ c ++ Q)) (star (Hole k M D P Q) (k.own x c))) (OwnS k v (M ++ x :: D)) :=
  (Ent.star (Ent.refl _) (Ent.comm _ _)).trans (OwnS.put_in hn)
theorem OwnS.close {H : List Assn} {α : Type} {k : K α} {v : Value} {n : Nat} {x : α} {M D : List α} {P' c Q' : List Value} (i : Nat) (hi : H[i]? = some (Row v n k.sz (P' ++ c ++ Q'))) (hn : n = M.length + 1 + D.length)
    (h : Ent (stars (H.eraseIdx i)) (star (Hole k M D P' Q') (k.own x c))) : Ent (stars H) (OwnS k v (M ++ x :: D)) :=
  (Ent.pick i hi (Ent.refl _) h).trans (OwnS.put_in' hn)
theorem kS_own {α : Type} (k : K α) (v : Value) (xs : List α) : Ent (OwnS k v xs) ((kS k).own xs [v]) := by
  show Ent (OwnS k v xs) (ex fun u => star (fact ([v] = [u])) (OwnS k u xs))
  exact Ent.trans (Ent.fact_intro (p := [v] = [v]) rfl) (Ent.ex_intro (A := fun u => star (fact ([v] = [u])) (OwnS k u xs)) v)
theorem Ent.oexL {H : List Assn} {α : Type} {A : α → Assn} {B : Assn} (x : α) (h : Ent (stars H) (Sep.star (A x) B)) : Ent (stars H) (Sep.star (ex A) B) := h.trans (Ent.star (Ent.ex_intro x) (Ent.refl _))
theorem Ent.assocL {H : List Assn} {A B C : Assn} (h : Ent (stars H) (Sep.star A (Sep.star B C))) : Ent (stars H) (Sep.star (Sep.star A B) C) := h.trans (Ent.assoc' _ _ _)
theorem ownF_step {H : List Assn} {α : Type} {f : Fld α} {fs : List (Fld α)} {x : α} {cs : List Value} (n : Nat) (h : Ent (stars H) (star (f.k.own (f.π x) (cs.take n)) (ownF x fs (cs.drop n)))) : Ent (stars H) (ownF x (f :: fs) cs) :=
  Ent.oex (cs.take n) (Ent.oex (cs.drop n) (Ent.ofact (List.take_append_drop n cs).symm h))
theorem ownF_stepL {H : List Assn} {α : Type} {f : Fld α} {fs : List (Fld α)} {x : α} {cs : List Value} {B : Assn} (n : Nat) (h : Ent (stars H) (star (f.k.own (f.π x) (cs.take n)) (star (ownF x fs (cs.drop n)) B))) : Ent (stars H) (star (ownF x (f :: fs) cs) B) := by
  refine Ent.oexL (cs.take n) (Ent.oexL (cs.drop n) (Ent.assocL (Ent.ofact (List.take_append_drop n cs).symm (Ent.assocL h))))
theorem Ent.done {A : Assn} : Ent (stars [A]) A := Ent.left _ _

theorem SEM.close {P : Program} {N : Nat} {k : List It} {E : Env} {L : List Loc} {H : List Assn} {Q : Post} (A : Assn) (idx : List Nat) (e : Ent (stars H) (star A (stars (idx.foldl (fun l i => l.eraseIdx i) H))))
    (h : SEM P N k E L (A :: idx.foldl (fun l i => l.eraseIdx i) H) Q) : SEM P N k E L H Q := SEM.ent h e
theorem QG.loadF {P : Program} {N : Nat} {k : List It} {all : List Oper} {L : List Loc} {H : List Assn} {Q : Post} {E : Env} (n : Nat) {o : Oper} {l : List Oper} {t : TypeId} {x : Operand} {ad : Addr} {q p : Nat} {cs : List Value} (d : Nat) (hs : Says (stA L H) fun w => CellsAt w (ad.add p) cs) (hq : q = p + d) {v : Value} (hv : loadC P t cs d = some v)
    (h : qrn P N n k all L H Q l (E.put o.dst (.v v))) (ho : o.op = .load t x) (hx : E.ev x = some (.v (.pointer (some (ad.add q))))) : QG P N k all L H Q o l E := by
  subst hq
  refine QG.load n (ad := ad.add (p + d)) (cs := cs.drop d) (hs.imp fun w h => ?_) (loadC_off hv) h ho hx
  have := h.drop d
  rwa [add_add] at this
/-! ### What a function starts from, opened -/
section
variable {P : Program} {f : FuncId} {args : List Value} {H : List Assn} {B : Value → Assn}
theorem FnH.openEx {α : Type} {A : α → Assn} (h : ∀ x, Fn P f args (stars (A x :: H)) B) : Fn P f args (stars (ex A :: H)) B := by
  rintro w S ⟨S1, S2, ⟨x, h1⟩, h2, hd, hs⟩
  exact h x w S ⟨S1, S2, h1, h2, hd, hs⟩
theorem FnH.open1 {H' : List Assn} (h : Fn P f args (stars H') B) (e : Ent (stars H) (stars H')) : Fn P f args (stars H) B := h.mono e fun _ => Ent.refl _
theorem FnH.openFact {p : Prop} (h : p → Fn P f args (stars H) B) : Fn P f args (stars (fact p :: H)) B := by
  rintro w S ⟨S1, S2, ⟨h1, h0⟩, h2, hd, hs⟩
  have := Fn.mono (A' := star (fact p) (stars H)) (h h1) (Ent.right _ _) (fun _ => Ent.refl _)
  exact this w S ⟨S1, S2, ⟨h1, h0⟩, h2, hd, hs⟩
theorem FnH.openStar {A A' : Assn} (h : Fn P f args (stars (A :: A' :: H)) B) : Fn P f args (stars (star A A' :: H)) B := FnH.open1 h (Ent.assoc _ _ _)
theorem FnH.swap {A A' : Assn} (h : Fn P f args (stars (A' :: A :: H)) B) : Fn P f args (stars (A :: A' :: H)) B :=
  FnH.open1 h ((Ent.assoc' _ _ _).trans ((Ent.star (Ent.comm _ _) (Ent.refl _)).trans (Ent.assoc _ _ _)))
theorem FnH.pull (i : Nat) {A : Assn} (hH : H[i]? = some A) (h : Fn P f args (stars (A :: H.eraseIdx i)) B) : Fn P f args (stars H) B := FnH.open1 h (stars_pick H i A hH)
theorem FnH.one {A : Assn} (h : Fn P f args (stars [A]) B) : Fn P f args A B := h.mono (Ent.empr _) fun _ => Ent.refl _
end

/-! ### The texts of the marks -/
def mDig (k : Int) : ByteArray := ⟨#[UInt8.ofNat (48 + (k.tmod 10).toNat)]⟩
def mGo : Nat → Int → ByteArray → ByteArray
  | 0, _, out => out
  | n + 1, k, out => if 0 < k then mGo n (k.tdiv 10) (mDig k ++ out) else out
def mText (k : Int) : ByteArray := if k ≤ 0 then ⟨#[109, 48]⟩ else ⟨#[109]⟩ ++ mGo 64 k ByteArray.empty
end Go.Sep
