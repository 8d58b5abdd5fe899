/-
  '==' of values that hold no address: cell by cell.
  Plain definitions and theorems; nothing of a program in it.
-/
import Derived.Test.YtfdhfnoljejkkaaSepB
import Derived.Laws.StructEq
set_option linter.unusedVariables false
set_option linter.unusedSimpArgs false
namespace Go.Sep
open Go Go.RowKit

/-- Of a kind (0: bool, 1: whole number, 2: string). -/
def leafEq (g : Nat) (x y : Value) : Option Bool := match g, x, y with
  | 0, .bool a, .bool b => some (decide (a = b))
  | 1, .int k a, .int k' b => if k = k' then some (decide (a = b)) else none
  | 2, .string a, .string b => some (decide (a = b))
  | _, _, _ => none
def eqLs (xs ys : List Value) : List (Nat × Nat) → Option Bool
  | [] => some true
  | (o, g) :: r => match xs[o]?, ys[o]? with
    | some x, some y => match leafEq g x y, eqLs xs ys r with
      | some a, some b => some (a && b)
      | _, _ => none
    | _, _ => none
def shiftL (d : Nat) (l : List (Nat × Nat)) : List (Nat × Nat) := l.map fun p => (d + p.1, p.2)
def flatFs (P : Program) (F : TypeId → Option (List (Nat × Nat))) : List Field → Option (List (Nat × Nat))
  | [] => some []
  | f :: fs => if f.name = "_" then none else match F f.type, tsz P f.type, flatFs P F fs with
    | some l, some n, some r => if l.all (fun o => decide (o.1 < n)) = true then some (shiftL f.offset l ++ r) else none
    | _, _, _ => none
/-- The places of a type's cells and their kinds, where no address can stand. -/
def flatL (P : Program) : Nat → TypeId → Option (List (Nat × Nat))
  | 0, _ => none
  | d + 1, t => match P.underlying t with
    | some .bool => some [(0, 0)]
    | some (.int _) => some [(0, 1)]
    | some .string => some [(0, 2)]
    | some (.struct fs) => if P.stoodInHeld t = true then none else flatFs P (flatL P d) fs.toList
    | _ => none

theorem eqLs_append (xs ys : List Value) : ∀ (l m : List (Nat × Nat)) (r : Bool), eqLs xs ys (l ++ m) = some r → ∃ a b, eqLs xs ys l = some a ∧ eqLs xs ys m = some b ∧ r = (a && b) := by
  intro l
  induction l with
  | nil => intro m r h; exact ⟨true, r, rfl, h, rfl⟩
  | cons o l ih =>
    intro m r h
    simp only [List.cons_append, eqLs] at h ⊢
    cases hx : xs[o.1]? with
    | none => simp [hx] at h
    | some x =>
      cases hy : ys[o.1]? with
      | none => simp [hx, hy] at h
      | some y =>
        cases hl : leafEq o.2 x y with
        | none => simp [hx, hy, hl] at h
        | some a =>
          cases hr : eqLs xs ys (l ++ m) with
          | none => simp [hx, hy, hl, hr] at h
          | some b =>
            simp only [hx, hy, hl, hr, Option.some.injEq] at h ⊢
            obtain ⟨c, e, h1, h2, h3⟩ := ih m b hr
            subst h3
            exact ⟨a && c, e, by simp [h1], h2, by rw [← h, Bool.and_assoc]⟩
theorem eqLs_sub (xs ys xs' ys' : List Value) (off : Nat) : ∀ (l : List (Nat × Nat)) (r : Bool), (∀ o ∈ l, xs'[o.1]? = xs[off + o.1]? ∧ ys'[o.1]? = ys[off + o.1]?) → eqLs xs ys (shiftL off l) = some r → eqLs xs' ys' l = some r := by
  intro l
  induction l with
  | nil => intro r _ h; exact h
  | cons o l ih =>
    intro r ho h
    simp only [shiftL, List.map_cons, eqLs] at h ⊢
    rw [(ho o (by simp)).1, (ho o (by simp)).2]
    cases hx : xs[off + o.1]? with
    | none => simp [hx] at h
    | some x =>
      cases hy : ys[off + o.1]? with
      | none => simp [hx, hy] at h
      | some y =>
        cases hl : leafEq o.2 x y with
        | none => simp [hx, hy, hl] at h
        | some a =>
          cases hr : eqLs xs ys (l.map fun p => (off + p.1, p.2)) with
          | none => simp [hx, hy, hl, hr] at h
          | some b =>
            simp only [hx, hy, hl, hr, Option.some.injEq] at h
            simp [hl, ih b (fun o' h' => ho o' (by simp [h'])) hr, h]
theorem bytes_beq (a b : ByteArray) : (a == b) = decide (a = b) := by
  have h : (a == b) = (a.data == b.data) := rfl
  rw [h]
  by_cases e : a = b
  · subst e; simp
  · have : ¬ a.data = b.data := fun h => e (by cases a; cases b; simpa using h)
    simp [e, this]

/-- '==' of two such values. -/
theorem run_flat {P : Program} : ∀ (d : Nat) {t : TypeId} {l : List (Nat × Nat)} {x y : Value} {r : Bool} (D : Nat) (w : World), flatL P d t = some l → d ≤ D → tagg P t = some (match x with | .agg _ => true | _ => false) →
    eqLs x.cells.toList y.cells.toList l = some r → (match y with | .agg _ => true | _ => false) = (match x with | .agg _ => true | _ => false) → (Op.equalIn D t x y).run P w = .ok r w := by
  intro d
  induction d with
  | zero => intro t l x y r D w h; cases h
  | succ d ih =>
    intro t l x y r D w hl hD ha he hxy
    obtain ⟨D, rfl⟩ : ∃ m, D = m + 1 := ⟨D - 1, by omega⟩
    unfold flatL at hl
    cases hu : P.underlying t with
    | none => simp [hu] at hl
    | some ty =>
      cases ty <;> first | (simp [hu] at hl; done) | skip
      · simp only [hu, Option.some.injEq] at hl
        subst hl
        simp only [tagg, hu, Option.map_some, Option.some.injEq] at ha
        cases x <;> first | (simp at ha; done) | skip
        all_goals cases y <;> first | (simp at hxy; done) | (simp [eqLs, leafEq, Value.cells] at he; done) | skip
        simp only [eqLs, leafEq, Value.cells, List.getElem?_cons_zero, Option.some.injEq, Bool.and_true] at he
        subst he
        simp [Op.equalIn, Sem.run_bind, run_underlying hu, Bool.beq_eq_decide_eq]
      · rename_i k0
        simp only [hu, Option.some.injEq] at hl
        subst hl
        simp only [tagg, hu, Option.map_some, Option.some.injEq] at ha
        cases x <;> first | (simp at ha; done) | skip
        all_goals cases y <;> first | (simp at hxy; done) | (simp [eqLs, leafEq, Value.cells] at he; done) | skip
        rename_i k a k' b
        by_cases e : k = k'
        · subst e
          simp only [eqLs, leafEq, Value.cells, List.getElem?_cons_zero, if_true, Option.some.injEq, Bool.and_true] at he
          subst he
          simp only [Op.equalIn, Sem.run_bind, run_underlying hu, Result.andThen_ok, if_true, Sem.run_pure]
          congr 1
        · simp [eqLs, leafEq, Value.cells, e] at he
      · simp only [hu, Option.some.injEq] at hl
        subst hl
        simp only [tagg, hu, Option.map_some, Option.some.injEq] at ha
        cases x <;> first | (simp at ha; done) | skip
        all_goals cases y <;> first | (simp at hxy; done) | (simp [eqLs, leafEq, Value.cells] at he; done) | skip
        rename_i a b
        simp only [eqLs, leafEq, Value.cells, List.getElem?_cons_zero, Option.some.injEq, Bool.and_true] at he
        subst he
        simp only [Op.equalIn, Sem.run_bind, run_underlying hu, Result.andThen_ok, Sem.run_pure, bytes_beq]
      · rename_i fs
        simp only [hu] at hl
        split at hl
        · cases hl
        · rename_i hp
          simp only [tagg, hu, Option.map_some, Option.some.injEq] at ha
          cases x <;> first | (simp at ha; done) | skip
          cases y <;> first | (simp at hxy; done) | skip
          rename_i xs ys
          have hf : P.fieldsOf t = fs := by simp [Program.fieldsOf, hu]
          rw [run_equalIn_struct (P := P) w D t xs ys (by rw [hf]; exact hu) (by simpa using hp), hf]
          simp only [Value.cells] at he
          revert l r
          generalize fs.toList = L
          induction L with
          | nil =>
            intro l r hl he
            simp only [flatFs, Option.some.injEq] at hl
            subst hl
            simp only [eqLs, Option.some.injEq] at he
            subst he
            simp [Op.eqFields]
          | cons f L ihL =>
            intro l r hl he
            simp only [flatFs] at hl
            split at hl
            · cases hl
            · rename_i hn
              cases h1 : flatL P d f.type with
              | none => simp [h1] at hl
              | some lf =>
                cases h2 : tsz P f.type with
                | none => simp [h1, h2] at hl
                | some n =>
                  cases h3 : flatFs P (flatL P d) L with
                  | none => simp [h1, h2, h3] at hl
                  | some lr =>
                    simp only [h1, h2, h3] at hl
                    split at hl
                    · rename_i hall
                      cases hl
                      obtain ⟨a, b, ea, eb, rfl⟩ := eqLs_append _ _ _ _ _ he
                      have hrest := ihL h3 eb
                      have hfield : ∃ u v, (part f.type xs f.offset).run P w = .ok u w ∧ (part f.type ys f.offset).run P w = .ok v w ∧ (Op.equalIn D f.type u v).run P w = .ok a w := by
                        cases hag : tagg P f.type with
                        | none =>
                          exfalso
                          cases d with
                          | zero => cases h1
                          | succ d =>
                            simp only [tagg, Option.map_eq_none_iff] at hag
                            simp [flatL, hag] at h1
                        | some g =>
                          cases g with
                          | true =>
                            refine ⟨.agg (xs.extract f.offset (f.offset + n)), .agg (ys.extract f.offset (f.offset + n)), by simp [part, Sem.run_bind, run_agg hag, run_sz h2], by simp [part, Sem.run_bind, run_agg hag, run_sz h2], ?_⟩
                            refine ih D w h1 (by omega) hag ?_ rfl
                            refine eqLs_sub xs.toList ys.toList _ _ f.offset lf a (fun o ho => ?_) ea
                            have ho' : o.1 < n := by have := List.all_eq_true.1 hall o ho; simpa using this
                            simp only [Value.cells]
                            constructor
                            · simp only [Array.getElem?_toList, Array.getElem?_extract]
                              split
                              · rfl
                              · symm; rw [Array.getElem?_eq_none_iff]; omega
                            · simp only [Array.getElem?_toList, Array.getElem?_extract]
                              split
                              · rfl
                              · symm; rw [Array.getElem?_eq_none_iff]; omega
                          | false =>
                            have hone : ∃ g, lf = [(0, g)] := by
                              cases d with
                              | zero => cases h1
                              | succ d =>
                                simp only [tagg] at hag
                                unfold flatL at h1
                                cases hu' : P.underlying f.type with
                                | none => simp [hu'] at h1
                                | some ty =>
                                  cases ty <;> first | (simp [hu'] at h1; done) | (simp only [hu', Option.some.injEq] at h1; exact ⟨_, h1.symm⟩) | (simp [hu'] at hag; done)
                            obtain ⟨g, rfl⟩ := hone
                            simp only [shiftL, List.map_cons, List.map_nil, Nat.add_zero, eqLs] at ea
                            cases hx : xs.toList[f.offset]? with
                            | none => simp [hx] at ea
                            | some u =>
                              cases hy : ys.toList[f.offset]? with
                              | none => simp [hx, hy] at ea
                              | some v =>
                                cases hle : leafEq g u v with
                                | none => simp [hx, hy, hle] at ea
                                | some c =>
                                  simp only [hx, hy, hle, Option.some.injEq, Bool.and_true] at ea
                                  subst ea
                                  rw [Array.getElem?_toList] at hx hy
                                  have hnl : ∀ z z', leafEq g z z' = some c → (match z with | .agg _ => true | _ => false) = false ∧ (match z' with | .agg _ => true | _ => false) = false := by
                                    intro z z' hz
                                    cases z <;> cases z' <;> first | exact ⟨rfl, rfl⟩ | (exfalso; rcases g with _ | _ | _ | g <;> cases hz)
                                  refine ⟨u, v, by simp [part, Sem.run_bind, run_agg hag, hx], by simp [part, Sem.run_bind, run_agg hag, hy], ?_⟩
                                  refine ih D w h1 (by omega) (by rw [hag, (hnl u v hle).1]) ?_ (by rw [(hnl u v hle).1, (hnl u v hle).2])
                                  have hcu : u.cells.toList = [u] := by cases u <;> first | rfl | (have := (hnl _ _ hle).1; simp at this)
                                  have hcv : v.cells.toList = [v] := by cases v <;> first | rfl | (have := (hnl _ _ hle).2; simp at this)
                                  rw [hcu, hcv]
                                  simp [eqLs, hle]
                      obtain ⟨u, v, e1, e2, e3⟩ := hfield
                      simp only [Op.eqFields]
                      rw [if_pos (by simpa using hn)]
                      simp only [Sem.run_bind, e1, e2, e3, Result.andThen_ok]
                      cases a with
                      | false => simp
                      | true => simpa using hrest
                    · cases hl

end Go.Sep
