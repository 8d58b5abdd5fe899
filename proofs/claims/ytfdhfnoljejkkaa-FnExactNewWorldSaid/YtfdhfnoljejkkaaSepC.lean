/-
  The symbolic run: what quiet operations give, the run of code over a stack of what is still to come, each step shown right.
  Plain definitions and theorems; nothing of a program in it.
-/
import Derived.Test.YtfdhfnoljejkkaaSepBb
set_option linter.unusedVariables false
set_option linter.unusedSimpArgs false
namespace Go.Sep
open Go Go.RowKit

def loadL (P : Program) (t : TypeId) (o : Nat) : Option Loc → Option AV
  | some p => match loadC P t p.2 o with | some v => some (.v v) | none => none
  | none => none
def unV (op : UnOp) : Value → Option Value
  | .bool b => match op with | .not => some (.bool !b) | _ => none
  | .int k n => match op with | .neg => some (.int k (k.wrap (0 - n))) | _ => none
  | _ => none
def convV (P : Program) (s d : TypeId) : Value → Option Value
  | .int _ n => match (P.underlying s).isSome, tint P d with | true, some k => some (.int k (k.wrap n)) | _, _ => none
  | .string x => match (P.underlying s).isSome, tstr P d with | true, true => some (.string x) | _, _ => none
  | _ => none
def lenV (P : Program) (t : TypeId) : Value → Option Value
  | .string s => if tstr P t = true then some (.int .i64 s.size) else none
  | .slice _ n _ => match tsl P t with | some _ => some (.int .i64 n) | none => none
  | _ => none
def capV (P : Program) (t : TypeId) : Value → Option Value
  | .slice _ _ n => match tsl P t with | some _ => some (.int .i64 n) | none => none
  | _ => none
def mm2 (mx : Bool) : Value → Value → Option Value
  | .int k x, .int k' y => if k = k' then some (.int k (if mx then (if x < y then y else x) else (if y < x then y else x))) else none
  | _, _ => none
def fieldV (P : Program) (t : TypeId) (f : Nat) : Value → Option Value
  | .agg cs => match tfv P t f with
    | some (o, n, true) => some (.agg (cs.extract o (o + n)))
    | some (o, _, false) => cs[o]?
    | none => none
  | _ => none
/-- The leaves of a type whose values '==' compares cell by cell. -/
def eqT (P : Program) (t : TypeId) : Option (List (Nat × Nat)) := match tagg P t, P.eqGuardType P.depth t with
  | some true, false => flatL P 8 t
  | _, _ => none
def tbool (P : Program) (t : TypeId) : Bool := match P.underlying t with | some .bool => true | _ => false
def eqB (P : Program) (t : TypeId) : Value → Value → Option Bool
  | .agg xs, .agg ys => match eqT P t with | some l => eqLs xs.toList ys.toList l | none => none
  | .bool a, .bool b => if tbool P t = true then some (decide (a = b)) else none
  | .slice a _ _, .slice none _ _ => match tsl P t with | some _ => some a.isNone | none => none
  | _, _ => none
def eqV (P : Program) (op : BinOp) (t : TypeId) (x y : Value) : Option Value := match op with
  | .eql => match eqB P t x y with | some b => some (.bool b) | none => none
  | .neq => match eqB P t x y with | some b => some (.bool !b) | none => none
  | _ => none
theorem run_eqB {P : Program} {t : TypeId} {x y : Value} {b : Bool} {op : BinOp} {ox oy : Operand} (h : eqB P t x y = some b) (w : World) :
    (eqGuard op t ox oy x y).run P w = .ok () w ∧ (Op.equal t x y).run P w = .ok b w ∧ (∀ w, (binOp .eql t x y).run P w = ((Op.equal t x y).run P w).andThen fun b w' => .ok (.bool b) w') ∧
      (∀ w, (binOp .neq t x y).run P w = ((Op.equal t x y).run P w).andThen fun b w' => .ok (.bool (!b)) w') := by
  cases x <;> cases y <;> first | (simp [eqB] at h; done) | skip
  · rename_i a c
    simp only [eqB] at h
    split at h
    · rename_i ht
      cases h
      unfold tbool at ht
      split at ht
      · rename_i hu
        refine ⟨by cases op <;> simp [eqGuard], ?_, fun w => by simp only [binOp, Sem.run_bind]; rfl, fun w => by simp only [binOp, Sem.run_bind]; rfl⟩
        refine run_flat 1 10000 w (l := [(0, 0)]) (by simp [flatL, hu]) (by decide) (by simp [tagg, hu]) (by simp [eqLs, leafEq, Value.cells]) rfl
      · cases ht
    · cases h
  · rename_i a n c a' n' c'
    cases a' with
    | some q => cases a <;> simp [eqB] at h
    | none =>
      have h' : (match tsl P t with | some _ => some a.isNone | none => none) = some b := by
        cases a <;> simpa [eqB] using h
      unfold tsl at h'
      cases hu : P.underlying t with
      | none => simp [hu] at h'
      | some d =>
        cases d <;> first | (simp [hu] at h'; done) | skip
        simp only [hu, Option.some.injEq] at h'
        subst h'
        refine ⟨by cases op <;> simp [eqGuard], ?_, fun w => by simp only [binOp, Sem.run_bind]; rfl, fun w => by simp only [binOp, Sem.run_bind]; rfl⟩
        have key : ∀ D, (Op.equalIn (D + 1) t (.slice a n c) (.slice none n' c')).run P w = .ok a.isNone w := by
          intro D
          cases a <;> simp only [Op.equalIn, Sem.run_bind, run_underlying hu, Result.andThen_ok, Sem.run_pure] <;> rfl
        exact key 9999
  · rename_i xs ys
    simp only [eqB] at h
    cases hl : eqT P t with
    | none => simp [hl] at h
    | some l =>
      simp only [hl] at h
      unfold eqT at hl
      split at hl
      · rename_i ha hg
        refine ⟨run_eqGuard_agg (P := P) w op t ox oy xs ys hg, ?_, fun w => ?_, fun w => ?_⟩
        · exact run_flat 8 10000 w hl (by decide) ha h rfl
        · simp only [binOp, Sem.run_bind]; rfl
        · simp only [binOp, Sem.run_bind]; rfl
      · cases hl
theorem run_eqV {P : Program} {op : BinOp} {t : TypeId} {x y : Operand} {a b v : Value} (h : eqV P op t a b = some v) (w : World) :
    (do eqGuard op t x y a b; binOp op t a b : Sem Value).run P w = .ok v w := by
  unfold eqV at h
  cases op <;> first | (cases h; done) | skip
  · cases hb : eqB P t a b with
    | none => simp [hb] at h
    | some c =>
      simp only [hb, Option.some.injEq] at h
      subst h
      obtain ⟨h1, h2, h3, h4⟩ := run_eqB (op := .eql) (ox := x) (oy := y) hb w
      simp only [Sem.run_bind, h1, Result.andThen_ok, h3, h2]
  · cases hb : eqB P t a b with
    | none => simp [hb] at h
    | some c =>
      simp only [hb, Option.some.injEq] at h
      subst h
      obtain ⟨h1, h2, h3, h4⟩ := run_eqB (op := .neq) (ox := x) (oy := y) hb w
      simp only [Sem.run_bind, h1, Result.andThen_ok, h4, h2]
def vals (ev : Operand → Option AV) (L : List Loc) : List Operand → Option (List Value)
  | [] => some []
  | x :: r => match ev x with
    | some y => match y.to L with
      | some v => match vals ev L r with | some vs => some (v :: vs) | none => none
      | none => none
    | none => none
/-- The places of a struct's parts. -/
def tplaces (P : Program) (t : TypeId) : Option (List (Nat × Nat)) := match P.underlying t with
  | some (.struct fs) => fs.toList.mapM fun f => (tsz P f.type).map fun n => (f.offset, n)
  | _ => none
/-- Cells, filled part by part. -/
def fillF (pl : Nat → Option (Nat × Nat)) (cs : List Value) : List (Nat × Value) → Option (List Value)
  | [] => some cs
  | (i, v) :: r => match pl i with
    | some (o, n) => if v.cells.toList.length = n ∧ o + n ≤ cs.length then fillF pl (splice cs o v.cells.toList) r else none
    | none => none
theorem fold_splice (o : Nat) : ∀ (vs : List Value) (s : Nat) (cs : Array Value), (vs.zipIdx s).foldl (fun (cs : Array Value) (x : Value × Nat) => cs.setIfInBounds (o + x.2) x.1) cs = (splice cs.toList (o + s) vs).toArray := by
  intro vs
  induction vs with
  | nil => intro s cs; simp [splice]
  | cons v r ih =>
    intro s cs
    simp only [List.zipIdx_cons, List.foldl_cons, splice]
    rw [ih]
    simp [Nat.add_assoc]
theorem fill_fillF (pl : Nat → Option (Nat × Nat)) : ∀ (l : List (Nat × Value)) (cs out : List Value), fillF pl cs l = some out → Instr.fill pl cs.toArray l = some out.toArray := by
  intro l
  induction l with
  | nil => intro cs out h; simp only [fillF, Option.some.injEq] at h; subst h; rfl
  | cons x r ih =>
    intro cs out h
    obtain ⟨i, v⟩ := x
    simp only [fillF] at h
    simp only [Instr.fill]
    cases hp : pl i with
    | none => simp [hp] at h
    | some q =>
      obtain ⟨o, n⟩ := q
      simp only [hp] at h
      split at h
      · rename_i hc
        obtain ⟨h1, h2⟩ := hc
        have hsz : v.cells.size = n := by simpa using h1
        simp only []
        rw [if_neg (by simp [hsz]; omega)]
        have e : (v.cells.zipIdx.foldl (fun (cs : Array Value) (x : Value × Nat) => cs.setIfInBounds (o + x.2) x.1) cs.toArray) = (splice cs o v.cells.toList).toArray := by
          rw [← Array.foldl_toList, Array.toList_zipIdx]
          have := fold_splice o v.cells.toList 0 cs.toArray
          simpa using this
        have := ih _ _ h
        rw [← e] at this
        exact this
      · cases h
def onV (f : Value → Option Value) : Option AV → Option AV
  | some (.v a) => match f a with | some v => some (.v v) | none => none
  | _ => none
def onV2 (f : Value → Value → Option Value) : Option AV → Option AV → Option AV
  | some (.v a), some (.v b) => match f a b with | some v => some (.v v) | none => none
  | _, _ => none

/-- What an operation gives that looks at no memory but the call's own blocks, and changes none. -/
def qop (P : Program) (op : Op) (ev : Operand → Option AV) (L : List Loc) : Option AV := match op with
  | .move x | .assign x => ev x
  | .pick c a b => match ev c with
    | some (.v (.bool true)) => ev a
    | some (.v (.bool false)) => ev b
    | _ => none
  | .fieldAddr s x f => match ev x, tfo P s f with
    | some (.l k o), some d => some (.l k (o + d))
    | some (.v (.pointer (some a))), some d => some (.v (.pointer (some (pl a d))))
    | _, _ => none
  | .nilCheck x => match ev x with
    | some (.l k o) => some (.l k o)
    | some (.v (.pointer (some a))) => some (.v (.pointer (some a)))
    | some (.v (.func (.func f) g c)) => some (.v (.func (.func f) g c))
    | _ => none
  | .load t x => match ev x with
    | some (.l k o) => loadL P t o (L[k]?)
    | _ => none
  | .binOp op t x y _ => match onV2 (binV op) (ev x) (ev y) with
    | some r => some r
    | none => onV2 (eqV P op t) (ev x) (ev y)
  | .unOp op _ x => onV (unV op) (ev x)
  | .convert s d x => onV (convV P s d) (ev x)
  | .extract x i => onV (fun v => match v with | .tuple vs => vs[i]? | _ => none) (ev x)
  | .field t x f => onV (fieldV P t f) (ev x)
  | .makeFunc fn first cap => match vals ev L first.toList, vals ev L cap.toList with
    | some xs, some ys => some (.v (.func fn xs.toArray ys.toArray))
    | _, _ => none
  | .build t parts => match vals ev L (parts.toList.map (·.2)), tzero P t, tplaces P t with
    | some vs, some z, some pl => match fillF (fun i => pl[i]?) z ((parts.toList.map (·.1)).zip vs) with
      | some cs => some (.v (.agg cs.toArray))
      | none => none
    | _, _, _ => none
  | .call c => match c.callee with
    | .builtin .len => match c.args.toList, c.argTypes.toList with | [x], [t] => onV (lenV P t) (ev x) | _, _ => none
    | .builtin .cap => match c.args.toList, c.argTypes.toList with | [x], [t] => onV (capV P t) (ev x) | _, _ => none
    | .builtin .min => match c.args.toList with | [x, y] => onV2 (mm2 false) (ev x) (ev y) | _ => none
    | .builtin .max => match c.args.toList with | [x, y] => onV2 (mm2 true) (ev x) (ev y) | _ => none
    | _ => none
  | _ => none

theorem onV_some {f : Value → Option Value} {x : Option AV} {y : AV} (h : onV f x = some y) : ∃ a v, x = some (.v a) ∧ f a = some v ∧ y = .v v := by
  cases x with
  | none => simp [onV] at h
  | some x =>
    cases x with
    | l k o => simp [onV] at h
    | v a =>
      simp only [onV] at h
      cases hf : f a with
      | none => simp [hf] at h
      | some v => simp only [hf, Option.some.injEq] at h; exact ⟨a, v, rfl, hf, h.symm⟩
theorem onV2_some {f : Value → Value → Option Value} {x z : Option AV} {y : AV} (h : onV2 f x z = some y) : ∃ a b v, x = some (.v a) ∧ z = some (.v b) ∧ f a b = some v ∧ y = .v v := by
  cases x with
  | none => simp [onV2] at h
  | some x =>
    cases x with
    | l k o => simp [onV2] at h
    | v a =>
      cases z with
      | none => simp [onV2] at h
      | some z =>
        cases z with
        | l k o => simp [onV2] at h
        | v b =>
          simp only [onV2] at h
          cases hf : f a b with
          | none => simp [hf] at h
          | some v => simp only [hf, Option.some.injEq] at h; exact ⟨a, b, v, rfl, rfl, hf, h.symm⟩

section
variable {P : Program} {ev : Operand → Option AV} {L : List Loc} {ρ : Operand → Value} {w : World}

theorem vals_map (hev : ∀ x y, ev x = some y → y.to L = some (ρ x)) : ∀ (l : List Operand) (vs : List Value), vals ev L l = some vs → l.map ρ = vs := by
  intro l
  induction l with
  | nil => intro vs h; simp only [vals, Option.some.injEq] at h; subst h; rfl
  | cons x r ih =>
    intro vs h
    simp only [vals] at h
    cases hx : ev x with
    | none => simp [hx] at h
    | some y =>
      simp only [hx, hev x y hx] at h
      cases hr : vals ev L r with
      | none => simp [hr] at h
      | some us => simp only [hr, Option.some.injEq] at h; subst h; simp [ih us hr]

theorem run_sizes {P : Program} {w : World} : ∀ (fs : List Field) (pl : List (Nat × Nat)), (fs.mapM fun f => (tsz P f.type).map fun n => (f.offset, n)) = some pl → (fs.mapM fun f => (do pure (f.offset, ← sizeOf f.type) : Sem (Nat × Nat))).run P w = .ok pl w := by
  intro fs
  induction fs with
  | nil => intro pl h; simp at h; subst h; simp
  | cons f r ih =>
    intro pl h
    simp only [List.mapM_cons, Option.bind_eq_bind, Option.bind_eq_some_iff, Option.map_eq_some_iff, Option.pure_def, Option.some.injEq] at h
    obtain ⟨q, ⟨n, hn, rfl⟩, pl', hp, rfl⟩ := h
    simp only [List.mapM_cons, Sem.run_bind, run_sz hn, Result.andThen_ok, Sem.run_pure, ih _ hp]
theorem run_build {P : Program} {w : World} {t : TypeId} {z cs : List Value} {pl : List (Nat × Nat)} {parts : Array (Nat × Value)} (hz : tzero P t = some z) (hp : tplaces P t = some pl) (hf : fillF (fun i => pl[i]?) z parts.toList = some cs) :
    (Instr.build t parts).run P w = .ok (.agg cs.toArray) w := by
  unfold tplaces at hp
  split at hp
  · rename_i fs hu
    unfold tzero at hz
    obtain ⟨i, hti, hz⟩ := Option.bind_eq_some_iff.1 hz
    obtain ⟨zv, hzz, rfl⟩ := Option.map_eq_some_iff.1 hz
    have hsz := run_sizes (w := w) _ _ hp
    have hm : fs.mapM (fun f => (do pure (f.offset, ← sizeOf f.type) : Sem (Nat × Nat))) = List.toArray <$> fs.toList.mapM (fun f => (do pure (f.offset, ← sizeOf f.type) : Sem (Nat × Nat))) := by
      rw [← List.mapM_toArray, Array.toArray_toList]
    have hfill := fill_fillF _ _ _ _ hf
    simp only [Array.toArray_toList] at hfill
    have hfill' : Instr.fill (fun i => pl.toArray[i]?) zv.cells parts.toList = some cs.toArray := by simpa using hfill
    have hzr : (zeroValue t).run P w = .ok zv w := by simp [zeroValue, typeInfo, hti, hzz, Sem.run_bind]
    simp only [Instr.build, Sem.run_bind, hzr, Sem.run_pure, Result.andThen_ok, run_underlying hu]
    rw [hm]
    simp only [map_eq_pure_bind, Sem.run_bind, hsz, Result.andThen_ok, Sem.run_pure, hfill']
  · cases hp
theorem run_call_builtin {b : Builtin} {c : Call} {o : Oper} (ho : o.op = .call c) (hc : c.callee = .builtin b) :
    (execOp ρ o).run P w = (builtin b c.argTypes o.type (c.args.map fun | .const _ => true | _ => false) (c.args.map ρ)).run P w := by
  simp only [execOp, ho, resolve, hc, Sem.run_bind, Sem.run_pure, Result.andThen_ok, invoke]
  rfl

/-- A quiet operation runs to what it gives, the world as it was. -/
theorem run_qop {o : Oper} {y : AV} (hev : ∀ x y, ev x = some y → y.to L = some (ρ x)) (hL : ∀ (k : Nat) (p : Loc), L[k]? = some p → BlockIs w p.1 p.2)
    (h : qop P o.op ev L = some y) : ∃ v, y.to L = some v ∧ (execOp ρ o).run P w = .ok (.value v) w := by
  cases ho : o.op with
  | build t parts =>
    rw [ho] at h
    simp only [qop] at h
    split at h
    · rename_i vs z pl hv hz hp
      split at h
      · rename_i cs hf
        cases h
        refine ⟨_, rfl, ?_⟩
        have e := vals_map hev _ _ hv
        have hparts : (parts.map fun (x : Nat × Operand) => (x.1, ρ x.2)).toList = (parts.toList.map (·.1)).zip vs := by
          rw [← e]
          rw [List.map_map, List.zip_map', Array.toList_map]
          rfl
        have := run_build (w := w) hz hp (parts := parts.map fun (x : Nat × Operand) => (x.1, ρ x.2)) (by rw [hparts]; exact hf)
        simp only [execOp, ho, Sem.run_bind]
        rw [show (Instr.build t (parts.map fun (x : Nat × Operand) => match x with | (i, x) => (i, ρ x))) = Instr.build t (parts.map fun (x : Nat × Operand) => (x.1, ρ x.2)) from rfl, this]
        simp
      · cases h
    · cases h
  | move x => rw [ho] at h; exact ⟨_, hev _ _ h, by simp [execOp, ho]⟩
  | assign x => rw [ho] at h; exact ⟨_, hev _ _ h, by simp [execOp, ho]⟩
  | pick c a b =>
    rw [ho] at h
    simp only [qop] at h
    split at h
    · rename_i hc
      have := hev _ _ hc
      simp only [AV.to, Option.some.injEq] at this
      exact ⟨_, hev _ _ h, by simp [execOp, ho, ← this, asBool]⟩
    · rename_i hc
      have := hev _ _ hc
      simp only [AV.to, Option.some.injEq] at this
      exact ⟨_, hev _ _ h, by simp [execOp, ho, ← this, asBool]⟩
    · cases h
  | fieldAddr s x f =>
    rw [ho] at h
    simp only [qop] at h
    have key : ∀ (a : Addr) (d : Nat), tfo P s f = some d → (Instr.fieldAt s (.pointer (some a)) f).run P w = .ok (.pointer (some (pl a d))) w := by
      show ∀ (a : Addr) (d : Nat), tfo P s f = some d → (Instr.fieldAt s (.pointer (some a)) f).run P w = .ok (.pointer (some (a.add d))) w
      intro a d hd
      unfold tfo at hd
      split at hd
      · rename_i fs hu
        split at hd
        · rename_i fd hf
          split at hd
          · rename_i n hn
            cases hd
            simp [Instr.fieldAt, Sem.run_bind, run_underlying hu, hf, Instr.sureAddr, fieldPlace, run_sz hn]
          · cases hd
        · cases hd
      · cases hd
    split at h
    · rename_i k o' d hx hd
      cases h
      have := hev _ _ hx
      simp only [AV.to] at this
      cases hk : L[k]? with
      | none => simp [hk] at this
      | some p =>
        simp only [hk, Option.some.injEq] at this
        refine ⟨.pointer (some ⟨p.1, o' + d, none⟩), by simp [AV.to, hk], ?_⟩
        simp [execOp, ho, ← this, Sem.run_bind, key _ d hd, add_at, pl]
    · rename_i a d hx hd
      cases h
      have := hev _ _ hx
      simp only [AV.to, Option.some.injEq] at this
      exact ⟨_, rfl, by simp [execOp, ho, ← this, Sem.run_bind, key _ d hd]⟩
    · cases h
  | nilCheck x =>
    rw [ho] at h
    simp only [qop] at h
    split at h
    · rename_i k o' hx
      cases h
      have := hev _ _ hx
      simp only [AV.to] at this
      cases hk : L[k]? with
      | none => simp [hk] at this
      | some p =>
        simp only [hk, Option.some.injEq] at this
        exact ⟨.pointer (some ⟨p.1, o', none⟩), by simp [AV.to, hk], by simp [execOp, ho, ← this]⟩
    · rename_i a hx
      cases h
      have := hev _ _ hx
      simp only [AV.to, Option.some.injEq] at this
      exact ⟨_, rfl, by simp [execOp, ho, ← this]⟩
    · rename_i f g c hx
      cases h
      have := hev _ _ hx
      simp only [AV.to, Option.some.injEq] at this
      exact ⟨_, rfl, by simp [execOp, ho, ← this]⟩
    · cases h
  | load t x =>
    rw [ho] at h
    simp only [qop] at h
    split at h
    · rename_i k o' hx
      have := hev _ _ hx
      simp only [AV.to] at this
      cases hk : L[k]? with
      | none => simp [hk] at this
      | some p =>
        simp only [hk, Option.some.injEq] at this
        simp only [hk, loadL] at h
        cases hl : loadC P t p.2 o' with
        | none => simp [hl] at h
        | some v =>
          simp only [hl, Option.some.injEq] at h
          subst h
          exact ⟨v, rfl, by simp [execOp, ho, ← this, Sem.run_bind, run_loadC (hL k p hk) hl]⟩
    · cases h
  | binOp op t x z tz =>
    rw [ho] at h
    simp only [qop] at h
    have key : ∃ a b v, ev x = some (.v a) ∧ ev z = some (.v b) ∧ (do eqGuard op t x z a b; binOp op t a b : Sem Value).run P w = .ok v w ∧ y = .v v := by
      split at h
      · rename_i r hr
        cases h
        obtain ⟨a, b, v, hx, hz, hv, rfl⟩ := onV2_some hr
        exact ⟨a, b, v, hx, hz, run_binV hv w, rfl⟩
      · obtain ⟨a, b, v, hx, hz, hv, rfl⟩ := onV2_some h
        exact ⟨a, b, v, hx, hz, run_eqV hv w, rfl⟩
    obtain ⟨a, b, v, hx, hz, hrun, rfl⟩ := key
    have h1 := hev _ _ hx
    have h2 := hev _ _ hz
    simp only [AV.to, Option.some.injEq] at h1 h2
    refine ⟨v, rfl, ?_⟩
    simp only [execOp, ho, ← h1, ← h2]
    rw [Sem.run_bind, hrun]
    simp
  | unOp op t x =>
    rw [ho] at h
    simp only [qop] at h
    obtain ⟨a, v, hx, hv, rfl⟩ := onV_some h
    have h1 := hev _ _ hx
    simp only [AV.to, Option.some.injEq] at h1
    refine ⟨v, rfl, ?_⟩
    cases a <;> cases op <;> simp only [unV] at hv <;> first | (cases hv; done) | skip
    all_goals
      cases hv
      simp [execOp, ho, ← h1, Op.unary, Op.intArith]
  | convert s d x =>
    rw [ho] at h
    simp only [qop] at h
    obtain ⟨a, v, hx, hv, rfl⟩ := onV_some h
    have h1 := hev _ _ hx
    simp only [AV.to, Option.some.injEq] at h1
    refine ⟨v, rfl, ?_⟩
    cases a <;> simp only [convV] at hv <;> first | (cases hv; done) | skip
    · rename_i k n
      split at hv
      · rename_i k' hs hd
        cases hv
        obtain ⟨ds, hs⟩ := Option.isSome_iff_exists.1 hs
        unfold tint at hd
        split at hd
        · rename_i k'' hu
          cases hd
          simp [execOp, ho, ← h1, convert, Sem.run_bind, run_underlying hs, run_underlying hu, Conv.intToInt]
        · cases hd
      · cases hv
    · rename_i z
      split at hv
      · rename_i hs hd
        cases hv
        obtain ⟨ds, hs⟩ := Option.isSome_iff_exists.1 hs
        unfold tstr at hd
        split at hd
        · rename_i hu
          simp [execOp, ho, ← h1, convert, Sem.run_bind, run_underlying hs, run_underlying hu]
        · cases hd
      · cases hv
  | extract x i =>
    rw [ho] at h
    simp only [qop] at h
    obtain ⟨a, v, hx, hv, rfl⟩ := onV_some h
    have h1 := hev _ _ hx
    simp only [AV.to, Option.some.injEq] at h1
    refine ⟨v, rfl, ?_⟩
    cases a <;> first | (simp at hv; done) | skip
    rename_i vs
    simp only at hv
    simp [execOp, ho, ← h1, Instr.extract, hv]
  | field t x f =>
    rw [ho] at h
    simp only [qop] at h
    obtain ⟨a, v, hx, hv, rfl⟩ := onV_some h
    have h1 := hev _ _ hx
    simp only [AV.to, Option.some.injEq] at h1
    refine ⟨v, rfl, ?_⟩
    cases a <;> first | (simp [fieldV] at hv; done) | skip
    rename_i cs
    simp only [fieldV] at hv
    unfold tfv at hv
    cases hu : P.underlying t with
    | none => simp [hu] at hv
    | some d =>
      cases d <;> first | (simp [hu] at hv; done) | skip
      rename_i fs
      simp only [hu] at hv
      cases hf : fs[f]? with
      | none => simp [hf] at hv
      | some fd =>
        simp only [hf] at hv
        cases hn : tsz P fd.type with
        | none => simp [hn] at hv
        | some n =>
          cases ha : tagg P fd.type with
          | none => simp [hn, ha] at hv
          | some g =>
            simp only [hn, ha] at hv
            cases g with
            | true =>
              simp only [Option.some.injEq] at hv
              subst hv
              simp [execOp, ho, ← h1, Instr.field, Sem.run_bind, run_underlying hu, hf, asAgg, part, run_agg ha, run_sz hn]
            | false =>
              simp only at hv
              simp [execOp, ho, ← h1, Instr.field, Sem.run_bind, run_underlying hu, hf, asAgg, part, run_agg ha, run_sz hn, hv]
  | makeFunc fn first cap =>
    rw [ho] at h
    simp only [qop] at h
    split at h
    · rename_i xs ys hx hy
      cases h
      have e1 := vals_map hev _ _ hx
      have e2 := vals_map hev _ _ hy
      refine ⟨_, rfl, ?_⟩
      have e1' : first.map ρ = xs.toArray := Array.ext' (by simpa using e1)
      have e2' : cap.map ρ = ys.toArray := Array.ext' (by simpa using e2)
      simp [execOp, ho, Instr.makeFunc, e1', e2']
    · cases h
  | call c =>
    rw [ho] at h
    simp only [qop] at h
    cases hc : c.callee with
    | value f => simp [hc] at h
    | invoke r m => simp [hc] at h
    | builtin b =>
      cases b <;> simp only [hc] at h <;> first | (cases h; done) | skip
      all_goals rw [run_call_builtin ho hc]
      · -- cap
        split at h
        · rename_i x t hx ht
          obtain ⟨a, v, hx', hv, rfl⟩ := onV_some h
          have h1 := hev _ _ hx'
          simp only [AV.to, Option.some.injEq] at h1
          refine ⟨v, rfl, ?_⟩
          have ea : c.args = #[x] := Array.ext' hx
          have et : c.argTypes = #[t] := Array.ext' ht
          cases a <;> first | (simp [capV] at hv; done) | skip
          rename_i A n cp
          simp only [capV] at hv
          unfold tsl at hv
          cases hu : P.underlying t with
          | none => simp [hu] at hv
          | some d =>
            cases d <;> first | (simp [hu] at hv; done) | skip
            simp only [hu, Option.some.injEq] at hv
            subst hv
            simp [builtin, Builtin.cap_, ea, et, ← h1, Sem.run_bind, run_underlying hu, goInt]
        · cases h
      · -- len
        split at h
        · rename_i x t hx ht
          obtain ⟨a, v, hx', hv, rfl⟩ := onV_some h
          have h1 := hev _ _ hx'
          simp only [AV.to, Option.some.injEq] at h1
          refine ⟨v, rfl, ?_⟩
          have ea : c.args = #[x] := Array.ext' hx
          have et : c.argTypes = #[t] := Array.ext' ht
          cases a <;> first | (simp [lenV] at hv; done) | skip
          · rename_i s
            simp only [lenV] at hv
            split at hv
            · rename_i hs
              cases hv
              unfold tstr at hs
              split at hs
              · rename_i hu
                simp [builtin, Builtin.len_, ea, et, ← h1, Sem.run_bind, run_underlying hu, goInt]
              · cases hs
            · cases hv
          · rename_i A n cp
            simp only [lenV] at hv
            unfold tsl at hv
            cases hu : P.underlying t with
            | none => simp [hu] at hv
            | some d =>
              cases d <;> first | (simp [hu] at hv; done) | skip
              simp only [hu, Option.some.injEq] at hv
              subst hv
              simp [builtin, Builtin.len_, ea, et, ← h1, Sem.run_bind, run_underlying hu, goInt]
        · cases h
      all_goals
        split at h
        · rename_i x z hx
          obtain ⟨a, b, v, hx', hz', hv, rfl⟩ := onV2_some h
          have h1 := hev _ _ hx'
          have h2 := hev _ _ hz'
          simp only [AV.to, Option.some.injEq] at h1 h2
          refine ⟨v, rfl, ?_⟩
          have ea : c.args = #[x, z] := Array.ext' hx
          cases a <;> cases b <;> first | (simp [mm2] at hv; done) | skip
          simp only [mm2] at hv
          split at hv
          · rename_i e
            subst e
            cases hv
            simp [builtin, Builtin.max_, Builtin.min_, Builtin.max2, Builtin.min2, ea, ← h1, ← h2, Sem.run_bind]
          · cases hv
        · cases h
  | _ => rw [ho] at h; simp [qop] at h
end

end Go.Sep
