/-
  A symbolic run of the machine's code: environments, a call's own blocks, what an operation gives that touches no memory; each step is shown right.
  Plain definitions and theorems; nothing of a program in it.
-/
import Derived.Test.YtfdhfnoljejkkaaSepA
import Derived.WalkKit
import Derived.Laws.IdiomCopy
set_option linter.unusedVariables false
set_option linter.unusedSimpArgs false
namespace Go.Sep
open Go Go.RowKit

/-- An address, moved (a word of our own, that no set of laws turns). -/
def pl (a : Addr) (n : Nat) : Addr := a.add n

/-- A value; or the address of cell 'off' of the call's own block number k. -/
inductive AV
  | v (x : Value)
  | l (k off : Nat)
abbrev Loc := Nat × List Value
def AV.to (L : List Loc) : AV → Option Value
  | .v x => some x
  | .l k off => match L[k]? with
    | some p => some (.pointer (some ⟨p.1, off, none⟩))
    | none => none
abbrev Env := List (Nat × AV)
def Env.get : Env → Nat → Option AV
  | [], _ => none
  | (u, x) :: E, t => if u = t then some x else Env.get E t
def Env.put (E : Env) (dst : Option Nat) (x : AV) : Env := match dst with
  | some d => (d, x) :: E
  | none => E
def Env.ev (E : Env) : Operand → Option AV
  | .tmp t => E.get t
  | .const v => some (.v v)
  | .global g => some (.v (.pointer (some ⟨g, 0, none⟩)))
  | .func f => some (.v (.func (.func f) #[] #[]))

structure EOk (N : Nat) (E : Env) (L : List Loc) (a : Act) : Prop where
  defers : a.defers = []
  size : a.tmps.size = N
  get : ∀ t x, E.get t = some x → ∃ v, x.to L = some v ∧ a.tmps[t]? = some v

theorem EOk.ev {N : Nat} {E : Env} {L : List Loc} {a : Act} (h : EOk N E L a) {x : Operand} {y : AV} (hx : E.ev x = some y) : y.to L = some (a.eval x) := by
  cases x with
  | tmp t =>
    obtain ⟨v, h1, h2⟩ := h.get t y hx
    rw [h1]
    simp [Act.eval, Array.getD_eq_getD_getElem?, h2]
  | const v => simp only [Env.ev, Option.some.injEq] at hx; subst hx; rfl
  | global g => simp only [Env.ev, Option.some.injEq] at hx; subst hx; rfl
  | func f => simp only [Env.ev, Option.some.injEq] at hx; subst hx; rfl

def dstOk (N : Nat) : Option Nat → Bool
  | some d => decide (d < N)
  | none => true

theorem EOk.put {N : Nat} {E : Env} {L : List Loc} {a : Act} (h : EOk N E L a) {dst : Option Nat} {x : AV} {v : Value} (hd : dstOk N dst = true) (hx : x.to L = some v) :
    EOk N (E.put dst x) L (a.put dst v) := by
  cases dst with
  | none => exact h
  | some d =>
    have hd' : d < N := by simpa [dstOk] using hd
    refine ⟨h.defers, by simp [Act.put, h.size], fun t y hy => ?_⟩
    simp only [Env.put, Env.get] at hy
    by_cases hdt : d = t
    · rw [if_pos hdt] at hy
      cases hy
      subst hdt
      exact ⟨v, hx, by simp [Act.put, h.size, hd']⟩
    · rw [if_neg hdt] at hy
      obtain ⟨u, h1, h2⟩ := h.get t y hy
      exact ⟨u, h1, by simp [Act.put, Array.getElem?_setIfInBounds, hdt, h2]⟩
/-- Other own blocks, the elder ones with their numbers. -/
theorem EOk.locs {N : Nat} {E : Env} {L L' : List Loc} {a : Act} (h : EOk N E L a) (hL : ∀ (k : Nat) (p : Loc), L[k]? = some p → ∃ q : Loc, L'[k]? = some q ∧ q.1 = p.1) : EOk N E L' a := by
  refine ⟨h.defers, h.size, fun t x hx => ?_⟩
  obtain ⟨v, h1, h2⟩ := h.get t x hx
  refine ⟨v, ?_, h2⟩
  cases x with
  | v y => exact h1
  | l k o =>
    simp only [AV.to] at h1 ⊢
    cases hk : L[k]? with
    | none => rw [hk] at h1; cases h1
    | some p =>
      rw [hk] at h1
      obtain ⟨q, hq, he⟩ := hL k p hk
      rw [hq]
      simpa [he] using h1
theorem EOk.sub {N : Nat} {E E' : Env} {L : List Loc} {a : Act} (h : EOk N E L a) (hs : ∀ t x, E'.get t = some x → E.get t = some x) : EOk N E' L a :=
  ⟨h.defers, h.size, fun t x hx => h.get t x (hs t x hx)⟩

def locs (L : List Loc) : Assn := stars (L.map fun p => pt p.1 p.2)
def stA (L : List Loc) (H : List Assn) : Assn := star (locs L) (stars H)

theorem locs_block {L : List Loc} {k : Nat} {p : Loc} (h : L[k]? = some p) : Says (locs L) fun w => BlockIs w p.1 p.2 := by
  have : (L.map fun p => pt p.1 p.2)[k]? = some (pt p.1 p.2) := by simp [h]
  exact Ent.says (stars_get _ _ _ this) fun w S h => h.1
theorem stA_block {L : List Loc} {H : List Assn} {k : Nat} {p : Loc} (h : L[k]? = some p) : Says (stA L H) fun w => BlockIs w p.1 p.2 :=
  Ent.says (Ent.left _ _) (locs_block h)

/-! ### The types' facts -/
def tsz (P : Program) (t : TypeId) : Option Nat := (P.info? t).map (·.size)
def tagg (P : Program) (t : TypeId) : Option Bool := (P.underlying t).map fun d => match d with | .struct _ | .array _ _ => true | _ => false
/-- A field's place, where the field has a cell. -/
def tfo (P : Program) (s : TypeId) (f : Nat) : Option Nat := match P.underlying s with
  | some (.struct fs) => match fs[f]? with
    | some fd => match tsz P fd.type with
      | some (_ + 1) => some fd.offset
      | _ => none
    | none => none
  | _ => none
/-- A field of a value: its place, its size, is it of several cells. -/
def tfv (P : Program) (s : TypeId) (f : Nat) : Option (Nat × Nat × Bool) := match P.underlying s with
  | some (.struct fs) => match fs[f]? with
    | some fd => match tsz P fd.type, tagg P fd.type with
      | some n, some b => some (fd.offset, n, b)
      | _, _ => none
    | none => none
  | _ => none
def tint (P : Program) (t : TypeId) : Option IntKind := match P.underlying t with | some (.int k) => some k | _ => none
def tstr (P : Program) (t : TypeId) : Bool := match P.underlying t with | some .string => true | _ => false
def tsl (P : Program) (t : TypeId) : Option TypeId := match P.underlying t with | some (.slice e) => some e | _ => none
def tzero (P : Program) (t : TypeId) : Option (List Value) := (P.info? t).bind fun i => i.zero.map fun z => z.cells.toList
def tbytes (P : Program) (t : TypeId) : Option Nat := (P.info? t).map (·.bytes)

theorem run_sz {P : Program} {t : TypeId} {n : Nat} (h : tsz P t = some n) (w : World) : (sizeOf t).run P w = .ok n w := by
  unfold tsz at h
  obtain ⟨i, hi, rfl⟩ := Option.map_eq_some_iff.1 h
  simp [sizeOf, typeInfo, hi]
theorem run_agg {P : Program} {t : TypeId} {b : Bool} (h : tagg P t = some b) (w : World) : (isAgg t).run P w = .ok b w := by
  unfold tagg at h
  obtain ⟨d, hd, rfl⟩ := Option.map_eq_some_iff.1 h
  simp only [isAgg, Sem.run_bind, run_underlying hd, Result.andThen_ok]
  cases d <;> rfl

theorem add_at (b o j : Nat) : (⟨b, o, none⟩ : Addr).add j = ⟨b, o + j, none⟩ := by unfold Addr.add; split <;> simp_all

/-- Loading a value of type t out of known cells. -/
def loadC (P : Program) (t : TypeId) (cs : List Value) (o : Nat) : Option Value := match tsz P t, tagg P t with
  | some n, some true => if o + n ≤ cs.length then some (.agg ((cs.drop o).take n).toArray) else none
  | _, some false => cs[o]?
  | _, _ => none
theorem run_loadC {P : Program} {t : TypeId} {w : World} {b o : Nat} {cs : List Value} {v : Value} (hb : BlockIs w b cs) (h : loadC P t cs o = some v) :
    (Instr.loadAt t (.pointer (some ⟨b, o, none⟩))).run P w = .ok v w := by
  unfold loadC at h
  cases hn : tsz P t with
  | none =>
    cases ha : tagg P t with
    | none => simp [hn, ha] at h
    | some g =>
      cases g with
      | true => simp [hn, ha] at h
      | false =>
        simp only [hn, ha] at h
        simp [Instr.loadAt, Instr.sureAddr, loadVar, Sem.run_bind, run_agg ha, run_load, hb.cell o, h]
  | some n =>
    cases ha : tagg P t with
    | none => simp [hn, ha] at h
    | some g =>
      cases g with
      | true =>
        simp only [hn, ha] at h
        split at h
        · rename_i hle
          cases h
          have hl : ((cs.drop o).take n).length = n := by simp; omega
          have := run_loadCells_list (P := P) w ⟨b, o, none⟩ ((cs.drop o).take n) (fun j u hj => by
            rw [add_at, hb.cell]
            rw [List.getElem?_take] at hj
            split at hj
            · rw [List.getElem?_drop] at hj; exact hj
            · cases hj)
          rw [hl] at this
          simp [Instr.loadAt, Instr.sureAddr, loadVar, Sem.run_bind, run_agg ha, run_sz hn, this]
        · cases h
      | false =>
        simp only [hn, ha] at h
        simp [Instr.loadAt, Instr.sureAddr, loadVar, Sem.run_bind, run_agg ha, run_load, hb.cell o, h]

/-- Storing: the cells from place o on. -/
def splice (cs : List Value) (o : Nat) : List Value → List Value
  | [] => cs
  | v :: r => splice (cs.set o v) (o + 1) r
theorem splice_length (vs : List Value) : ∀ (cs : List Value) (o : Nat), (splice cs o vs).length = cs.length := by
  induction vs with
  | nil => intro cs o; rfl
  | cons v r ih => intro cs o; simp [splice, ih]

theorem run_storeCells {P : Program} (b o : Nat) : ∀ (vs : List Value) (i : Nat) (cs : List Value) (w : World), BlockIs w b cs → o + i + vs.length ≤ cs.length → (∀ v ∈ vs, v.oneCell' = true) →
    ∃ w', (storeCells ⟨b, o, none⟩ vs i).run P w = .ok () w' ∧ BlockIs w' b (splice cs (o + i) vs) ∧ Keeps (fun k => k = b) w w' := by
  intro vs
  induction vs with
  | nil => intro i cs w hb hl h1; exact ⟨w, rfl, hb, Keeps.refl _ _⟩
  | cons v r ih =>
    intro i cs w hb hl h1
    simp only [List.length_cons] at hl
    have hst : (store ((⟨b, o, none⟩ : Addr).add i) v).run P w = .ok () (w.setCell ⟨b, o + i, none⟩ v) := by
      rw [add_at, run_store P w _ v _ (h1 v (by simp))]
      have hc := hb.cell (o + i)
      rw [List.getElem?_eq_getElem (by omega)] at hc
      simp [hc, hb.free (o + i) (by omega)]
    obtain ⟨w', h2, h3, h4⟩ := ih (i + 1) (cs.set (o + i) v) (w.setCell ⟨b, o + i, none⟩ v) (hb.set _ _) (by simp; omega) (fun x hx => h1 x (by simp [hx]))
    refine ⟨w', ?_, ?_, (Keeps.setCell w b (o + i) v).trans h4 fun i h => .inl h⟩
    · simp only [storeCells, Sem.run_bind, hst, Result.andThen_ok, h2]
    · simpa [splice, Nat.add_assoc] using h3
theorem Step.storeCells {P : Program} {w : World} {b o : Nat} {cs vs : List Value} (hb : BlockIs w b cs) (hl : o + vs.length ≤ cs.length) (h1 : ∀ v ∈ vs, v.oneCell' = true) :
    ∃ w', (Go.storeCells ⟨b, o, none⟩ vs).run P w = .ok () w' ∧ Step (pt b cs) (pt b (splice cs o vs)) w w' := by
  obtain ⟨w', h2, h3, h4⟩ := run_storeCells (P := P) b o vs 0 cs w hb (by omega) h1
  refine ⟨w', h2, ?_⟩
  rintro S ⟨_, hs⟩
  exact ⟨h4.mono fun i hi => (hs i).2 hi, S, ⟨h3, hs⟩, fun i hi => .inl hi⟩

/-! ### Operators -/
/-- Operators on bits, words of our own. -/
def bAnd (k : IntKind) (a b : Int) : Int := k.wrap (BitVec.ofInt k.bits a &&& BitVec.ofInt k.bits b).toNat
def bOr (k : IntKind) (a b : Int) : Int := k.wrap (BitVec.ofInt k.bits a ||| BitVec.ofInt k.bits b).toNat
def bXor (k : IntKind) (a b : Int) : Int := k.wrap (BitVec.ofInt k.bits a ^^^ BitVec.ofInt k.bits b).toNat
def bClear (k : IntKind) (a b : Int) : Int := k.wrap (BitVec.ofInt k.bits a &&& ~~~(BitVec.ofInt k.bits b)).toNat
def bShl (k : IntKind) (a b : Int) : Int := k.wrap (a * 2 ^ min b.toNat k.bits)
def bShr (k : IntKind) (a b : Int) : Int := a.fdiv (2 ^ min b.toNat k.bits)
def binV (op : BinOp) : Value → Value → Option Value
  | .int k a, .int k' b => match op with
    | .add => if k = k' then some (.int k (k.wrap (a + b))) else none
    | .sub => if k = k' then some (.int k (k.wrap (a - b))) else none
    | .mul => if k = k' then some (.int k (k.wrap (a * b))) else none
    | .eql => if k = k' then some (.bool (decide (a = b))) else none
    | .neq => if k = k' then some (.bool (!decide (a = b))) else none
    | .lss => if k = k' then some (.bool (decide (a < b))) else none
    | .leq => if k = k' then some (.bool (decide (a ≤ b))) else none
    | .gtr => if k = k' then some (.bool (decide (b < a))) else none
    | .geq => if k = k' then some (.bool (decide (b ≤ a))) else none
    | .quo => if k = k' then (if b = 0 then none else some (.int k (k.wrap (a.tdiv b)))) else none
    | .rem => if k = k' then (if b = 0 then none else some (.int k (a.tmod b))) else none
    | .and => if k = k' then some (.int k (bAnd k a b)) else none
    | .or => if k = k' then some (.int k (bOr k a b)) else none
    | .xor => if k = k' then some (.int k (bXor k a b)) else none
    | .andNot => if k = k' then some (.int k (bClear k a b)) else none
    | .shl => if b < 0 then none else some (.int k (bShl k a b))
    | .shr => if b < 0 then none else some (.int k (bShr k a b))
  | .string x, .string y => match op with
    | .add => if x.size + y.size ≤ 9223372036854775807 then some (.string (x ++ y)) else none
    | .eql => some (.bool (decide (x = y)))
    | .neq => some (.bool (!decide (x = y)))
    | _ => none
  | _, _ => none
theorem bytes_eq (x y : ByteArray) : (x.toList == y.toList) = decide (x = y) := by
  by_cases h : x = y
  · subst h; simp
  · have : x.toList ≠ y.toList := fun e => h (by
      have hx : ∀ z : ByteArray, z.toList = z.data.toList := fun z => ByteArray.toList_eq z
      rw [hx, hx] at e
      cases x; cases y
      simp only [ByteArray.mk.injEq]
      exact Array.ext' e)
    rw [decide_eq_false h]
    simpa using this
theorem run_binV {P : Program} {op : BinOp} {t : TypeId} {x y : Operand} {a b v : Value} (h : binV op a b = some v) (w : World) :
    (do eqGuard op t x y a b; binOp op t a b : Sem Value).run P w = .ok v w := by
  have hg : (eqGuard op t x y a b).run P w = .ok () w := by
    cases a <;> cases b <;> first | (simp [binV] at h; done) | (cases op <;> rfl)
  rw [Sem.run_bind, hg]
  simp only [Result.andThen_ok]
  cases a <;> cases b <;> first | (simp [binV] at h; done) | skip
  · rename_i k a k' b
    cases op <;> simp only [binV] at h <;> first | (cases h; done) | skip
    case quo =>
      split at h
      · rename_i e
        subst e
        split at h
        · cases h
        · rename_i h0
          cases h
          simp [binOp, Op.intDiv, h0]
      · cases h
    case rem =>
      split at h
      · rename_i e
        subst e
        split at h
        · cases h
        · rename_i h0
          cases h
          simp [binOp, Op.intDiv, h0]
      · cases h
    case shl =>
      split at h
      · cases h
      · rename_i h0
        cases h
        simp [binOp, Op.shift, h0, bShl, bShr]
    case shr =>
      split at h
      · cases h
      · rename_i h0
        cases h
        simp [binOp, Op.shift, h0, bShl, bShr]
    all_goals
      split at h
      · rename_i e
        subst e
        cases h
        simp [binOp, Op.intArith, Op.intCmp, Op.intBits, Op.intDiv, Bool.beq_eq_decide_eq, bAnd, bOr, bXor, bClear]
        try (first | rfl | (congr 1; done) | (by_cases e : a = b <;> simp [e]))
      · cases h
  · rename_i a b
    cases op <;> simp only [binV] at h <;> first | (cases h; done) | skip
    case add =>
      split at h
      · rename_i hl
        cases h
        have : ¬ ((a.size + b.size : Nat) : Int) > IntKind.i64.max := by
          rw [show IntKind.i64.max = 9223372036854775807 from rfl]; omega
        simp only [binOp, Op.stringOp, if_neg this, Sem.run_pure]
      · cases h
    all_goals
      cases h
      simp only [binOp, Op.stringOp, bytes_eq, Sem.run_pure]

end Go.Sep
