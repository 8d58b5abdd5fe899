/-
  Cuts of slices, copy, bytes and strings; calls that read or make; what is said, opened; the ambient world.
  Plain definitions and theorems; nothing of a program in it.
-/
import Derived.Test.YtfdhfnoljejkkaaSepI
import Derived.Laws.IdiomStrings
set_option linter.unusedVariables false
set_option linter.unusedSimpArgs false
namespace Go.Sep
open Go Go.RowKit

section
variable {P : Program} {N : Nat} {k : List It} {E : Env} {L : List Loc} {H : List Assn} {Q : Post}

theorem cut_val {a : Act} (he : EOk N E L a) {d j : Int} {z : Option Operand} (h : cutHi d (z.map E.ev) = some j) : (z = none ∧ j = d) ∨ ∃ y kk, z = some y ∧ a.eval y = .int kk j := by
  cases z with
  | none => simp only [Option.map_none, cutHi, Option.some.injEq] at h; exact .inl ⟨rfl, h.symm⟩
  | some y =>
    right
    simp only [Option.map_some] at h
    cases hz : E.ev y with
    | none => simp [hz, cutHi] at h
    | some u =>
      cases u with
      | l _ _ => simp [hz, cutHi] at h
      | v u =>
        cases u <;> first | (simp [hz, cutHi] at h; done) | skip
        rename_i kk v
        simp only [hz, cutHi, Option.some.injEq] at h
        subst h
        have := he.ev hz
        simp only [AV.to, Option.some.injEq] at this
        exact ⟨y, kk, rfl, this.symm⟩
theorem cut_val0 {a : Act} (he : EOk N E L a) {j : Int} {z : Option Operand} (h : cutLo (z.map E.ev) = some j) : (z = none ∧ j = 0) ∨ ∃ y kk, z = some y ∧ a.eval y = .int kk j := by
  have : cutHi 0 (z.map E.ev) = some j := by
    rw [← h]
    cases z with
    | none => rfl
    | some y =>
      simp only [Option.map_some]
      cases E.ev y with
      | none => rfl
      | some u => cases u with
        | l _ _ => rfl
        | v u => cases u <;> rfl
  exact cut_val he this
/-- A cut of a slice: another slice over the same cells. -/
theorem SEM.cutSl {all l : List Oper} {o : Oper} {t e : TypeId} {x : Operand} {lo hi mx : Option Operand} {A : Option Addr} {n c sz : Nat} {j h m : Int} (h0 : 0 ≤ j) (h1 : j ≤ h) (h2 : h ≤ m) (h3 : m ≤ c)
    (hs : SEM P N (.ops all l :: k) (E.put o.dst (.v (.slice (cutAddr A j.toNat m.toNat sz) (h.toNat - j.toNat) (m.toNat - j.toNat)))) L H Q)
    (hg : o.guard = none) (hd : dstOk N o.dst = true) (ho : o.op = .slice t x lo hi mx)
    (hx : E.ev x = some (.v (.slice A n c))) (hlo : cutLo (lo.map E.ev) = some j) (hhi : cutHi n (hi.map E.ev) = some h) (hmx : cutHi c (mx.map E.ev) = some m) (hmh : mx.isSome = true → hi.isSome = true)
    (ht : tsl P t = some e) (hz : tsz P e = some sz) : SEM P N (.ops all (o :: l) :: k) E L H Q := by
  refine SEM.quiet' hg hd rfl (fun a w he _ => ?_) hs
  have e1 := he.ev hx
  simp only [AV.to, Option.some.injEq] at e1
  have hb : ∀ (v : Int) (kk : IntKind) (c : Nat) (code : BoundsCode), 0 ≤ v → v ≤ c → (Instr.sliceBound (.int kk v) c code).run P w = .ok v.toNat w := by
    intro v kk c code h0 h1
    simp [Instr.sliceBound, asIntOf, Sem.run_bind, h0, h1]
  unfold tsl at ht
  cases hu : P.underlying t with
  | none => simp [hu] at ht
  | some d =>
    cases d <;> first | (simp [hu] at ht; done) | skip
    simp only [hu, Option.some.injEq] at ht
    subst ht
    rename_i e
    have hbd : (Instr.sliceBounds true n c (lo.map a.eval) (hi.map a.eval) (mx.map a.eval)).run P w = .ok (j.toNat, h.toNat, m.toNat) w := by
      rcases cut_val he hmx with ⟨rfl, rfl⟩ | ⟨z3, k3, rfl, e3⟩ <;> rcases cut_val he hhi with ⟨rfl, rfl⟩ | ⟨z2, k2, rfl, e2⟩ <;> rcases cut_val0 he hlo with ⟨rfl, rfl⟩ | ⟨z1, k1, rfl, e1⟩
      · simp [Instr.sliceBounds, Sem.run_bind]
      · simp [Instr.sliceBounds, Sem.run_bind, e1, hb j k1 n _ h0 h1]
      · simp [Instr.sliceBounds, Sem.run_bind, e2, hb h k2 c _ (by omega) h2]
      · have : j ≤ (h.toNat : Int) := by omega
        simp [Instr.sliceBounds, Sem.run_bind, e1, e2, hb h k2 c _ (by omega) h2, hb j k1 h.toNat _ h0 this]
      · simp at hmh
      · simp at hmh
      · have g3 : h ≤ (m.toNat : Int) := by omega
        simp [Instr.sliceBounds, Sem.run_bind, e2, e3, hb m k3 c _ (by omega) h3, hb h k2 m.toNat _ (by omega) g3]
      · have g3 : h ≤ (m.toNat : Int) := by omega
        have : j ≤ (h.toNat : Int) := by omega
        simp [Instr.sliceBounds, Sem.run_bind, e1, e2, e3, hb m k3 c _ (by omega) h3, hb h k2 m.toNat _ (by omega) g3, hb j k1 h.toNat _ h0 this]
    simp only [execOp, ho, ← e1, Instr.sliceAt, Instr.slice, Sem.run_bind, run_underlying hu, Result.andThen_ok, hbd, run_sz hz, Sem.run_pure, cutAddr, pl]

/-- copy onto a row of one's own. -/
theorem SEM.copyX {all l : List Oper} {o : Oper} {c : Call} {s x : Operand} {t t' e : TypeId} {ad : Addr} {X : Option Addr} {n cc m cx sz q dl dc : Nat} {cs : List Value} (i : Nat) (news : List Value) (hH : H[i]? = some (Row (.slice (some ad) n cc) n sz cs))
    (hsrc : Says (stA L H) fun w => SrcAt w X news) (hl : news.length = m * sz) (hone : AllOne news) (hq : q + Nat.min m dl * sz ≤ cs.length) (h0 : 0 < Nat.min m dl * sz)
    (h : SEM P N (.ops all l :: k) (E.put o.dst (.v (.int .i64 (Nat.min m dl : Nat)))) L (H.set i (Row (.slice (some ad) n cc) n sz (splice cs q (news.take (Nat.min m dl * sz))))) Q)
    (hg : o.guard = none) (hd : dstOk N o.dst = true) (ho : o.op = .call c) (hc : c.callee = .builtin .copy) (ha : c.args = [s, x].toArray) (hat : c.argTypes = [t, t'].toArray)
    (hs : E.ev s = some (.v (.slice (some (ad.add q)) dl dc))) (hx : E.ev x = some (.v (.slice X m cx))) (ht : tsl P t = some e) (hz : tsz P e = some sz) :
    SEM P N (.ops all (o :: l) :: k) E L H Q := by
  refine SEM.stepV hg hd fun a w he ⟨S, hS⟩ => ?_
  have e1 := he.ev hs
  have e2 := he.ev hx
  simp only [AV.to, Option.some.injEq] at e1 e2
  unfold tsl at ht
  cases hu : P.underlying t with
  | none => simp [hu] at ht
  | some d =>
    cases d <;> first | (simp [hu] at ht; done) | skip
    simp only [hu, Option.some.injEq] at ht
    subst ht
    rename_i e
    have hin : Says (stA L H) fun w => ∃ S, (Row (.slice (some ad) n cc) n sz cs).P w S := H_says hH fun w S h => ⟨S, h⟩
    obtain ⟨T, hT⟩ := hin w S hS
    have htl : (news.take (Nat.min m dl * sz)).length = Nat.min m dl * sz := by
      rw [List.length_take, hl]
      exact Nat.min_eq_left (Nat.mul_le_mul_right _ (Nat.min_le_left _ _))
    obtain ⟨w', hrun, hst⟩ := Row.store (P := P) (vs := news.take (Nat.min m dl * sz)) hT (by rw [htl]; exact hq) (by rw [htl]; exact h0) (hone.take _)
    have hsrc' : SrcAt w X (news.take (Nat.min m dl * sz)) := by
      rcases hsrc w S hS with rfl | ⟨ad', rfl, hc'⟩
      · exact .inl (by simp)
      · exact .inr ⟨ad', rfl, hc'.take _⟩
    have hf : (Builtin.firstCells sz (Nat.min m dl) (.slice X m cx)).run P w = .ok (news.take (Nat.min m dl * sz)).toArray w := by
      rcases hsrc' with h' | ⟨ad', rfl, hc'⟩
      · rw [h'] at htl
        simp at htl
        rw [h']
        cases X with
        | none => simp [Builtin.firstCells]
        | some ad => 
          have : Nat.min m dl * sz = 0 := by omega
          simp [Builtin.firstCells, this, loadCells, loadCellsFrom]
      · exact run_firstCells_some w sz _ ad' m cx _ htl hc'
    refine ⟨.int .i64 (Nat.min m dl : Nat), w', _, ?_, stA_set hH hst, h⟩
    rw [run_call_builtin ho hc]
    simp only [builtin, ha, hat, Sem.run_bind, List.map_toArray, List.map_cons, List.map_nil, ← e1, ← e2, Builtin.copy_, List.getElem?_toArray, List.getElem?_cons_zero, List.getElem?_cons_succ, run_underlying hu, Result.andThen_ok, Builtin.lenOf, Sem.run_pure, run_sz hz, hf, hrun, goInt]

/-! ### Bytes and strings -/
theorem Row.newFr {A : Assn} (w : World) (e : TypeId) (n c sz : Nat) (cs rest : List Value) (fr : Nat × Nat) (h1 : cs.length = n * sz) (h2 : (cs ++ rest).length = c * sz) (h3 : n ≤ c) (h4 : AllOne cs) (h5 : n ≤ 140737488355328) (hfr : ∀ i, i < (cs ++ rest).length → ¬ (fr.1 ≤ i ∧ i < fr.2)) :
    Step A (star (Row (.slice (some ⟨w.heap.size, 0, none⟩) n c) n sz cs) A) w (w.alloc (.cells (cs ++ rest).toArray e fr)) := by
  refine Step.grow ⟨rfl, rfl, rfl, by show _ ≤ (w.heap.push _).size; simp, fun b hb _ => Below.heap_alloc _ _ _ hb⟩ ⟨fun i => i = w.heap.size, ⟨⟨⟨h1, h5⟩, h4⟩, .inr ⟨w.heap.size, [], rest, c, rfl, ⟨e, fr, ?_, ?_⟩, h2, h3, fun i => Iff.rfl⟩⟩, ?_⟩
  · show (w.heap.push _)[w.heap.size]? = _
    simp
  · simpa using hfr
  · intro b hb
    omega
theorem tsl_some {t e : TypeId} (h : tsl P t = some e) : P.underlying t = some (.slice e) := by
  unfold tsl at h
  split at h
  · rename_i e' he; cases h; exact he
  · cases h
theorem tint_some {t : TypeId} {kk : IntKind} (h : tint P t = some kk) : P.underlying t = some (.int kk) := by
  unfold tint at h
  split at h
  · rename_i e' he; cases h; exact he
  · cases h
theorem tstr_some {t : TypeId} (h : tstr P t = true) : P.underlying t = some .string := by
  unfold tstr at h
  split at h
  · rename_i he; exact he
  · cases h
theorem SEM.toBytes {all l : List Oper} {o : Oper} {t t' e : TypeId} {x : Operand} {s : ByteArray} (hsm : s.size ≤ 140737488355328)
    (h : ∀ b c, SEM P N (.ops all l :: k) (E.put o.dst (.v (.slice (some ⟨b, 0, none⟩) s.size c))) L (Row (.slice (some ⟨b, 0, none⟩) s.size c) s.size 1 (byteCells s) :: H) Q)
    (hg : o.guard = none) (hd : dstOk N o.dst = true) (ho : o.op = .convert t t' x)
    (hx : E.ev x = some (.v (.string s))) (ht : tstr P t = true) (ht' : tsl P t' = some e) (he8 : tint P e = some .u8) :
    SEM P N (.ops all (o :: l) :: k) E L H Q := by
  refine SEM.stepV hg hd fun a w he _ => ?_
  have e1 := he.ev hx
  simp only [AV.to, Option.some.injEq] at e1
  have hr := run_bytes_of_string (P := P) w t t' e s (tstr_some ht) (tsl_some ht') (tint_some he8)
  have hC : s.size ≤ grownCap w s.size 0 e := by simp [grownCap, Question.cut]
  refine ⟨.slice (some ⟨w.heap.size, 0, none⟩) s.size (grownCap w s.size 0 e), w.drew.alloc (.cells (bytesRow s (grownCap w s.size 0 e)) e ((bytesRow s (grownCap w s.size 0 e)).size, (bytesRow s (grownCap w s.size 0 e)).size + 1)), _, by simp only [execOp, ho, ← e1, Sem.run_bind, hr, Result.andThen_ok, Sem.run_pure], ?_, h w.heap.size (grownCap w s.size 0 e)⟩
  have hcl : bytesRow s (grownCap w s.size 0 e) = (byteCells s ++ List.replicate (grownCap w s.size 0 e - s.size) (Value.int .u8 0)).toArray := Array.ext' (by simp [bytesRow, byteCells])
  have hl : (byteCells s ++ List.replicate (grownCap w s.size 0 e - s.size) (Value.int .u8 0)).length = grownCap w s.size 0 e := by rw [List.length_append, byteCells_len, List.length_replicate]; omega
  rw [hcl]
  refine stA_add (Step.trans (B := stA L H) (Step.same (Keeps.drew w)) ?_)
  refine Row.newFr w.drew e s.size _ 1 (byteCells s) _ _ (by rw [byteCells_len, Nat.mul_one]) (by rw [hl, Nat.mul_one]) hC (byteCells_one s) hsm ?_
  intro i hi h
  simp only [List.size_toArray] at h
  omega
theorem SEM.toStr {all l : List Oper} {o : Oper} {t t' e : TypeId} {x : Operand} {A : Option Addr} {n c : Nat} (s : ByteArray) (hn : s.size = n) (hsrc : Says (stA L H) fun w => SrcAt w A (byteCells s))
    (h : SEM P N (.ops all l :: k) (E.put o.dst (.v (.string s))) L H Q)
    (hg : o.guard = none) (hd : dstOk N o.dst = true) (ho : o.op = .convert t t' x)
    (hx : E.ev x = some (.v (.slice A n c))) (ht : tsl P t = some e) (he8 : tint P e = some .u8) (ht' : tstr P t' = true) :
    SEM P N (.ops all (o :: l) :: k) E L H Q := by
  refine SEM.quiet' hg hd rfl (fun a w he ⟨S, hS⟩ => ?_) h
  have e1 := he.ev hx
  simp only [AV.to, Option.some.injEq] at e1
  have hrun : (convert t t' (.slice A n c)).run P w = .ok (.string s) w := by
    rcases hsrc w S hS with h0 | ⟨ad, rfl, hc⟩
    · have hs0 : s.size = 0 := by rw [← byteCells_len, h0]; rfl
      have hse : s = ByteArray.empty := by
        apply ByteArray.ext
        apply Array.ext'
        have : s.data.toList.length = 0 := by simpa using hs0
        rw [List.eq_nil_of_length_eq_zero this]; rfl
      have hn0 : n = 0 := by omega
      subst hse
      subst hn0
      rw [run_convert_bytes_string w t t' e A 0 c (tsl_some ht) (tint_some he8) (tstr_some ht')]
      cases A with
      | none => simp [Conv.bytesToString]
      | some ad => 
        have := run_bytesToString (P := P) w ad 0 c [] (by simp [loadCells, loadCellsFrom])
        simpa using this
    · have := run_convert_bytes_back (P := P) w t t' e ad c s.data.toList (tsl_some ht) (tint_some he8) (tstr_some ht') (fun j hj => hc j _ (by simp [byteCells, List.getElem?_eq_getElem hj]))
      rw [show s.data.toList.length = n from hn] at this
      rw [this]
  simp only [execOp, ho, ← e1, Sem.run_bind, hrun, Result.andThen_ok, Sem.run_pure]

/-! ### Calls that read or make -/
/-- Called in w, the function returns; B is said of what it returns, of new blocks alone; nothing that was there is touched. -/
def MFn (P : Program) (f : FuncId) (args : List Value) (w : World) (B : Value → Assn) : Prop :=
  Calls P f args.toArray w fun e w' => ∃ v, e = .returned v ∧ Keeps NoS w w' ∧ ∃ S', (B v).P w' S' ∧ ∀ b, S' b → w.heap.size ≤ b
/-- .. returns r. -/
def RFn (P : Program) (f : FuncId) (args : List Value) (w : World) (r : Value) : Prop :=
  Calls P f args.toArray w fun e w' => e = .returned r ∧ Keeps NoS w w'
def Sat (A : Assn) (w : World) : Prop := ∃ S, A.P w S

theorem PFn.r {f : FuncId} {args : List Value} {r : Value} (h : PFn P f args r) (w : World) : RFn P f args w r := h w
theorem MFn.fn {f : FuncId} {args : List Value} {A : Assn} {B : Value → Assn} (h : ∀ w, Sat A w → MFn P f args w B) : Fn P f args A (fun v => star (B v) A) := by
  intro w S hA
  refine (h w ⟨S, hA⟩).mono ?_
  rintro e w' ⟨v, rfl, hk, hB⟩
  obtain ⟨k', S', h1, h2⟩ := (Step.grow (A := A) (C := B v) hk hB) S hA
  exact ⟨v, rfl, k', S', h1, h2⟩
/-- What is proved of a function with the world that it is called in as its state. -/
theorem MFn.of_fn {f : FuncId} {args : List Value} {w : World} {B : Value → Assn} (h : Fn P f args (amb w) (fun v => star (B v) (amb w))) : MFn P f args w B := by
  refine (h w (fun b => b < w.heap.size) ⟨Nat.le_refl _, fun _ _ => rfl, fun _ => Iff.rfl⟩).mono ?_
  rintro e w' ⟨v, rfl, hk, S', ⟨S1, S2, h1, ⟨_, h2, h3⟩, hd, hs⟩, _⟩
  refine ⟨v, rfl, ⟨hk.os, hk.tape, hk.output, hk.size, fun b hb _ => h2 b hb⟩, S1, h1, fun b hb => ?_⟩
  apply Nat.le_of_not_lt
  intro hlt
  exact hd b hb ((h3 b).2 hlt)
theorem RFn.of_fn {f : FuncId} {args : List Value} {w : World} {r : Value} (h : Fn P f args (amb w) (fun v => star (fact (v = r)) (amb w))) : RFn P f args w r := by
  refine (MFn.of_fn h).mono ?_
  rintro e w' ⟨v, rfl, hk, S', ⟨rfl, _⟩, _⟩
  exact ⟨rfl, hk⟩
/-- The entries. -/
theorem MFn.run {f : FuncId} {fn : Func} {c : Code} {rs : List ResultVar} {args : List Value} {w : World} {B : Value → Assn} (n : Nat) (hf : P.funcs[f]? = some fn) (hn : fn.ntmps = N) (hb : fn.body = some c)
    (hrs : fn.results = rs.toArray) (ha : args.length ≤ N) (h : wpk P N n [.code c] (enterE 0 args) [] [amb w] (RetPost P rs fun v => star (B v) (amb w))) : MFn P f args w B :=
  MFn.of_fn ((Fn.of_sem hf hn hb hrs ha (wpk_sound n h)).mono (Ent.empr _) fun _ => Ent.refl _)
theorem RFn.run {f : FuncId} {fn : Func} {c : Code} {rs : List ResultVar} {args : List Value} {w : World} {r : Value} (n : Nat) (hf : P.funcs[f]? = some fn) (hn : fn.ntmps = N) (hb : fn.body = some c)
    (hrs : fn.results = rs.toArray) (ha : args.length ≤ N) (h : wpk P N n [.code c] (enterE 0 args) [] [amb w] (RetPost P rs fun v => star (fact (v = r)) (amb w))) : RFn P f args w r :=
  RFn.of_fn ((Fn.of_sem hf hn hb hrs ha (wpk_sound n h)).mono (Ent.empr _) fun _ => Ent.refl _)
theorem Fn.run {f : FuncId} {fn : Func} {c : Code} {rs : List ResultVar} {args : List Value} {H : List Assn} {B : Value → Assn} (n : Nat) (hf : P.funcs[f]? = some fn) (hn : fn.ntmps = N) (hb : fn.body = some c)
    (hrs : fn.results = rs.toArray) (ha : args.length ≤ N) (h : wpk P N n [.code c] (enterE 0 args) [] H (RetPost P rs B)) : Fn P f args (stars H) B :=
  Fn.of_sem hf hn hb hrs ha (wpk_sound n h)
/-- What was there is there still. -/
def Still (w w' : World) : Prop := w.heap.size ≤ w'.heap.size ∧ ∀ b, b < w.heap.size → w'.heap[b]? = w.heap[b]?
theorem amb_still (w : World) : Says (amb w) (Still w) := fun w' S h => ⟨h.1, h.2.1⟩
theorem Keeps.still {w w' : World} (h : Keeps NoS w w') : Still w w' := ⟨h.size, fun b hb => h.block b hb fun h => h⟩
theorem Still.cell {w w' : World} (h : Still w w') {a : Addr} {v : Value} (hc : w.cell? a = some v) : w'.cell? a = some v := by
  have hlt : a.block < w.heap.size := by
    unfold World.cell? at hc
    cases hb : w.heap[a.block]? with
    | none => simp [hb] at hc
    | some o => exact (Array.getElem?_eq_some_iff.1 hb).1
  rw [World.cell?_of_block (h.2 _ hlt)]
  exact hc

/-- A call that reads. -/
theorem SEM.callR {all l : List Oper} {o : Oper} {c : Call} {x : Operand} {f : FuncId} {fi ca : Array Value} {vs args : List Value} {r : Value} (h : ∀ w, Sat (stA L H) w → RFn P f args w r)
    (hs : SEM P N (.ops all l :: k) (E.put o.dst (.v r)) L H Q) (hg : o.guard = none) (hd : dstOk N o.dst = true)
    (ho : o.op = .call c) (hc : c.callee = .value x) (hx : E.ev x = some (.v (.func (.func f) fi ca))) (hv : vals E.ev L c.args.toList = some vs) (hargs : fi.toList ++ vs ++ ca.toList = args) (hf : callable P f = true) :
    SEM P N (.ops all (o :: l) :: k) E L H Q := SEM.op hg fun w0 S0 a w he hi => by
  subst hargs
  have e1 := he.ev hx
  simp only [AV.to, Option.some.injEq] at e1
  have e2 := vals_map (ρ := a.eval) (fun x y hx => he.ev hx) _ _ hv
  obtain ⟨S, hS, _⟩ := hi.has
  simp only [Oper.wp, run_callF ho hc e1.symm e2 hf, Oper.upon]
  refine (h w ⟨S, hS⟩).mono ?_
  rintro e w' ⟨rfl, hk1⟩
  exact hs w0 S0 _ w' (he.put hd rfl) ((Step.same hk1).inv hi)
/-- A call that makes. -/
theorem SEM.callM {all l : List Oper} {o : Oper} {c : Call} {x : Operand} {f : FuncId} {fi ca : Array Value} {vs args : List Value} {B : Value → Assn} (h : ∀ w, Sat (stA L H) w → MFn P f args w B)
    (hs : ∀ v, SEM P N (.ops all l :: k) (E.put o.dst (.v v)) L (B v :: H) Q) (hg : o.guard = none) (hd : dstOk N o.dst = true)
    (ho : o.op = .call c) (hc : c.callee = .value x) (hx : E.ev x = some (.v (.func (.func f) fi ca))) (hv : vals E.ev L c.args.toList = some vs) (hargs : fi.toList ++ vs ++ ca.toList = args) (hf : callable P f = true) :
    SEM P N (.ops all (o :: l) :: k) E L H Q := by
  subst hargs
  exact SEM.callK hg hd ho hc hx hv hf rfl (MFn.fn h) hs
/-- A call that turns what stands first in H. -/
theorem SEM.callH {all l : List Oper} {o : Oper} {c : Call} {x : Operand} {f : FuncId} {fi ca : Array Value} {vs args : List Value} {A : Assn} {B : Value → Assn} (h : Fn P f args A B)
    (hs : ∀ v, SEM P N (.ops all l :: k) (E.put o.dst (.v v)) L (B v :: H) Q) (hg : o.guard = none) (hd : dstOk N o.dst = true)
    (ho : o.op = .call c) (hc : c.callee = .value x) (hx : E.ev x = some (.v (.func (.func f) fi ca))) (hv : vals E.ev L c.args.toList = some vs) (hargs : fi.toList ++ vs ++ ca.toList = args) (hf : callable P f = true) :
    SEM P N (.ops all (o :: l) :: k) E L (A :: H) Q := by
  subst hargs
  refine SEM.callX hg hd ho hc hx hv hf rfl (A := star A (stA L H)) ?_ (h.frame _) fun v => ⟨L, B v :: H, fun k p hp => ⟨p, hp, rfl⟩, ?_, hs v⟩
  · exact ((Ent.assoc' _ _ _).trans (Ent.star (Ent.comm _ _) (Ent.refl _))).trans (Ent.assoc _ _ _)
  · exact ((Ent.assoc' _ _ _).trans (Ent.star (Ent.comm _ _) (Ent.refl _))).trans (Ent.assoc _ _ _)

/-! ### What is said, opened -/
theorem ent_mid {A B : Assn} (h : Ent A B) : Ent (stA L (A :: H)) (stA L (B :: H)) := Ent.star (Ent.refl _) (Ent.star h (Ent.refl _))
theorem SEM.open1 {A B : Assn} (h : SEM P N k E L (B :: H) Q) (hAB : Ent A B) : SEM P N k E L (A :: H) Q := h.weak (fun _ h => h) (ent_mid hAB)
theorem SEM.openEx {α : Type} {A : α → Assn} (h : ∀ x, SEM P N k E L (A x :: H) Q) : SEM P N k E L (ex A :: H) Q := fun w0 S0 a w he hi => by
  obtain ⟨S, hS, hs⟩ := hi.has
  obtain ⟨S1, S2, h1, ⟨S3, S4, ⟨x, h3⟩, h4, hd', hs'⟩, hd, hs2⟩ := hS
  exact h x w0 S0 a w he ⟨hi.keeps, S, ⟨S1, S2, h1, ⟨S3, S4, h3, h4, hd', hs'⟩, hd, hs2⟩, hs⟩
theorem SEM.openFact {p : Prop} (h : p → SEM P N k E L H Q) : SEM P N k E L (fact p :: H) Q := fun w0 S0 a w he hi => by
  have hp : p := by
    obtain ⟨S, ⟨S1, S2, h1, ⟨S3, S4, ⟨h3, _⟩, _⟩, _⟩, _⟩ := hi.has
    exact h3
  exact h hp w0 S0 a w he (hi.ent (Ent.star (Ent.refl _) (Ent.right _ _)))
theorem SEM.openStar {A B : Assn} (h : SEM P N k E L (A :: B :: H) Q) : SEM P N k E L (star A B :: H) Q := h.weak (fun _ h => h) (Ent.star (Ent.refl _) (Ent.assoc _ _ _))
theorem SEM.drop1 {A : Assn} (h : SEM P N k E L H Q) : SEM P N k E L (A :: H) Q := h.weak (fun _ h => h) (Ent.star (Ent.refl _) (Ent.right _ _))
theorem SEM.addNil (A : Option Addr) (sz : Nat) (h : SEM P N k E L (Row (.slice A 0 0) 0 sz [] :: H) Q) : SEM P N k E L H Q :=
  h.weak (fun _ h => h) (Ent.star (Ent.refl _) ((Ent.empl _).trans (Ent.star (Row.empty A sz) (Ent.refl _))))
theorem SEM.rowShape {v : Value} {n sz : Nat} {cs : List Value} (h : ∀ A c, v = .slice A n c → n ≤ c → (0 < n → ∃ ad, A = some ad) → cs.length = n * sz → n ≤ 140737488355328 → AllOne cs → SEM P N k E L (Row v n sz cs :: H) Q) : SEM P N k E L (Row v n sz cs :: H) Q :=
  SEM.use (φ := ((cs.length = n * sz ∧ n ≤ 140737488355328) ∧ AllOne cs) ∧ ∃ A c, v = .slice A n c ∧ n ≤ c ∧ (0 < n → ∃ ad, A = some ad)) (H_says (i := 0) rfl (Row.shape v n sz cs)) fun ⟨⟨⟨h1, h6⟩, h2⟩, A, c, h3, h4, h5⟩ => h A c h3 h4 h5 h1 h6 h2
/-- One of H comes first. -/
theorem SEM.pull (i : Nat) {A : Assn} (hH : H[i]? = some A) (h : SEM P N k E L (A :: H.eraseIdx i) Q) : SEM P N k E L H Q := h.weak (fun _ h => h) (Ent.star (Ent.refl _) (stars_pick H i A hH))
end
end Go.Sep
