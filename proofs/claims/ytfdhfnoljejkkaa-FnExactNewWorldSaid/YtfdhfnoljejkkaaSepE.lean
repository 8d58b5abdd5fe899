/-
  Indexing and cutting; the run itself as a function, and that it is right.
  Plain definitions and theorems; nothing of a program in it.
-/
import Derived.Test.YtfdhfnoljejkkaaSepD
set_option linter.unusedVariables false
set_option linter.unusedSimpArgs false
namespace Go.Sep
open Go Go.RowKit

/-- The byte at a place. -/
def bt (s : ByteArray) (i : Int) : Int := match s[i.toNat]? with | some b => (b.toNat : Int) | none => 0
theorem bt_range (s : ByteArray) (i : Int) : 0 ≤ bt s i ∧ bt s i ≤ 255 := by
  unfold bt
  split
  · rename_i b _
    have := b.toNat_lt
    omega
  · omega
def cutAddr (A : Option Addr) (l m sz : Nat) : Option Addr := if m = l then A else A.map (pl · (l * sz))

section
variable {P : Program} {N : Nat} {k : List It} {E : Env} {L : List Loc} {H : List Assn} {Q : Post}

/-- A quiet operation, shown by hand. -/
theorem SEM.quiet' {all l : List Oper} {o : Oper} {y : AV} {v : Value} (hg : o.guard = none) (hd : dstOk N o.dst = true) (hy : y.to L = some v)
    (hr : ∀ a w, EOk N E L a → (∃ S, (stA L H).P w S) → (execOp a.eval o).run P w = .ok (.value v) w)
    (h : SEM P N (.ops all l :: k) (E.put o.dst y) L H Q) : SEM P N (.ops all (o :: l) :: k) E L H Q := SEM.op hg fun w0 S0 a w he hi => by
  obtain ⟨S, hS, _⟩ := hi.has
  simp only [Oper.wp, hr a w he ⟨S, hS⟩, Oper.upon]
  exact h w0 S0 _ w (he.put hd hy) hi

theorem SEM.indexStr {all l : List Oper} {o : Oper} {t : TypeId} {x i : Operand} {s : ByteArray} {kk : IntKind} {j : Int} (hg : o.guard = none) (hd : dstOk N o.dst = true) (ho : o.op = .index t x i)
    (hx : E.ev x = some (.v (.string s))) (hi : E.ev i = some (.v (.int kk j))) (ht : tstr P t = true) (h0 : 0 ≤ j) (h1 : j < s.size)
    (h : SEM P N (.ops all l :: k) (E.put o.dst (.v (.int .u8 (bt s j)))) L H Q) : SEM P N (.ops all (o :: l) :: k) E L H Q := by
  refine SEM.quiet' hg hd rfl (fun a w he _ => ?_) h
  have e1 := he.ev hx
  have e2 := he.ev hi
  simp only [AV.to, Option.some.injEq] at e1 e2
  have hl : j.toNat < s.size := by omega
  have hb : s[j.toNat]? = some s[j.toNat] := by simp [hl]
  unfold tstr at ht
  split at ht
  · rename_i hu
    simp [execOp, ho, ← e1, ← e2, Instr.index, asIntOf, Sem.run_bind, run_underlying hu, h0, hb, bt]
  · cases ht
theorem SEM.indexAddr {all l : List Oper} {o : Oper} {t e : TypeId} {x i : Operand} {A : Option Addr} {n c sz : Nat} {kk : IntKind} {j : Int} {ad : Addr} (hg : o.guard = none) (hd : dstOk N o.dst = true) (ho : o.op = .indexAddr t x i)
    (hx : E.ev x = some (.v (.slice A n c))) (hi : E.ev i = some (.v (.int kk j))) (ht : tsl P t = some e) (hz : tsz P e = some sz) (h0 : 0 ≤ j) (h1 : j < n) (hA : A = some ad)
    (h : SEM P N (.ops all l :: k) (E.put o.dst (.v (.pointer (some (pl ad (j.toNat * sz)))))) L H Q) : SEM P N (.ops all (o :: l) :: k) E L H Q := by
  refine SEM.quiet' hg hd rfl (fun a w he _ => ?_) h
  have e1 := he.ev hx
  have e2 := he.ev hi
  simp only [AV.to, Option.some.injEq] at e1 e2
  subst hA
  unfold tsl at ht
  split at ht
  · rename_i e' hu
    cases ht
    simp [execOp, ho, ← e1, ← e2, Instr.indexAt, asIntOf, Sem.run_bind, run_underlying hu, h0, h1, run_sz hz, pl]
  · cases ht

/-- Where a cut begins, ends, and how far one may go. -/
def cutLo : Option (Option AV) → Option Int
  | none => some 0
  | some (some (.v (.int _ j))) => some j
  | _ => none
def cutHi (d : Int) : Option (Option AV) → Option Int
  | none => some d
  | some (some (.v (.int _ j))) => some j
  | _ => none

theorem SEM.cutStr {all l : List Oper} {o : Oper} {t : TypeId} {x : Operand} {lo hi : Option Operand} {s : ByteArray} {j m : Int} (hg : o.guard = none) (hd : dstOk N o.dst = true) (ho : o.op = .slice t x lo hi none)
    (hx : E.ev x = some (.v (.string s))) (hlo : cutLo (lo.map E.ev) = some j) (hhi : cutHi s.size (hi.map E.ev) = some m) (ht : tstr P t = true) (h0 : 0 ≤ j) (h1 : j ≤ m) (h2 : m ≤ s.size)
    (h : SEM P N (.ops all l :: k) (E.put o.dst (.v (.string (s.extract j.toNat m.toNat)))) L H Q) : SEM P N (.ops all (o :: l) :: k) E L H Q := by
  refine SEM.quiet' hg hd rfl (fun a w he _ => ?_) h
  have e1 := he.ev hx
  simp only [AV.to, Option.some.injEq] at e1
  have hb : ∀ (v : Int) (kk : IntKind) (c : Nat) (code : BoundsCode), 0 ≤ v → v ≤ c → (Instr.sliceBound (.int kk v) c code).run P w = .ok v.toNat w := by
    intro v kk c code h0 h1
    simp [Instr.sliceBound, asIntOf, Sem.run_bind, h0, h1]
  unfold tstr at ht
  split at ht
  · rename_i hu
    have elo : ∀ z kk, lo = some z → ∀ v, E.ev z = some (.v (.int kk v)) → a.eval z = .int kk v := by
      intro z kk _ v hz
      have := he.ev hz
      simp only [AV.to, Option.some.injEq] at this
      exact this.symm
    have ehi : ∀ z kk, hi = some z → ∀ v, E.ev z = some (.v (.int kk v)) → a.eval z = .int kk v := by
      intro z kk _ v hz
      have := he.ev hz
      simp only [AV.to, Option.some.injEq] at this
      exact this.symm
    cases lo with
    | none =>
      simp only [Option.map_none, cutLo, Option.some.injEq] at hlo
      subst hlo
      cases hi with
      | none =>
        simp only [Option.map_none, cutHi, Option.some.injEq] at hhi
        subst hhi
        simp [execOp, ho, ← e1, Instr.sliceAt, Instr.slice, Instr.sliceBounds, Sem.run_bind, run_underlying hu]
      | some z =>
        simp only [Option.map_some] at hhi
        cases hz : E.ev z with
        | none => simp [hz, cutHi] at hhi
        | some y =>
          cases y with
          | l _ _ => simp [hz, cutHi] at hhi
          | v y =>
            cases y <;> first | (simp [hz, cutHi] at hhi; done) | skip
            rename_i kk v
            simp only [hz, cutHi, Option.some.injEq] at hhi
            subst hhi
            have ez := ehi z kk rfl _ hz
            simp [execOp, ho, ← e1, ez, Instr.sliceAt, Instr.slice, Instr.sliceBounds, Sem.run_bind, run_underlying hu, hb _ kk s.size _ h1 h2]
    | some y =>
      simp only [Option.map_some] at hlo
      cases hz : E.ev y with
      | none => simp [hz, cutLo] at hlo
      | some u =>
        cases u with
        | l _ _ => simp [hz, cutLo] at hlo
        | v u =>
          cases u <;> first | (simp [hz, cutLo] at hlo; done) | skip
          rename_i kk v
          simp only [hz, cutLo, Option.some.injEq] at hlo
          subst hlo
          have ey := elo y kk rfl _ hz
          cases hi with
          | none =>
            simp only [Option.map_none, cutHi, Option.some.injEq] at hhi
            subst hhi
            simp [execOp, ho, ← e1, ey, Instr.sliceAt, Instr.slice, Instr.sliceBounds, Sem.run_bind, run_underlying hu, hb _ kk s.size _ h0 h1]
          | some z =>
            simp only [Option.map_some] at hhi
            cases hz' : E.ev z with
            | none => simp [hz', cutHi] at hhi
            | some y' =>
              cases y' with
              | l _ _ => simp [hz', cutHi] at hhi
              | v y' =>
                cases y' <;> first | (simp [hz', cutHi] at hhi; done) | skip
                rename_i kk' v'
                simp only [hz', cutHi, Option.some.injEq] at hhi
                subst hhi
                have ez := ehi z kk' rfl _ hz'
                have h3 : v ≤ (v'.toNat : Int) := by omega
                simp [execOp, ho, ← e1, ez, ey, Instr.sliceAt, Instr.slice, Instr.sliceBounds, Sem.run_bind, run_underlying hu, hb v' kk' s.size _ (by omega) h2, hb v kk v'.toNat _ h0 h3]
  · cases ht
end

section
variable (P : Program) (N : Nat)
/-- The run. Where it can't go on by itself it stands, with all that is still to come. -/
def wpk : Nat → List It → Env → List Loc → List Assn → Post → Prop
  | 0, k, E, L, H, Q => SEM P N k E L H Q
  | _ + 1, [], E, L, H, Q => Q .normal E L H
  | n + 1, .blk _ :: k, E, L, H, Q => wpk n k E L H Q
  | _ + 1, .endl J :: _, E, L, H, _ => J E L H
  | n + 1, .code c :: k, E, L, H, Q => match c with
    | .skip => wpk n k E L H Q
    | .region id ops false => wpk n (.ops ops.toList ops.toList :: k) E L H Q
    | .seq x y => wpk n (.code x :: .code y :: k) E L H Q
    | .cond c x y => match E.ev c with
      | some (.v (.bool t)) => (t = true → wpk n (.code x :: k) E L H Q) ∧ (t = false → wpk n (.code y :: k) E L H Q)
      | _ => SEM P N (.code (.cond c x y) :: k) E L H Q
    | .block id b => wpk n (.code b :: .blk id :: k) E L H Q
    | .exit id => match dropTo id k with
      | some k' => wpk n k' E L H Q
      | none => False
    | .ret => Q .ret E L H
    | c => SEM P N (.code c :: k) E L H Q
  | n + 1, .ops _ [] :: k, E, L, H, Q => wpk n k E L H Q
  | n + 1, .ops all (o :: l) :: k, E, L, H, Q => match dstOk N o.dst with
    | false => False
    | true => match o.guard with
      | some (j, want) => match (all[j]?).bind (·.dst) with
        | some d => match E.get d with
          | some (.v (.bool t)) => (t = want → wpk n (.ops all ({ o with guard := none } :: l) :: k) ((d, .v (.bool want)) :: E) L H Q) ∧ (t = (!want) → wpk n (.ops all l :: k) (Env.put ((d, .v (.bool (!want))) :: E) o.dst (.v undef)) L H Q)
          | _ => SEM P N (.ops all (o :: l) :: k) E L H Q
        | none => SEM P N (.ops all (o :: l) :: k) E L H Q
      | none => match qop P o.op E.ev L with
        | some y => wpk n (.ops all l :: k) (E.put o.dst y) L H Q
        | none => match o.op with
          | .store t x v => match E.ev x, E.ev v with
            | some (.l i off), some y => match L[i]?, y.to L, o.dst with
              | some p, some val, none => match storeOk P t p.2 val.cells.toList off with
                | true => wpk n (.ops all l :: k) E (L.set i (p.1, splice p.2 off val.cells.toList)) H Q
                | false => SEM P N (.ops all (o :: l) :: k) E L H Q
              | _, _, _ => SEM P N (.ops all (o :: l) :: k) E L H Q
            | _, _ => SEM P N (.ops all (o :: l) :: k) E L H Q
          | .box t x => match E.ev x with
            | some y => match y.to L with
              | some val => ∀ b, wpk n (.ops all l :: k) (E.put o.dst (.l L.length 0)) (L ++ [(b, val.cells.toList)]) H Q
              | none => SEM P N (.ops all (o :: l) :: k) E L H Q
            | none => SEM P N (.ops all (o :: l) :: k) E L H Q
          | .alloc t => match tzero P t with
            | some cs => ∀ b, wpk n (.ops all l :: k) (E.put o.dst (.l L.length 0)) (L ++ [(b, cs)]) H Q
            | none => SEM P N (.ops all (o :: l) :: k) E L H Q
          | .pick c x z => match E.ev c with
            | some (.v (.bool t)) => (t = true → ∃ y, E.ev x = some y ∧ wpk n (.ops all l :: k) (E.put o.dst y) L H Q) ∧ (t = false → ∃ y, E.ev z = some y ∧ wpk n (.ops all l :: k) (E.put o.dst y) L H Q)
            | _ => SEM P N (.ops all (o :: l) :: k) E L H Q
          | .index t x i => match E.ev x, E.ev i, tstr P t with
            | some (.v (.string s)), some (.v (.int _ j)), true => (0 ≤ j ∧ j < s.size) ∧ wpk n (.ops all l :: k) (E.put o.dst (.v (.int .u8 (bt s j)))) L H Q
            | _, _, _ => SEM P N (.ops all (o :: l) :: k) E L H Q
          | .indexAddr t x i => match E.ev x, E.ev i, (tsl P t).bind (tsz P) with
            | some (.v (.slice (some ad) m _)), some (.v (.int _ j)), some sz => (0 ≤ j ∧ j < m) ∧ wpk n (.ops all l :: k) (E.put o.dst (.v (.pointer (some (pl ad (j.toNat * sz)))))) L H Q
            | _, _, _ => SEM P N (.ops all (o :: l) :: k) E L H Q
          | .slice t x lo hi none => match E.ev x, tstr P t with
            | some (.v (.string s)), true => match cutLo (lo.map E.ev), cutHi s.size (hi.map E.ev) with
              | some j, some m => (0 ≤ j ∧ j ≤ m ∧ m ≤ s.size) ∧ wpk n (.ops all l :: k) (E.put o.dst (.v (.string (s.extract j.toNat m.toNat)))) L H Q
              | _, _ => SEM P N (.ops all (o :: l) :: k) E L H Q
            | _, _ => SEM P N (.ops all (o :: l) :: k) E L H Q
          | _ => SEM P N (.ops all (o :: l) :: k) E L H Q
end

theorem put_same {N : Nat} {E : Env} {L : List Loc} {d : Nat} {x : AV} (h : E.get d = some x) (a : Act) (he : EOk N E L a) : EOk N ((d, x) :: E) L a :=
  he.sub fun t y hy => by
    simp only [Env.get] at hy
    split at hy
    · rename_i e; subst e; rw [h]; exact hy
    · exact hy

theorem wpk_sound {P : Program} {N : Nat} : ∀ (n : Nat) {k : List It} {E : Env} {L : List Loc} {H : List Assn} {Q : Post}, wpk P N n k E L H Q → SEM P N k E L H Q := by
  intro n
  induction n with
  | zero => intro k E L H Q h; exact h
  | succ n ih =>
    intro k E L H Q h
    cases k with
    | nil => exact SEM.nil h
    | cons i k =>
      cases i with
      | blk id => exact SEM.blk (ih h)
      | endl J => exact SEM.endl h
      | code c =>
        cases c with
        | skip => exact SEM.skip (ih h)
        | region id ops draw =>
          cases draw with
          | false => exact SEM.region (ih h)
          | true => exact h
        | seq x y => exact SEM.seq (ih h)
        | cond c x y =>
          simp only [wpk] at h
          split at h
          · rename_i t hc
            exact SEM.cond hc (fun e => ih (h.1 e)) (fun e => ih (h.2 e))
          · exact h
        | block id b => exact SEM.block (ih h)
        | exit id =>
          simp only [wpk] at h
          split at h
          · rename_i k' hk
            exact SEM.exit hk (ih h)
          · exact h.elim
        | ret => exact SEM.ret h
        | _ => exact h
      | ops all l =>
        cases l with
        | nil => exact SEM.opsnil (ih h)
        | cons o l =>
          simp only [wpk] at h
          split at h
          · exact h.elim
          · rename_i hd
            split at h
            · rename_i j want hg
              split at h
              · rename_i d hj
                split at h
                · rename_i t hb
                  refine SEM.guard hg hj hb hd (fun e => ?_) (fun e => ?_)
                  · subst e
                    exact (ih (h.1 rfl)).weak (fun a he => put_same hb a he) (Ent.refl _)
                  · subst e
                    refine (ih (h.2 rfl)).weak (fun a he => ?_) (Ent.refl _)
                    cases ho : o.dst with
                    | none =>
                      simp only [ho, Env.put] at he ⊢
                      exact put_same hb a he
                    | some u =>
                      simp only [ho, Env.put] at he ⊢
                      refine he.sub fun t y hy => ?_
                      simp only [Env.get] at hy ⊢
                      split at hy
                      · rename_i e; rw [if_pos e]; exact hy
                      · rename_i e
                        rw [if_neg e]
                        split at hy
                        · rename_i e'; subst e'; rw [hb]; exact hy
                        · exact hy
                · exact h
              · exact h
            · rename_i hg
              split at h
              · rename_i y hq
                exact SEM.quiet hg hd hq (ih h)
              · split at h
                · rename_i t x v ho
                  split at h
                  · rename_i i off y hx hv
                    split at h
                    · rename_i p val hp hy hdn
                      split at h
                      · rename_i hok
                        exact SEM.store hg hdn ho hx hv hp hy hok (ih h)
                      · exact h
                    · exact h
                  · exact h
                · rename_i t x ho
                  split at h
                  · rename_i y hx
                    split at h
                    · rename_i val hy
                      exact SEM.box hg hd ho hx hy fun b => ih (h b)
                    · exact h
                  · exact h
                · rename_i t ho
                  split at h
                  · rename_i cs hz
                    exact SEM.alloc hg hd ho hz fun b => ih (h b)
                  · exact h
                · rename_i c x z ho
                  split at h
                  · rename_i t hc
                    cases t with
                    | true =>
                      obtain ⟨y, hy, h1⟩ := h.1 rfl
                      exact SEM.pick (y1 := y) (y2 := y) hg hd ho hc (fun _ => ⟨hy, ih h1⟩) (fun e => by cases e)
                    | false =>
                      obtain ⟨y, hy, h1⟩ := h.2 rfl
                      exact SEM.pick (y1 := y) (y2 := y) hg hd ho hc (fun e => by cases e) (fun _ => ⟨hy, ih h1⟩)
                  · exact h
                · rename_i t x i ho
                  split at h
                  · rename_i s kk j hx hi ht
                    exact SEM.indexStr hg hd ho hx hi ht h.1.1 h.1.2 (ih h.2)
                  · exact h
                · rename_i t x i ho
                  split at h
                  · rename_i ad m c kk j sz hx hi hz
                    obtain ⟨e, ht, hz⟩ := Option.bind_eq_some_iff.1 hz
                    obtain ⟨⟨h0, h1⟩, h⟩ := h
                    exact SEM.indexAddr hg hd ho hx hi ht hz h0 h1 rfl (ih h)
                  · exact h
                · rename_i t x lo hi ho
                  split at h
                  · rename_i s hx ht
                    split at h
                    · rename_i j m hlo hhi
                      exact SEM.cutStr hg hd ho hx hlo hhi ht h.1.1 h.1.2.1 h.1.2.2 (ih h.2)
                    · exact h
                  · exact h
                · exact h

end Go.Sep
