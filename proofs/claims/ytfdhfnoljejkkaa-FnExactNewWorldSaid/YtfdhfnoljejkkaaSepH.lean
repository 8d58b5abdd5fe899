/-
  Rows of cells that slices lead to: read, made, appended to, stored into, cut.
  Plain definitions and theorems; nothing of a program in it.
-/
import Derived.Test.YtfdhfnoljejkkaaSepG
import Derived.Laws.Append
import Derived.IntWalk
set_option linter.unusedVariables false
set_option linter.unusedSimpArgs false
namespace Go.Sep
open Go Go.RowKit

theorem add_add (a : Addr) (m n : Nat) : (a.add m).add n = a.add (m + n) := by
  unfold Addr.add
  by_cases hm : m = 0
  · subst hm; simp
  · by_cases hn : n = 0
    · subst hn; simp [hm]
    · simp [hm, hn, Nat.add_assoc, show m + n ≠ 0 by omega]
theorem add_zero (a : Addr) : a.add 0 = a := by simp [Addr.add]

def CellsAt (w : World) (ad : Addr) (cs : List Value) : Prop := ∀ (j : Nat) (u : Value), cs[j]? = some u → w.cell? (ad.add j) = some u
theorem CellsAt.drop {w : World} {ad : Addr} {cs : List Value} (h : CellsAt w ad cs) (n : Nat) : CellsAt w (ad.add n) (cs.drop n) := fun j u hj => by
  rw [List.getElem?_drop] at hj
  rw [add_add]
  exact h _ _ hj
theorem CellsAt.take {w : World} {ad : Addr} {cs : List Value} (h : CellsAt w ad cs) (n : Nat) : CellsAt w ad (cs.take n) := fun j u hj => by
  rw [List.getElem?_take] at hj
  split at hj
  · exact h _ _ hj
  · cases hj
/-- The cells of a source of m elements of sz cells; none where there is none. -/
def SrcAt (w : World) (X : Option Addr) (cs : List Value) : Prop := cs = [] ∨ ∃ ad, X = some ad ∧ CellsAt w ad cs
def AllOne (cs : List Value) : Prop := ∀ u ∈ cs, u.oneCell' = true
theorem AllOne.nil : AllOne [] := fun _ h => by cases h
theorem AllOne.append {a b : List Value} (h : AllOne a) (k : AllOne b) : AllOne (a ++ b) := fun u hu => (List.mem_append.1 hu).elim (h u) (k u)
theorem AllOne.drop {a : List Value} (h : AllOne a) (n : Nat) : AllOne (a.drop n) := fun u hu => h u (List.mem_of_mem_drop hu)
theorem AllOne.take {a : List Value} (h : AllOne a) (n : Nat) : AllOne (a.take n) := fun u hu => h u (List.mem_of_mem_take hu)
theorem AllOne.splice {vs : List Value} (hv : AllOne vs) : ∀ {cs : List Value} (o : Nat), AllOne cs → AllOne (splice cs o vs) := by
  induction vs with
  | nil => intro cs o h; exact h
  | cons v r ih =>
    intro cs o h
    refine ih (fun u hu => hv u (by simp [hu])) (o + 1) fun u hu => ?_
    rcases List.mem_or_eq_of_mem_set hu with h' | rfl
    · exact h u h'
    · exact hv u (by simp)

/-- The slice v, n elements of sz cells, with the block that it lies in: its cells are cs. -/
def Row (v : Value) (n sz : Nat) (cs : List Value) : Assn where
  P w S := ((cs.length = n * sz ∧ n ≤ 140737488355328) ∧ AllOne cs) ∧ ((∃ A, v = .slice A 0 0 ∧ n = 0 ∧ ∀ b, ¬ S b) ∨
    ∃ b pre rest c, v = .slice (some ⟨b, List.length pre, none⟩) n c ∧ BlockIs w b (pre ++ cs ++ rest) ∧ (cs ++ rest).length = c * sz ∧ n ≤ c ∧ ∀ i, S i ↔ i = b)
  loc w w' S := by
    rintro ⟨h1, h2 | ⟨b, pre, rest, c, hv, ⟨e, fr, h, hf⟩, hl, hn, hs⟩⟩ _ hb
    · exact ⟨h1, .inl h2⟩
    · exact ⟨h1, .inr ⟨b, pre, rest, c, hv, ⟨e, fr, by rw [hb b ((hs b).2 rfl)]; exact h, hf⟩, hl, hn, hs⟩⟩
  bnd w S := by
    rintro ⟨h1, ⟨_, _, _, h2⟩ | ⟨b, pre, rest, c, hv, hblk, hl, hn, hs⟩⟩ i hi
    · exact (h2 i hi).elim
    · rw [(hs i).1 hi]; exact hblk.lt

theorem Row.shape (v : Value) (n sz : Nat) (cs : List Value) : Says (Row v n sz cs) fun _ => ((cs.length = n * sz ∧ n ≤ 140737488355328) ∧ AllOne cs) ∧ ∃ A c, v = .slice A n c ∧ n ≤ c ∧ (0 < n → ∃ ad, A = some ad) := by
  rintro w S ⟨h1, ⟨A, rfl, rfl, _⟩ | ⟨b, pre, rest, c, rfl, _, _, hn, _⟩⟩
  · exact ⟨h1, A, 0, rfl, Nat.le_refl _, fun h => absurd h (by omega)⟩
  · exact ⟨h1, _, c, rfl, hn, fun _ => ⟨_, rfl⟩⟩
theorem Row.cells (A : Option Addr) (n c sz : Nat) (cs : List Value) : Says (Row (.slice A n c) n sz cs) fun w => SrcAt w A cs := by
  rintro w S ⟨h1, ⟨A', he, rfl, _⟩ | ⟨b, pre, rest, c', he, hblk, _, hn, _⟩⟩
  · left; exact List.eq_nil_of_length_eq_zero (by simpa using h1.1.1)
  · right
    injection he with hA _ hc
    refine ⟨_, hA, fun j u hj => ?_⟩
    rw [add_at, hblk.cell]
    have hlt := (List.getElem?_eq_some_iff.1 hj).1
    rw [List.append_assoc, List.getElem?_append_right (by omega), Nat.add_sub_cancel_left, List.getElem?_append_left hlt, hj]
theorem Row.at_ (ad : Addr) (n c sz : Nat) (cs : List Value) : Says (Row (.slice (some ad) n c) n sz cs) fun w => CellsAt w ad cs := fun w S h => by
  rcases Row.cells _ _ _ _ _ w S h with rfl | ⟨ad', he, hc⟩
  · intro j u hj; cases hj
  · cases he; exact hc
theorem Row.empty (A : Option Addr) (sz : Nat) : Ent emp (Row (.slice A 0 0) 0 sz []) := fun w S h => ⟨NoS, ⟨⟨⟨by simp, by simp⟩, AllOne.nil⟩, .inl ⟨A, rfl, rfl, fun _ h => h⟩⟩, fun _ h => h.elim⟩

/-- Two slices over a row: the first cut. -/
theorem Row.take {A : Option Addr} {n c sz : Nat} {cs : List Value} (k : Nat) (hk : k ≤ n) : Ent (Row (.slice A n c) n sz cs) (Row (.slice A k c) k sz (cs.take (k * sz))) := by
  rintro w S ⟨h1, ⟨A', he, rfl, hS⟩ | ⟨b, pre, rest, c', he, hblk, hl, hn, hs⟩⟩
  · injection he with hA hn hc
    subst hc
    obtain rfl : k = 0 := by omega
    exact ⟨S, ⟨⟨⟨by simp, by simp⟩, h1.2.take _⟩, .inl ⟨A, rfl, rfl, hS⟩⟩, fun _ h => h⟩
  · injection he with hA _ hc
    subst hc
    have hle : k * sz ≤ cs.length := by rw [h1.1.1]; exact Nat.mul_le_mul_right _ hk
    refine ⟨S, ⟨⟨⟨by simp [hle], by omega⟩, h1.2.take _⟩, .inr ⟨b, pre, cs.drop (k * sz) ++ rest, c, by rw [hA], ?_, ?_, by omega, hs⟩⟩, fun _ h => h⟩
    · have : pre ++ cs.take (k * sz) ++ (cs.drop (k * sz) ++ rest) = pre ++ cs ++ rest := by
        rw [List.append_assoc, ← List.append_assoc (cs.take _), List.take_append_drop, List.append_assoc]
      rw [this]; exact hblk
    · rw [← List.append_assoc, List.take_append_drop]; exact hl
/-- .. and the last cut. -/
theorem Row.drop {ad : Addr} {n c sz : Nat} {cs : List Value} (k : Nat) (hk : k ≤ n) (hsp : ad.spot = none) : Ent (Row (.slice (some ad) n c) n sz cs) (Row (.slice (cutAddr (some ad) k c sz) (n - k) (c - k)) (n - k) sz (cs.drop (k * sz))) := by
  rintro w S ⟨h1, ⟨A', he, rfl, hS⟩ | ⟨b, pre, rest, c', he, hblk, hl, hn, hs⟩⟩
  · injection he with hA hn hc
    subst hc
    obtain rfl : k = 0 := by omega
    exact ⟨S, ⟨⟨⟨by simpa using h1.1.1, by simp⟩, h1.2.drop _⟩, .inl ⟨_, rfl, rfl, hS⟩⟩, fun _ h => h⟩
  · injection he with hA _ hc
    subst hc
    injection hA with hA
    subst hA
    have hle : k * sz ≤ cs.length := by rw [h1.1.1]; exact Nat.mul_le_mul_right _ hk
    by_cases hck : c = k
    · subst hck
      obtain rfl : n = c := by omega
      refine ⟨NoS, ⟨⟨⟨by simp [h1.1.1], by omega⟩, h1.2.drop _⟩, .inl ⟨some ⟨b, pre.length, none⟩, by simp [cutAddr], by omega, fun _ h => h⟩⟩, fun _ h => h.elim⟩
    · refine ⟨S, ⟨⟨⟨by rw [List.length_drop, h1.1.1, Nat.sub_mul], by omega⟩, h1.2.drop _⟩, .inr ⟨b, pre ++ cs.take (k * sz), rest, c - k, ?_, ?_, ?_, by omega, hs⟩⟩, fun _ h => h⟩
      · simp only [cutAddr, pl, if_neg hck, Option.map_some, add_at, List.length_append, List.length_take, Nat.min_eq_left hle]
      · rw [List.append_assoc pre, List.take_append_drop]; exact hblk
      · rw [List.length_append, List.length_drop, Nat.sub_mul]
        simp only [List.length_append] at hl
        omega

section
variable {P : Program} {N : Nat} {k : List It} {E : Env} {L : List Loc} {H : List Assn} {Q : Post}

theorem H_says {i : Nat} {A : Assn} {φ : World → Prop} (h : H[i]? = some A) (hA : Says A φ) : Says (stA L H) φ := Ent.says ((Ent.right _ _).trans (stars_get H i A h)) hA
theorem Says.and {A : Assn} {φ ψ : World → Prop} (h : Says A φ) (k : Says A ψ) : Says A fun w => φ w ∧ ψ w := fun w S hA => ⟨h w S hA, k w S hA⟩
theorem Says.imp {A : Assn} {φ ψ : World → Prop} (h : Says A φ) (k : ∀ w, φ w → ψ w) : Says A ψ := fun w S hA => k w (h w S hA)
/-- One of H is turned, in its place. -/
theorem stA_set {i : Nat} {A B : Assn} (h : H[i]? = some A) {w w' : World} (hs : Step A B w w') : Step (stA L H) (stA L (H.set i B)) w w' := by
  refine (hs.frame (star (locs L) (stars (H.eraseIdx i)))).ent ?_ ?_
  · refine (Ent.star (Ent.refl _) (stars_pick H i A h)).trans ?_
    exact ((Ent.assoc' _ _ _).trans (Ent.star (Ent.comm _ _) (Ent.refl _))).trans (Ent.assoc _ _ _)
  · refine ((Ent.assoc' _ _ _).trans (Ent.star (Ent.comm _ _) (Ent.refl _))).trans ((Ent.assoc _ _ _).trans ?_)
    exact Ent.star (Ent.refl _) (stars_set H i A B h)
theorem stA_add {B : Assn} {w w' : World} (hs : Step (stA L H) (star B (stA L H)) w w') : Step (stA L H) (stA L (B :: H)) w w' := by
  refine hs.ent (Ent.refl _) ?_
  exact ((Ent.assoc' _ _ _).trans (Ent.star (Ent.comm _ _) (Ent.refl _))).trans (Ent.assoc _ _ _)
/-- An operation that gives a value and steps. -/
theorem SEM.stepV {all l : List Oper} {o : Oper} (hg : o.guard = none) (hd : dstOk N o.dst = true)
    (h : ∀ a w, EOk N E L a → (∃ S, (stA L H).P w S) → ∃ v w' H', (execOp a.eval o).run P w = .ok (.value v) w' ∧ Step (stA L H) (stA L H') w w' ∧ SEM P N (.ops all l :: k) (E.put o.dst (.v v)) L H' Q) :
    SEM P N (.ops all (o :: l) :: k) E L H Q := SEM.op hg fun w0 S0 a w he hi => by
  obtain ⟨S, hS, _⟩ := hi.has
  obtain ⟨v, w', H', hr, hst, hs⟩ := h a w he ⟨S, hS⟩
  simp only [Oper.wp, hr, Oper.upon]
  exact hs w0 S0 _ w' (he.put hd rfl) (hst.inv hi)

theorem run_loadAt {t : TypeId} {w : World} {ad : Addr} {cs : List Value} {v : Value} (hc : CellsAt w ad cs) (h : loadC P t cs 0 = some v) : (Instr.loadAt t (.pointer (some ad))).run P w = .ok v w := by
  unfold loadC at h
  cases hn : tsz P t with
  | none =>
    cases ha : tagg P t with
    | none => simp [hn, ha] at h
    | some g =>
      cases g with
      | true => simp [hn, ha] at h
      | false =>
        simp only [hn, ha] at h
        have := hc 0 v h
        rw [add_zero] at this
        simp [Instr.loadAt, Instr.sureAddr, loadVar, Sem.run_bind, run_agg ha, run_load, this]
  | some n =>
    cases ha : tagg P t with
    | none => simp [hn, ha] at h
    | some g =>
      cases g with
      | true =>
        simp only [hn, ha] at h
        split at h
        · rename_i hle
          cases h
          simp only [Nat.zero_add] at hle
          have := run_loadCells_list (P := P) w ad ((cs.drop 0).take n) (fun j u hj => (hc.take n) j u (by simpa using hj))
          rw [show ((cs.drop 0).take n).length = n by simp; omega] at this
          simp only [Instr.loadAt, Instr.sureAddr, loadVar, Sem.run_bind, Sem.run_pure, Result.andThen_ok, run_agg ha, run_sz hn, this, if_true]
        · cases h
      | false =>
        simp only [hn, ha] at h
        have := hc 0 v h
        rw [add_zero] at this
        simp [Instr.loadAt, Instr.sureAddr, loadVar, Sem.run_bind, run_agg ha, run_load, this]
/-- A load from known cells. -/
theorem SEM.load {all l : List Oper} {o : Oper} {t : TypeId} {x : Operand} {ad : Addr} (cs : List Value) (hs : Says (stA L H) fun w => CellsAt w ad cs) {v : Value} (hv : loadC P t cs 0 = some v)
    (h : SEM P N (.ops all l :: k) (E.put o.dst (.v v)) L H Q) (hg : o.guard = none) (hd : dstOk N o.dst = true) (ho : o.op = .load t x)
    (hx : E.ev x = some (.v (.pointer (some ad)))) : SEM P N (.ops all (o :: l) :: k) E L H Q := by
  refine SEM.quiet' hg hd rfl (fun a w he ⟨S, hS⟩ => ?_) h
  have e1 := he.ev hx
  simp only [AV.to, Option.some.injEq] at e1
  simp [execOp, ho, ← e1, Sem.run_bind, run_loadAt (hs w S hS) hv]

theorem splice_append_left (vs : List Value) : ∀ (pre cs : List Value) (o : Nat), splice (pre ++ cs) (pre.length + o) vs = pre ++ splice cs o vs := by
  induction vs with
  | nil => intro pre cs o; rfl
  | cons v r ih =>
    intro pre cs o
    simp only [splice]
    rw [List.set_append_right _ _ (by omega), Nat.add_sub_cancel_left, Nat.add_assoc, ih]
theorem splice_append_right (vs : List Value) : ∀ (cs rest : List Value) (o : Nat), o + vs.length ≤ cs.length → splice (cs ++ rest) o vs = splice cs o vs ++ rest := by
  induction vs with
  | nil => intro cs rest o _; rfl
  | cons v r ih =>
    intro cs rest o h
    simp only [List.length_cons] at h
    simp only [splice]
    rw [List.set_append_left _ _ (by omega), ih _ _ _ (by simp; omega)]
theorem Row.store {P : Program} {w : World} {S : Nat → Prop} {ad : Addr} {n c sz q : Nat} {cs vs : List Value} (hR : (Row (.slice (some ad) n c) n sz cs).P w S) (hq : q + vs.length ≤ cs.length) (h0 : 0 < vs.length) (h1 : AllOne vs) :
    ∃ w', (Go.storeCells (ad.add q) vs).run P w = .ok () w' ∧ Step (Row (.slice (some ad) n c) n sz cs) (Row (.slice (some ad) n c) n sz (splice cs q vs)) w w' := by
  rcases hR with ⟨g1, ⟨A', he, rfl, hS⟩ | ⟨b, pre, rest, c', he, hblk, hl, hn, hs⟩⟩
  · have := g1.1.1; simp only [Nat.zero_mul] at this; omega
  · injection he with hA _ hc
    subst hc
    injection hA with hA
    subst hA
    rw [add_at]
    have hlen : pre.length + q + 0 + vs.length ≤ (pre ++ cs ++ rest).length := by simp only [List.length_append]; omega
    obtain ⟨w', hr, hb', hk⟩ := run_storeCells (P := P) b (pre.length + q) vs 0 _ w hblk hlen h1
    refine ⟨w', hr, ?_⟩
    have e : splice (pre ++ cs ++ rest) (pre.length + q + 0) vs = pre ++ splice cs q vs ++ rest := by
      rw [Nat.add_zero, List.append_assoc, splice_append_left, splice_append_right _ _ _ _ hq, List.append_assoc]
    rw [e] at hb'
    rintro T ⟨g1', ⟨A', he, rfl, hS⟩ | ⟨b', pre', rest', c', he, hblk', hl', hn', hs'⟩⟩
    · have := g1.1.1; simp only [Nat.zero_mul] at this; omega
    · injection he with hA _ hc
      injection hA with hA
      have hbb : b = b' := congrArg Addr.block hA
      subst hbb
      refine ⟨hk.mono fun i hi => (hs' i).2 hi, T, ⟨⟨⟨by rw [splice_length]; exact g1.1.1, g1.1.2⟩, h1.splice q g1.2⟩, .inr ⟨b, pre, rest, c, rfl, hb', ?_, hn, hs'⟩⟩, fun i hi => .inl hi⟩
      simp only [List.length_append, splice_length] at hl ⊢
      exact hl
/-- A store into a row of one's own. -/
theorem SEM.storeRow {all l : List Oper} {o : Oper} {t : TypeId} {x v : Operand} {ad : Addr} {n c sz : Nat} {cs : List Value} {y : AV} {val : Value} (i q : Nat) (hH : H[i]? = some (Row (.slice (some ad) n c) n sz cs))
    (hok : storeOk P t cs val.cells.toList q = true) (h0 : 0 < val.cells.toList.length)
    (h : SEM P N (.ops all l :: k) E L (H.set i (Row (.slice (some ad) n c) n sz (splice cs q val.cells.toList))) Q)
    (hg : o.guard = none) (hd : o.dst = none) (ho : o.op = .store t x v) (hx : E.ev x = some (.v (.pointer (some (ad.add q))))) (hv : E.ev v = some y) (hy : y.to L = some val) :
    SEM P N (.ops all (o :: l) :: k) E L H Q := SEM.op hg fun w0 S0 a w he hi => by
  have e1 := he.ev hx
  have e2 := he.ev hv
  rw [hy] at e2
  simp only [AV.to, Option.some.injEq] at e1 e2
  simp only [storeOk, Bool.and_eq_true, decide_eq_true_eq, List.all_eq_true] at hok
  obtain ⟨⟨hz, hl⟩, h1⟩ := hok
  have hz' : tsz P t = some val.cells.toList.length := by
    cases hn : tsz P t with
    | none => simp [hn] at hz
    | some n => simp [hn] at hz; simp [hz]
  obtain ⟨S, hS, _⟩ := hi.has
  have hin : Says (stA L H) fun w => ∃ S, (Row (.slice (some ad) n c) n sz cs).P w S := H_says hH fun w S h => ⟨S, h⟩
  obtain ⟨T, hT⟩ := hin w S hS
  obtain ⟨w', hr, hst⟩ := Row.store (P := P) hT hl h0 h1
  have hrun : (execOp a.eval o).run P w = .ok .skip w' := by
    simp only [execOp, ho, ← e1, ← e2, Instr.storeAt, Instr.sureAddr, storeVar, Sem.run_bind, Sem.run_pure, Result.andThen_ok, run_sz hz', Array.length_toList, ne_eq, not_true_eq_false, if_false, hr]
  simp only [Oper.wp, hrun, Oper.upon]
  refine h w0 S0 _ w' ?_ ((stA_set hH hst).inv hi)
  rw [hd]
  exact he.put (dst := none) (x := .v undef) rfl rfl

/-- A new row. -/
theorem Row.new {A : Assn} (w : World) (e : TypeId) (n c sz : Nat) (cs rest : List Value) (h1 : cs.length = n * sz) (h2 : (cs ++ rest).length = c * sz) (h3 : n ≤ c) (h4 : AllOne cs) (h5 : n ≤ 140737488355328) :
    Step A (star (Row (.slice (some ⟨w.heap.size, 0, none⟩) n c) n sz cs) A) w (w.alloc (.cells (cs ++ rest).toArray e)) := by
  refine (Step.alloc w (cs ++ rest) e).ent (Ent.refl _) (Ent.star ?_ (Ent.refl _))
  rintro w' S ⟨hb, hs⟩
  exact ⟨S, ⟨⟨⟨h1, h5⟩, h4⟩, .inr ⟨w.heap.size, [], rest, c, rfl, by simpa using hb, h2, h3, hs⟩⟩, fun _ h => h⟩
/-- A literal []T{..}. -/
theorem SEM.buildSlice {all l : List Oper} {o : Oper} {t e : TypeId} {n sz : Nat} {parts : Array (Nat × Operand)} {z : List Value} {vs : List Value} {cells : Array Value} (hg : o.guard = none) (hd : dstOk N o.dst = true) (ho : o.op = .buildSlice t n parts)
    (ht : tsl P t = some e) (hz : tsz P e = some sz) (hzero : tzero P e = some z) (hsm : n * sz ≤ 16777216) (hsz : 0 < sz) (hv : vals E.ev L (parts.toList.map (·.2)) = some vs)
    (hf : Instr.fill (fun i => some (i * sz, sz)) ((Array.range (n * sz)).map (z.toArray[· % z.toArray.size]!)) ((parts.toList.map (·.1)).zip vs) = some cells) (hl : cells.size = n * sz) (h1 : AllOne cells.toList)
    (h : ∀ b, SEM P N (.ops all l :: k) (E.put o.dst (.v (.slice (some ⟨b, 0, none⟩) n n))) L (Row (.slice (some ⟨b, 0, none⟩) n n) n sz cells.toList :: H) Q) : SEM P N (.ops all (o :: l) :: k) E L H Q := by
  refine SEM.stepV hg hd fun a w he _ => ?_
  have e2 := vals_map (ρ := a.eval) (fun x y hx => he.ev hx) _ _ hv
  unfold tsl at ht
  cases hu : P.underlying t with
  | none => simp [hu] at ht
  | some d =>
    cases d <;> first | (simp [hu] at ht; done) | skip
    simp only [hu, Option.some.injEq] at ht
    subst ht
    rename_i e
    unfold tzero at hzero
    obtain ⟨i, hti, hz0⟩ := Option.bind_eq_some_iff.1 hzero
    obtain ⟨z', hzz, rfl⟩ := Option.map_eq_some_iff.1 hz0
    have hp : (parts.map fun (i, x) => (i, a.eval x)).toList = (parts.toList.map (·.1)).zip vs := by
      rw [← e2, Array.toList_map]
      generalize parts.toList = ps
      clear hv hf e2 ho
      induction ps with
      | nil => rfl
      | cons p ps ih => simp [ih]
    refine ⟨.slice (some ⟨w.heap.size, 0, none⟩) n n, w.alloc (.cells cells e), _, ?_, ?_, h w.heap.size⟩
    · simp only [Array.toArray_toList] at hf
      have hzv : (if n * sz = 0 then (pure #[] : Sem (Array Value)) else do pure (← zeroValue e).cells).run P w = .ok (if n * sz = 0 then #[] else z'.cells) w := by
        split <;> simp [zeroValue, typeInfo, hti, hzz, Sem.run_bind]
      have hr0 : (Array.range (n * sz)).map ((if n * sz = 0 then #[] else z'.cells)[· % (if n * sz = 0 then (#[] : Array Value) else z'.cells).size]!) = (Array.range (n * sz)).map (z'.cells[· % z'.cells.size]!) := by
        by_cases h0 : n * sz = 0
        · simp [h0]
        · simp [h0]
      have hzz' : (zeroValue e).run P w = .ok z' w := by simp [zeroValue, typeInfo, hti, hzz, Sem.run_bind]
      by_cases h0 : n * sz = 0
      · simp only [h0, if_true] at hr0 hf
        simp only [execOp, ho, Instr.buildSlice, Sem.run_bind, run_underlying hu, Result.andThen_ok, run_sz hz, h0, if_neg (show ¬ 0 > 2 ^ 24 by omega), if_true, Sem.run_pure, hp]
        have hz0 : (Array.range 0).map ((#[] : Array Value)[· % (#[] : Array Value).size]!) = (Array.range 0).map (z'.cells[· % z'.cells.size]!) := by simp
        rw [hz0, hf]
        simp only [newRow, Sem.run_bind, run_newObj_alloc, Result.andThen_ok, Sem.run_pure]
      · simp only [execOp, ho, Instr.buildSlice, Sem.run_bind, run_underlying hu, Result.andThen_ok, run_sz hz, if_neg (show ¬ n * sz > 2 ^ 24 by omega), if_neg h0, hzz', Sem.run_pure, hp, hf, newRow, run_newObj_alloc]
    · have := Row.new (A := stA L H) w e n n sz cells.toList [] (by simpa using hl) (by simpa using hl) (Nat.le_refl _) h1 (by
        have : n ≤ n * sz := Nat.le_mul_of_pos_right _ hsz
        omega)
      simp only [List.append_nil, Array.toArray_toList] at this
      exact stA_add this
/-- make([]T, n). -/
theorem SEM.make {all l : List Oper} {o : Oper} {t e : TypeId} {x y : Operand} {n : Int} {sz bytes : Nat} {z : List Value} {k1 k2 : IntKind} (hg : o.guard = none) (hd : dstOk N o.dst = true) (ho : o.op = .makeSlice t x y)
    (hx : E.ev x = some (.v (.int k1 n))) (hy : E.ev y = some (.v (.int k2 n))) (ht : tsl P t = some e) (hz : tsz P e = some sz) (hzl : z.length = sz) (hzero : tzero P e = some z) (hzo : AllOne z) (hb : tbytes P e = some bytes) (hsz : 0 < sz)
    (h0 : 0 ≤ n) (hn : n * bytes ≤ 281474976710656) (hn' : n ≤ 140737488355328)
    (h : ∀ b, SEM P N (.ops all l :: k) (E.put o.dst (.v (.slice (some ⟨b, 0, none⟩) n.toNat n.toNat))) L (Row (.slice (some ⟨b, 0, none⟩) n.toNat n.toNat) n.toNat sz (List.replicate n.toNat z).flatten :: H) Q) : SEM P N (.ops all (o :: l) :: k) E L H Q := by
  refine SEM.stepV hg hd fun a w he _ => ?_
  have e1 := he.ev hx
  have e2 := he.ev hy
  simp only [AV.to, Option.some.injEq] at e1 e2
  unfold tsl at ht
  cases hu : P.underlying t with
  | none => simp [hu] at ht
  | some d =>
    cases d <;> first | (simp [hu] at ht; done) | skip
    simp only [hu, Option.some.injEq] at ht
    subst ht
    rename_i e
    unfold tzero at hzero
    obtain ⟨i, hti, hz0⟩ := Option.bind_eq_some_iff.1 hzero
    obtain ⟨z', hzz, rfl⟩ := Option.map_eq_some_iff.1 hz0
    have hbi : i.bytes = bytes := by unfold tbytes at hb; rw [hti] at hb; simpa using hb
    have hw : IntKind.i64.wrap n = n := IntWalk.i64_in n (by omega)
    have hzv : (if n.toNat * sz = 0 then (pure #[] : Sem (Array Value)) else do pure (← zeroValue e).cells).run P w = .ok (if n.toNat * sz = 0 then #[] else z'.cells) w := by
      split <;> simp [zeroValue, typeInfo, hti, hzz, Sem.run_bind]
    have hcells : ((Array.range (n.toNat * sz)).map ((if n.toNat * sz = 0 then #[] else z'.cells)[· % (if n.toNat * sz = 0 then (#[] : Array Value) else z'.cells).size]!)).toList = (List.replicate n.toNat z'.cells.toList).flatten := by
      by_cases h0 : n.toNat * sz = 0
      · have : n.toNat = 0 := by rcases Nat.mul_eq_zero.1 h0 with h | h <;> omega
        simp [h0, this]
      · rw [if_neg h0]
        have hsz' : z'.cells.size = sz := by simpa using hzl
        rw [hsz']
        clear hzv h h0
        generalize n.toNat = m
        induction m with
        | zero => simp
        | succ m ih =>
          rw [List.replicate_succ', List.flatten_append, ← ih]
          simp only [Array.toList_map, Array.toList_range, List.flatten_cons, List.flatten_nil, List.append_nil]
          rw [show (m + 1) * sz = m * sz + sz by rw [Nat.add_mul, Nat.one_mul], List.range_add, List.map_append]
          congr 1
          apply List.ext_getElem
          · simp [hsz']
          · intro j h1 h2
            simp only [List.length_map, List.length_range] at h1
            simp only [List.getElem_map, List.getElem_range]
            rw [Nat.mul_comm m sz, Nat.mul_add_mod, Nat.mod_eq_of_lt h1]
            simp [getElem!_pos, hsz', h1]
    have hrow := Row.new (A := stA L H) w e n.toNat n.toNat sz (List.replicate n.toNat z'.cells.toList).flatten [] (by simp [hzl]) (by simp [hzl]) (Nat.le_refl _) (fun u hu => by
      obtain ⟨l, hl, hu⟩ := List.mem_flatten.1 hu
      rw [List.eq_of_mem_replicate hl] at hu
      exact hzo u hu) (by omega)
    refine ⟨.slice (some ⟨w.heap.size, 0, none⟩) n.toNat n.toNat, w.alloc (.cells ((List.replicate n.toNat z'.cells.toList).flatten).toArray e), _, ?_, ?_, h w.heap.size⟩
    · have hbig : ¬ ((bytes : Int) * n > 281474976710656) := by rw [Int.mul_comm]; omega
      have hroom : ∀ (m : Nat), (askRoom m).run P w = .ok () w := by
        intro m; unfold askRoom; split <;> rfl
      have hc2 : (Array.range (n.toNat * sz)).map ((if n.toNat * sz = 0 then #[] else z'.cells)[· % (if n.toNat * sz = 0 then (#[] : Array Value) else z'.cells).size]!) = ((List.replicate n.toNat z'.cells.toList).flatten).toArray := Array.ext' (by rw [hcells])
      have hzz' : (zeroValue e).run P w = .ok z' w := by simp [zeroValue, typeInfo, hti, hzz, Sem.run_bind]
      simp only [execOp, ho, ← e1, ← e2, Instr.makeSlice, Sem.run_bind, run_underlying hu, Result.andThen_ok, asInt, asIntOf, Sem.run_pure, typeInfo, run_program, hti, hbi, hw]
      rw [if_neg (by simp [hbig]; omega)]
      simp only [Sem.run_bind, hroom, Result.andThen_ok, run_sz hz]
      by_cases h0 : n.toNat * sz = 0
      · simp only [h0, if_true] at hc2
        simp only [h0, if_true, Sem.run_bind, Sem.run_pure, Result.andThen_ok, hc2, newRow, run_newObj_alloc]
      · simp only [if_neg h0] at hc2
        simp only [if_neg h0, Sem.run_bind, hzz', Sem.run_pure, Result.andThen_ok, hc2, newRow, run_newObj_alloc]
    · rw [List.append_nil] at hrow
      exact stA_add hrow
end

end Go.Sep
