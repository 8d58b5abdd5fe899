/-
  Regions that draw their order, and make or write: a plan of what may run next, and the game over it.
  Plain definitions and theorems; nothing of a program in it.
-/
import Derived.Test.YtfdhfnoljejkkaaSepY
set_option linter.unusedVariables false
set_option linter.unusedSimpArgs false
namespace Go.Sep
open Go Go.RowKit

/-- What may run next, of the operations that make or write: each with the reads that come to be free behind it, the reads that
    may still be unrun, what may run next behind it; and the others. -/
inductive Plan
  | nil
  | kid (c : Nat) (news opens : List Nat) (sub rest : Plan)
def Plan.heads : Plan → List Nat
  | .nil => []
  | .kid c _ _ _ rest => c :: rest.heads

def edgesAt (ops : List Oper) (i : Nat) : List Nat := match ops[i]? with
  | some o => o.after.toList.filterMap fun e => if Region.binds .any e then some e.on else none
  | none => []
/-- All that hangs behind M, by the edges (that lead to smaller numbers alone). -/
def closureOf (ops : List Oper) : Nat → List Nat → List Nat
  | 0, M => M
  | i + 1, M => closureOf ops i (if M.contains i then edgesAt ops i ++ M else M)
def dstAt (ops : List Oper) (i : Nat) : Option Nat := (ops[i]?).bind (·.dst)
/-- What o looks at, written in the region by one of js, waits for that one; so does its guard. -/
def looksOk (ops : List Oper) (i : Nat) (js : List Nat) : Bool := match ops[i]? with
  | none => false
  | some o => js.all fun j => (match dstAt ops j with | none => true | some d => !(visT o).contains d || (edgesAt ops i).contains j) &&
    (match o.guard with | some (g, _) => !(g == j) || (edgesAt ops i).contains j | none => true)
def nodeOk (ops : List Oper) (W X acc news opens : List Nat) (kids : List Nat) : Bool :=
  decide (news.Pairwise (· < ·)) && (news.all fun i => !W.contains i && !acc.contains i && decide (i < ops.length)) &&
  ((List.range ops.length).all fun i => W.contains i || (news ++ acc).contains i || (edgesAt ops i).any fun j => !(news ++ acc).contains j && !X.contains j) &&
  (acc.all fun i => opens.contains i || (closureOf ops ops.length X).contains i) &&
  ((List.range ops.length).all fun i => !W.contains i || X.contains i || kids.contains i || (edgesAt ops i).any fun j => W.contains j && !X.contains j) &&
  ((news ++ opens ++ kids).all fun i => looksOk ops i (news ++ acc ++ X))
def kidsOk (ops : List Oper) (W : List Nat) : Plan → List Nat → List Nat → Bool
  | .nil, _, _ => true
  | .kid c news opens sub rest, X, acc => W.contains c && !X.contains c && nodeOk ops W (c :: X) acc news opens sub.heads && kidsOk ops W sub (c :: X) (news ++ acc) && kidsOk ops W rest X acc
/-- A guard waits for what it asks. -/
def guardOk (ops : List Oper) (i : Nat) : Bool := match ops[i]? with
  | some o => match o.guard with
    | some (g, _) => (edgesAt ops i).contains g
    | none => true
  | none => true
/-- The region's numbers. -/
def planOk (ops : List Oper) (W news : List Nat) (p : Plan) : Bool :=
  ((List.range ops.length).all fun i => guardOk ops i) && decide ((ops.filterMap (·.dst)).Nodup) && ((List.range ops.length).all fun i => (edgesAt ops i).all fun j => decide (j < i)) &&
  (W.all fun i => decide (i < ops.length)) && nodeOk ops W [] [] news [] p.heads && kidsOk ops W p [] news

section
variable (P : Program) (N : Nat) (k : List It) (all : List Oper) (Q : Post)
/-- The read i gives y. -/
def FOk (L : List Loc) (H : List Assn) (E : Env) (i : Nat) (y : AV) : Prop := ∃ o, all[i]? = some o ∧ dstOk N o.dst = true ∧ o.dst.isSome = true ∧
  ((o.guard = none ∧ QStep P N o E L H y) ∨ ∃ j want d, o.guard = some (j, want) ∧ dstAt all j = some d ∧ ((E.get d = some (.v (.bool want)) ∧ QStep P N o E L H y) ∨ (E.get d = some (.v (.bool (!want))) ∧ y = .v undef)))
/-- Reads, one after the other in the text's order, and what is asked behind them. -/
inductive NR (L : List Loc) (H : List Assn) (fin : Env → Prop) : List Nat → Env → Prop
  | nil {E} (h : fin E) : NR L H fin [] E
  | step {i r E y d} (h : FOk P N all L H E i y) (hd : dstAt all i = some d) (n : NR L H fin r ((d, y) :: E)) : NR L H fin (i :: r) E
/-- Reads that may still be unrun hold as they did. -/
def OpenOk (L : List Loc) (H : List Assn) (E : Env) (l : List Nat) : Prop := ∀ i ∈ l, ∃ d y, dstAt all i = some d ∧ E.get d = some y ∧ FOk P N all L H E i y
def Kids : Plan → Env → List Loc → List Assn → Prop
  | .nil, _, _, _ => True
  | .kid c news opens sub rest, E, L, H => (∃ o, all[c]? = some o ∧ o.guard = none ∧ dstOk N o.dst = true ∧ ∀ R : Env, SEM P N [.ops [o] [o], .endl fun E2 L2 H2 => ∃ y, E2 = (cutE (visT o) E ++ R).put o.dst y ∧
      NR P N all L2 H2 (fun E' => OpenOk P N all L2 H2 E' opens ∧ (sub = .nil → SEM P N k E' L2 H2 Q) ∧ Kids sub E' L2 H2) news (E.put o.dst y)] (cutE (visT o) E ++ R) L H (fun _ _ _ _ => False)) ∧ Kids rest E L H
end

theorem EOkV.congr {N : Nat} {T : List Nat} {E E' : Env} {L : List Loc} {a : Act} (h : EOkV N T E L a) (e : ∀ t ∈ T, E'.get t = E.get t) : EOkV N T E' L a :=
  ⟨h.defers, h.size, fun t ht x hx => h.get t ht x (by rw [← e t ht]; exact hx)⟩
theorem QStep.congr {P : Program} {N : Nat} {o : Oper} {E E' : Env} {L : List Loc} {H : List Assn} {y : AV} (h : QStep P N o E L H y) (e : ∀ t ∈ visT o, E'.get t = E.get t) : QStep P N o E' L H y :=
  fun w0 S0 a w he hi => h w0 S0 a w (he.congr fun t ht => (e t ht).symm) hi
theorem dst_uniq {ops : List Oper} (hn : (ops.filterMap (·.dst)).Nodup) : ∀ (i j : Nat) (t : Nat), dstAt ops i = some t → dstAt ops j = some t → i = j := by
  have aux : ∀ (l : List Oper) (i j t : Nat), (l.filterMap (·.dst)).Nodup → (l[i]?).bind (·.dst) = some t → (l[j]?).bind (·.dst) = some t → i < j → False := by
    intro l
    induction l with
    | nil => intro i j t _ h; simp at h
    | cons o l ih =>
      intro i j t hn hi hj hij
      cases j with
      | zero => omega
      | succ j =>
        simp only [List.getElem?_cons_succ] at hj
        cases i with
        | zero =>
          simp only [List.getElem?_cons_zero, Option.bind_some] at hi
          rw [List.filterMap_cons, hi] at hn
          simp only [List.nodup_cons] at hn
          apply hn.1
          obtain ⟨o', ho', hd'⟩ := Option.bind_eq_some_iff.1 hj
          exact List.mem_filterMap.2 ⟨o', List.mem_of_getElem? ho', hd'⟩
        | succ i =>
          simp only [List.getElem?_cons_succ] at hi
          refine ih i j t ?_ hi hj (by omega)
          rw [List.filterMap_cons] at hn
          split at hn
          · exact hn
          · exact (List.nodup_cons.1 hn).2
  intro i j t hi hj
  rcases Nat.lt_trichotomy i j with h' | h' | h'
  · exact (aux _ i j t hn hi hj h').elim
  · exact h'
  · exact (aux _ j i t hn hj hi h').elim
theorem closureOf_sub {ops : List Oper} {D : Nat → Prop} (hD : ∀ i, D i → ∀ j ∈ edgesAt ops i, D j) : ∀ (n : Nat) (M : List Nat), (∀ i ∈ M, D i) → ∀ i ∈ closureOf ops n M, D i := by
  intro n
  induction n with
  | zero => intro M h; exact h
  | succ n ih =>
    intro M h
    simp only [closureOf]
    refine ih _ ?_
    split
    · rename_i hc
      intro i hi
      rcases List.mem_append.1 hi with hi | hi
      · exact hD n (h n (by simpa using hc)) i hi
      · exact h i hi
    · exact h

/-- looksOk, as a statement. -/
def Looks (ops : List Oper) (i : Nat) (js : List Nat) : Prop := ∀ o, ops[i]? = some o → ∀ j ∈ js, ∀ d, dstAt ops j = some d → (d ∈ visT o → j ∈ edgesAt ops i) ∧ (∀ g want, o.guard = some (g, want) → g = j → j ∈ edgesAt ops i)
theorem looks_of {ops : List Oper} {i : Nat} {js : List Nat} (h : looksOk ops i js = true) : Looks ops i js := by
  intro o ho j hj d hd
  unfold looksOk at h
  simp only [ho] at h
  have h1 := List.all_eq_true.1 h j hj
  simp only [hd, Bool.and_eq_true, Bool.or_eq_true, Bool.not_eq_true'] at h1
  refine ⟨fun hv => ?_, fun g want hg e => ?_⟩
  · rcases h1.1 with h2 | h2
    · have : (visT o).contains d = true := by simpa using hv
      rw [this] at h2; cases h2
    · simpa using h2
  · have h2 := h1.2
    simp only [hg, Bool.or_eq_true, Bool.not_eq_true'] at h2
    rcases h2 with h2 | h2
    · rw [e] at h2; simp at h2
    · simpa using h2
theorem FOk.congr {P : Program} {N : Nat} {all : List Oper} {L : List Loc} {H : List Assn} {E E' : Env} {i : Nat} {y : AV} (h : FOk P N all L H E i y)
    (e : ∀ o, all[i]? = some o → ∀ t ∈ visT o, E'.get t = E.get t) (eg : ∀ o, all[i]? = some o → ∀ g want d, o.guard = some (g, want) → dstAt all g = some d → E'.get d = E.get d) : FOk P N all L H E' i y := by
  obtain ⟨o, ho, h1, h2, h3⟩ := h
  refine ⟨o, ho, h1, h2, ?_⟩
  rcases h3 with ⟨hg, hs⟩ | ⟨j, want, d, hg, hd, ⟨hb, hs⟩ | ⟨hb, rfl⟩⟩
  · exact .inl ⟨hg, hs.congr (e o ho)⟩
  · exact .inr ⟨j, want, d, hg, hd, .inl ⟨by rw [eg o ho j want d hg hd]; exact hb, hs.congr (e o ho)⟩⟩
  · exact .inr ⟨j, want, d, hg, hd, .inr ⟨by rw [eg o ho j want d hg hd]; exact hb, rfl⟩⟩
theorem NR.facts {P : Program} {N : Nat} {all : List Oper} {L : List Loc} {H : List Assn} {fin : Env → Prop} (hn : (all.filterMap (·.dst)).Nodup) (hedge : ∀ i j, j ∈ edgesAt all i → j < i) {news : List Nat} {E : Env} (h : NR P N all L H fin news E)
    (hs : news.Pairwise (· < ·)) (hl : ∀ i ∈ news, Looks all i news) : ∃ E', fin E' ∧ (∀ t, (∀ j ∈ news, dstAt all j ≠ some t) → E'.get t = E.get t) ∧ OpenOk P N all L H E' news := by
  induction h with
  | nil h => exact ⟨_, h, fun _ _ => rfl, fun i hi => by cases hi⟩
  | @step i r E y d h hd n ih =>
    have hs' := List.pairwise_cons.1 hs
    obtain ⟨E', hf, h1, h2⟩ := ih hs'.2 fun j hj o ho m hm => hl j (by simp [hj]) o ho m (by simp [hm])
    refine ⟨E', hf, fun t ht => ?_, fun j hj => ?_⟩
    · rw [h1 t fun m hm => ht m (by simp [hm])]
      simp only [Env.get]
      rw [if_neg fun e => ht i (by simp) (by rw [← e]; exact hd)]
    · rcases List.mem_cons.1 hj with rfl | hj
      · have hget : E'.get d = some y := by
          rw [h1 d fun m hm e => by have := dst_uniq hn _ _ _ e hd; have := hs'.1 m hm; omega]
          simp [Env.get]
        refine ⟨d, y, hd, hget, h.congr (fun o ho t ht => ?_) (fun o ho g want d' hg hd' => ?_)⟩
        · rw [h1 t fun m hm e => by
            have := (hl j (by simp) o ho m (by simp [hm]) t e).1 ht
            have := hedge _ _ this
            have := hs'.1 m hm
            omega]
          simp only [Env.get]
          rw [if_neg fun e => by
            subst e
            have := (hl j (by simp) o ho j (by simp) d hd).1 ht
            have := hedge _ _ this
            omega]
        · rw [h1 d' fun m hm e => by
            have e' := dst_uniq hn _ _ _ e hd'
            have := (hl j (by simp) o ho m (by simp [hm]) d' e).2 g want hg e'.symm
            have := hedge _ _ this
            have := hs'.1 m hm
            omega]
          simp only [Env.get]
          rw [if_neg fun e => by
            subst e
            have e' := dst_uniq hn _ _ _ hd hd'
            have := (hl j (by simp) o ho j (by simp) d hd).2 g want hg e'.symm
            have := hedge _ _ this
            omega]
      · exact h2 j hj

theorem Oper.wp_mono2 {P : Program} {o : Oper} {a : Act} {w : World} {K K' : Act → World → Prop} {Q Q' : Exit → Act → World → Prop} (h : ∀ a w, K a w → K' a w) (hq : ∀ e a w, e ≠ .normal → Q e a w → Q' e a w)
    (hh : o.wp P a w K Q) : o.wp P a w K' Q' := by
  unfold Oper.wp at *
  generalize (execOp a.eval o).run P w = r at *
  cases r with
  | ok n w' =>
    cases n <;> simp only [Oper.upon] at hh ⊢ <;>
      first
        | exact h _ _ hh
        | exact Calls.mono hh (fun e w'' he => by
            cases e <;> first | exact h _ _ he | exact hq _ _ _ (by simp) he | (obtain ⟨a, w, hl⟩ := he; exact ⟨a, w, hq _ _ _ (by simp) hl⟩))
        | exact Rows.mono hh (fun _ _ he => h _ _ he)
  | halt x w' => cases x <;> simp only [Oper.upon] at hh ⊢ <;> first | exact hq _ _ _ (by simp) hh | exact hh

/-- What is known of the temporaries when D has run. -/
structure Know (N : Nat) (all : List Oper) (E0 : Env) (D : Nat → Prop) (E : Env) (L : List Loc) (a : Act) : Prop where
  defers : a.defers = []
  size : a.tmps.size = N
  ran : ∀ j d, D j → dstAt all j = some d → ∃ y v, E.get d = some y ∧ y.to L = some v ∧ a.tmps[d]? = some v
  old : ∀ t x, (∀ j, D j → dstAt all j ≠ some t) → E0.get t = some x → ∃ v, x.to L = some v ∧ a.tmps[t]? = some v
theorem kid_get {P : Program} {N : Nat} {k : List It} {all : List Oper} {Q : Post} {W X acc : List Nat} {E : Env} {L : List Loc} {H : List Assn} {c : Nat} : ∀ {p : Plan}, c ∈ p.heads → kidsOk all W p X acc = true → Kids P N k all Q p E L H →
    c ∈ W ∧ c ∉ X ∧ ∃ news opens sub, nodeOk all W (c :: X) acc news opens sub.heads = true ∧ kidsOk all W sub (c :: X) (news ++ acc) = true ∧ ∃ o, all[c]? = some o ∧ o.guard = none ∧ dstOk N o.dst = true ∧ ∀ R : Env, SEM P N [.ops [o] [o], .endl fun E2 L2 H2 => ∃ y, E2 = (cutE (visT o) E ++ R).put o.dst y ∧
      NR P N all L2 H2 (fun E' => OpenOk P N all L2 H2 E' opens ∧ (sub = .nil → SEM P N k E' L2 H2 Q) ∧ Kids P N k all Q sub E' L2 H2) news (E.put o.dst y)] (cutE (visT o) E ++ R) L H (fun _ _ _ _ => False) := by
  intro p
  induction p with
  | nil => intro h; cases h
  | kid c' news opens sub rest _ ih =>
    intro h hk hK
    simp only [kidsOk, Bool.and_eq_true] at hk
    simp only [Kids] at hK
    by_cases e : c = c'
    · subst e
      exact ⟨by simpa using hk.1.1.1.1, by simpa using hk.1.1.1.2, news, opens, sub, hk.1.1.2, hk.1.2, hK.1⟩
    · refine ih ?_ hk.2 hK.2
      simp only [Plan.heads, List.mem_cons] at h
      exact h.resolve_left e
/-- nodeOk, as statements. -/
structure NodeP (ops : List Oper) (W X acc news opens kids : List Nat) : Prop where
  sorted : news.Pairwise (· < ·)
  fresh : ∀ i ∈ news, i ∉ W ∧ i ∉ acc ∧ i < ops.length
  bound : ∀ i, i < ops.length → i ∉ W → i ∉ news ++ acc → ∃ j ∈ edgesAt ops i, j ∉ news ++ acc ∧ j ∉ X
  shut : ∀ i ∈ acc, i ∈ opens ∨ i ∈ closureOf ops ops.length X
  next : ∀ i, i < ops.length → i ∈ W → i ∉ X → i ∉ kids → ∃ j ∈ edgesAt ops i, j ∈ W ∧ j ∉ X
  looks : ∀ i ∈ news ++ opens ++ kids, Looks ops i (news ++ acc ++ X)
theorem nodeP_of {ops : List Oper} {W X acc news opens kids : List Nat} (h : nodeOk ops W X acc news opens kids = true) : NodeP ops W X acc news opens kids := by
  simp only [nodeOk, Bool.and_eq_true, List.all_eq_true] at h
  obtain ⟨⟨⟨⟨⟨h0, h1⟩, h2⟩, h3⟩, h4⟩, h5⟩ := h
  refine ⟨of_decide_eq_true h0, fun i hi => ?_, fun i hi hw ha => ?_, fun i hi => ?_, fun i hi hw hx hk => ?_, fun i hi => looks_of (h5 i hi)⟩
  · have := h1 i hi
    simp only [Bool.not_eq_true', List.contains_eq_mem, decide_eq_false_iff_not, decide_eq_true_eq] at this
    exact ⟨this.1.1, this.1.2, this.2⟩
  · have := h2 i (List.mem_range.2 hi)
    simp only [Bool.or_eq_true, List.contains_eq_mem, decide_eq_true_eq, List.any_eq_true, Bool.and_eq_true, Bool.not_eq_true', decide_eq_false_iff_not] at this
    rcases this with (h | h) | ⟨j, h⟩
    · exact absurd h hw
    · exact absurd h ha
    · exact ⟨j, h.1, h.2⟩
  · have := h3 i hi
    simpa using this
  · have := h4 i (List.mem_range.2 hi)
    simp only [Bool.or_eq_true, List.contains_eq_mem, decide_eq_true_eq, List.any_eq_true, Bool.and_eq_true, Bool.not_eq_true', decide_eq_false_iff_not] at this
    rcases this with ((h | h) | h) | ⟨j, h⟩
    · exact absurd hw h
    · exact absurd h hx
    · exact absurd h hk
    · exact ⟨j, h.1, h.2⟩
/-- Where the game stands. -/
structure Stand (P : Program) (N : Nat) (k : List It) (all : List Oper) (Q : Post) (W : List Nat) (E0 : Env) (D : Nat → Prop) (a : Act) (X acc opens : List Nat) (p : Plan) (E : Env) (L : List Loc) (H : List Assn) : Prop where
  bound : ∀ i, i < all.length → i ∉ W → i ∉ acc → ∃ j ∈ edgesAt all i, j ∉ acc ∧ j ∉ X
  shut : ∀ i ∈ acc, i ∈ opens ∨ i ∈ closureOf all all.length X
  next : ∀ i, i < all.length → i ∈ W → i ∉ X → i ∉ p.heads → ∃ j ∈ edgesAt all i, j ∈ W ∧ j ∉ X
  looks : ∀ i ∈ opens ++ p.heads, Looks all i (acc ++ X)
  kidsok : kidsOk all W p X acc = true
  inAX : ∀ i, D i → i ∈ acc ∨ i ∈ X
  ofX : ∀ i ∈ X, D i
  ofW : ∀ i ∈ W, D i → i ∈ X
  closed : ∀ i, D i → ∀ j ∈ edgesAt all i, D j
  xw : ∀ i ∈ X, i ∈ W
  aw : ∀ i ∈ acc, i ∉ W
  same : ∀ t, (∀ j ∈ acc ++ X, dstAt all j ≠ some t) → E.get t = E0.get t
  opn : OpenOk P N all L H E opens
  know : Know N all E0 D E L a
  kids : Kids P N k all Q p E L H
  leaf : p = .nil → SEM P N k E L H Q

theorem get_append (A B : Env) (t : Nat) : Env.get (A ++ B) t = match A.get t with | some x => some x | none => B.get t := by
  induction A with
  | nil => rfl
  | cons p r ih =>
    obtain ⟨u, x⟩ := p
    simp only [List.cons_append, Env.get]
    by_cases e : u = t
    · simp [e]
    · simp only [if_neg e]; exact ih
theorem get_put (E : Env) (d : Option Nat) (y : AV) (t : Nat) : (E.put d y).get t = if d = some t then some y else E.get t := by
  cases d with
  | none => simp [Env.put]
  | some d => simp only [Env.put, Env.get, Option.some.injEq]
section
variable {P : Program} {N : Nat} {k : List It} {all : List Oper} {Q : Post} {W : List Nat} {E0 : Env} {D : Nat → Prop} {a : Act} {X acc opens : List Nat} {p : Plan} {E : Env} {L : List Loc} {H : List Assn}
theorem Stand.vis (st : Stand P N k all Q W E0 D a X acc opens p E L H) {i : Nat} {o : Oper} (hi : i ∈ opens ++ p.heads) (ho : all[i]? = some o) (he : ∀ j ∈ edgesAt all i, D j) : EOkV N (visT o) E L a := by
  refine ⟨st.know.defers, st.know.size, fun t ht x hx => ?_⟩
  by_cases h : ∃ j ∈ acc ++ X, dstAt all j = some t
  · obtain ⟨j, hj, hd⟩ := h
    obtain ⟨y, v, h1, h2, h3⟩ := st.know.ran j t (he j ((st.looks i hi o ho j hj t hd).1 ht)) hd
    rw [hx] at h1
    cases h1
    exact ⟨v, h2, h3⟩
  · have h' : ∀ j ∈ acc ++ X, dstAt all j ≠ some t := fun j hj e => h ⟨j, hj, e⟩
    rw [st.same t h'] at hx
    exact st.know.old t x (fun j hj e => h' j (List.mem_append.2 (st.inAX j hj)) e) hx
theorem Stand.done (st : Stand P N k all Q W E0 D a X acc opens p E L H) (hW : ∀ i ∈ W, i < all.length) (h : ∀ i, i < all.length → D i) : p = .nil ∧ EOk N E L a := by
  refine ⟨?_, st.know.defers, st.know.size, fun t x hx => ?_⟩
  · cases p with
    | nil => rfl
    | kid c news opens sub rest =>
      have hk := st.kidsok
      simp only [kidsOk, Bool.and_eq_true] at hk
      have h1 : c ∈ W := by simpa using hk.1.1.1.1
      have h2 : c ∉ X := by simpa using hk.1.1.1.2
      exact absurd (st.ofW c h1 (h c (hW c h1))) h2
  · by_cases hj : ∃ j, dstAt all j = some t
    · obtain ⟨j, hd⟩ := hj
      have hlt : j < all.length := by
        obtain ⟨o, ho, _⟩ := Option.bind_eq_some_iff.1 hd
        exact (List.getElem?_eq_some_iff.1 ho).1
      obtain ⟨y, v, h1, h2, h3⟩ := st.know.ran j t (h j hlt) hd
      rw [hx] at h1
      cases h1
      exact ⟨v, h2, h3⟩
    · have h' : ∀ j, dstAt all j ≠ some t := fun j e => hj ⟨j, e⟩
      rw [st.same t fun j _ => h' j] at hx
      exact st.know.old t x (fun j _ => h' j) hx
/-- A read has run. -/
theorem Stand.read (st : Stand P N k all Q W E0 D a X acc opens p E L H) (hn : (all.filterMap (·.dst)).Nodup) {i d : Nat} {y : AV} {v : Value} (hi : i ∈ acc) (hD : ¬ D i) (he : ∀ j ∈ edgesAt all i, D j) (hd : dstAt all i = some d) (hdN : d < N)
    (hg : E.get d = some y) (hv : y.to L = some v) : Stand P N k all Q W E0 (fun j => D j ∨ j = i) (a.put (some d) v) X acc opens p E L H where
  bound := st.bound
  shut := st.shut
  next := st.next
  looks := st.looks
  kidsok := st.kidsok
  inAX j h := by
    rcases h with h | rfl
    · exact st.inAX j h
    · exact .inl hi
  ofX j h := .inl (st.ofX j h)
  ofW j hj h := by
    rcases h with h | rfl
    · exact st.ofW j hj h
    · exact absurd hj (st.aw j hi)
  closed j h m hm := by
    rcases h with h | rfl
    · exact .inl (st.closed j h m hm)
    · exact .inl (he m hm)
  xw := st.xw
  aw := st.aw
  same := st.same
  opn := st.opn
  know := by
    refine ⟨st.know.defers, by simp [Act.put, st.know.size], fun j d' hj hd' => ?_, fun t x ht hx => ?_⟩
    · rcases hj with hj | rfl
      · obtain ⟨y', v', h1, h2, h3⟩ := st.know.ran j d' hj hd'
        have hne : d ≠ d' := fun e => by
          subst e
          have := dst_uniq hn _ _ _ hd hd'
          subst this
          exact hD hj
        exact ⟨y', v', h1, h2, by simp [Act.put, Array.getElem?_setIfInBounds, hne, h3]⟩
      · rw [hd] at hd'
        cases hd'
        exact ⟨y, v, hg, hv, by simp [Act.put, st.know.size, hdN]⟩
    · obtain ⟨v', h1, h2⟩ := st.know.old t x (fun j hj => ht j (.inl hj)) hx
      have hne : d ≠ t := fun e => ht i (.inr rfl) (by rw [hd, e])
      exact ⟨v', h1, by simp [Act.put, Array.getElem?_setIfInBounds, hne, h2]⟩
  kids := st.kids
  leaf := st.leaf
open Classical in
/-- What is known, as one environment. -/
theorem Know.env (h : Know N all E0 D E L a) : ∃ R : Env, EOk N R L a ∧ (∀ j d, D j → dstAt all j = some d → R.get d = E.get d) ∧ (∀ t, (∀ j, D j → dstAt all j ≠ some t) → R.get t = E0.get t) := by
  let K := (List.range all.length).filterMap fun j => if D j then dstAt all j else none
  have hK : ∀ t, t ∈ K ↔ ∃ j, D j ∧ dstAt all j = some t := by
    intro t
    simp only [K, List.mem_filterMap, List.mem_range]
    constructor
    · rintro ⟨j, _, h⟩
      split at h
      · exact ⟨j, ‹_›, h⟩
      · cases h
    · rintro ⟨j, hj, hd⟩
      refine ⟨j, ?_, by rw [if_pos hj]; exact hd⟩
      obtain ⟨o, ho, _⟩ := Option.bind_eq_some_iff.1 hd
      exact (List.getElem?_eq_some_iff.1 ho).1
  have hin : ∀ j d, D j → dstAt all j = some d → (cutE K E ++ E0).get d = E.get d := by
    intro j d hj hd
    obtain ⟨y, v, h1, _⟩ := h.ran j d hj hd
    rw [get_append, cutE_get, if_pos ((hK d).2 ⟨j, hj, hd⟩), h1]
  have hout : ∀ t, (∀ j, D j → dstAt all j ≠ some t) → (cutE K E ++ E0).get t = E0.get t := by
    intro t ht
    rw [get_append, cutE_get, if_neg fun e => by obtain ⟨j, hj, hd⟩ := (hK t).1 e; exact ht j hj hd]
  refine ⟨cutE K E ++ E0, ⟨h.defers, h.size, fun t x hx => ?_⟩, hin, hout⟩
  by_cases hj : ∃ j, D j ∧ dstAt all j = some t
  · obtain ⟨j, hj, hd⟩ := hj
    rw [hin j t hj hd] at hx
    obtain ⟨y, v, h1, h2, h3⟩ := h.ran j t hj hd
    rw [hx] at h1
    cases h1
    exact ⟨v, h2, h3⟩
  · have h' : ∀ j, D j → dstAt all j ≠ some t := fun j hD e => hj ⟨j, hD, e⟩
    rw [hout t h'] at hx
    exact h.old t x h' hx
/-- An operation that makes or writes has run. -/
theorem Stand.made (st : Stand P N k all Q W E0 D a X acc opens p E L H) (hn : (all.filterMap (·.dst)).Nodup) (hedge : ∀ i j, j ∈ edgesAt all i → j < i) {c : Nat} {o : Oper} {y : AV} {R E' : Env} {L2 : List Loc} {H2 : List Assn} {a' : Act} {news opens' : List Nat} {sub : Plan}
    (ho : all[c]? = some o) (hc : c ∈ p.heads) (hcW : c ∈ W) (hcX : c ∉ X) (hcD : ¬ D c) (he : ∀ j ∈ edgesAt all c, D j) (np : NodeP all W (c :: X) acc news opens' sub.heads) (hk : kidsOk all W sub (c :: X) (news ++ acc) = true)
    (hR1 : ∀ j d, D j → dstAt all j = some d → R.get d = E.get d) (hR2 : ∀ t, (∀ j, D j → dstAt all j ≠ some t) → R.get t = E0.get t)
    (hE2 : EOk N ((cutE (visT o) E ++ R).put o.dst y) L2 a')
    (hE' : ∀ t, (∀ j ∈ news, dstAt all j ≠ some t) → E'.get t = (E.put o.dst y).get t) (hnews : OpenOk P N all L2 H2 E' news) (hopen : OpenOk P N all L2 H2 E' opens') (hleaf : sub = .nil → SEM P N k E' L2 H2 Q) (hkids : Kids P N k all Q sub E' L2 H2) :
    Stand P N k all Q W E0 (fun j => D j ∨ j = c) a' (c :: X) (news ++ acc) (opens' ++ news) sub E' L2 H2 := by
  have hdc : dstAt all c = o.dst := by simp [dstAt, ho]
  -- what had run is not overwritten
  have hkeep : ∀ j d, D j → dstAt all j = some d → E'.get d = E.get d := by
    intro j d hj hd
    rw [hE' d fun m hm e => by
      have := dst_uniq hn _ _ _ e hd
      subst this
      have hf := np.fresh m hm
      rcases st.inAX m hj with h | h
      · exact hf.2.1 h
      · exact hf.1 (st.xw m h), get_put, if_neg fun e => by
      have := dst_uniq hn _ _ _ (hdc.trans e) hd
      subst this
      exact hcD hj]
  have hcnews : ∀ m ∈ news, m ≠ c := fun m hm e => (np.fresh m hm).1 (e ▸ hcW)
  refine ⟨np.bound, fun i hi => ?_, np.next, fun i hi => ?_, hk, ?_, ?_, ?_, ?_, ?_, ?_, ?_, ?_, ?_, hkids, hleaf⟩
  · rcases List.mem_append.1 hi with h | h
    · exact .inl (List.mem_append.2 (.inr h))
    · exact (np.shut i h).imp (fun h => List.mem_append.2 (.inl h)) id
  · refine np.looks i ?_
    simp only [List.mem_append] at hi ⊢
    rcases hi with (h | h) | h
    · exact .inl (.inr h)
    · exact .inl (.inl h)
    · exact .inr h
  · rintro j (h | rfl)
    · rcases st.inAX j h with h | h
      · exact .inl (List.mem_append.2 (.inr h))
      · exact .inr (List.mem_cons_of_mem _ h)
    · exact .inr (List.mem_cons_self ..)
  · intro j hj
    rcases List.mem_cons.1 hj with rfl | h
    · exact .inr rfl
    · exact .inl (st.ofX j h)
  · rintro j hj (h | rfl)
    · exact List.mem_cons_of_mem _ (st.ofW j hj h)
    · exact List.mem_cons_self ..
  · rintro j (h | rfl) m hm
    · exact .inl (st.closed j h m hm)
    · exact .inl (he m hm)
  · intro j hj
    rcases List.mem_cons.1 hj with rfl | h
    · exact hcW
    · exact st.xw j h
  · intro j hj
    rcases List.mem_append.1 hj with h | h
    · exact (np.fresh j h).1
    · exact st.aw j h
  · intro t ht
    rw [hE' t fun m hm e => ht m (by simp [hm]) e, get_put, if_neg fun e => ht c (by simp) (hdc.trans e)]
    exact st.same t fun j hj e => ht j (by
      simp only [List.mem_append, List.mem_cons] at hj ⊢
      rcases hj with h | h
      · exact .inl (.inr h)
      · exact .inr (.inr h)) e
  · intro i hi
    rcases List.mem_append.1 hi with h | h
    · exact hopen i h
    · exact hnews i h
  · refine ⟨hE2.defers, hE2.size, fun j d hj hd => ?_, fun t x ht hx => ?_⟩
    · rcases hj with hj | rfl
      · obtain ⟨y0, v0, h1, h2, h3⟩ := st.know.ran j d hj hd
        have hg : ((cutE (visT o) E ++ R).put o.dst y).get d = some y0 := by
          rw [get_put, if_neg fun e => by
            have := dst_uniq hn _ _ _ (hdc.trans e) hd
            subst this
            exact hcD hj, get_append, cutE_get]
          split
          · rename_i x hx
            split at hx
            · rw [h1] at hx; cases hx; rfl
            · cases hx
          · rw [hR1 j d hj hd, h1]
        obtain ⟨v, hv, ht⟩ := hE2.get d y0 hg
        exact ⟨y0, v, by rw [hkeep j d hj hd, h1], hv, ht⟩
      · have hdo : o.dst = some d := by rw [← hdc]; exact hd
        obtain ⟨v, hv, ht⟩ := hE2.get d y (by rw [get_put, if_pos hdo])
        refine ⟨y, v, ?_, hv, ht⟩
        rw [hE' d fun m hm e => hcnews m hm (dst_uniq hn _ _ _ e hd), get_put, if_pos hdo]
    · have hg : ((cutE (visT o) E ++ R).put o.dst y).get t = some x := by
        rw [get_put, if_neg fun e => ht c (.inr rfl) (hdc.trans e), get_append, cutE_get]
        have hR := hR2 t fun j hj => ht j (.inl hj)
        split
        · rename_i x' hx'
          split at hx'
          · rename_i htv
            have hsame := st.same t fun j hj e => ht j (.inl (he j ((st.looks c (by simp [hc]) o ho j hj t e).1 htv))) e
            rw [hsame, hx] at hx'
            exact hx'.symm
          · cases hx'
        · rw [hR, hx]
      exact hE2.get t x hg
end

section
variable {P : Program} {N : Nat} {k : List It} {E : Env} {L : List Loc} {H : List Assn} {Q : Post}
/-- A region that draws its order, by a plan. -/
theorem SEM.drawG {id : Nat} {ops : Array Oper} (W news : List Nat) (p : Plan) (hm : P.follows .mixedOrders = true) (hok : planOk ops.toList W news p = true)
    (h : NR P N ops.toList L H (fun E' => (p = .nil → SEM P N k E' L H Q) ∧ Kids P N k ops.toList Q p E' L H) news E) : SEM P N (.code (.region id ops true) :: k) E L H Q := fun w0 S0 a0 w1 he0 hi0 => by
  simp only [planOk, Bool.and_eq_true, List.all_eq_true] at hok
  obtain ⟨⟨⟨⟨⟨hgu, hnd⟩, hed⟩, hWb⟩, hnode⟩, hkids⟩ := hok
  have hnd' : (ops.toList.filterMap (·.dst)).Nodup := of_decide_eq_true hnd
  have hedge : ∀ i j, j ∈ edgesAt ops.toList i → j < i := by
    intro i j hj
    have hi : i < ops.toList.length := by
      unfold edgesAt at hj
      split at hj
      · rename_i o ho; exact (List.getElem?_eq_some_iff.1 ho).1
      · cases hj
    simpa using hed i (List.mem_range.2 hi) j hj
  have hW : ∀ i ∈ W, i < ops.toList.length := fun i hi => by simpa using hWb i hi
  let n := ops.size
  have hlen : ops.toList.length = n := by simp [n]
  let J : Array Bool → Act → World → Prop := fun l a w => l.size = n ∧ ∃ X acc opens p E' L' H', Stand P N k ops.toList Q W E (fun j => l.getD j false = true) a X acc opens p E' L' H' ∧ Inv w0 S0 (stA L' H') w
  have hed' : ∀ (i : Nat) (o : Oper), ops[i]? = some o → ∀ j, j ∈ edgesAt ops.toList i ↔ ∃ e ∈ o.after.toList, Region.binds .any e = true ∧ e.on = j := by
    intro i o ho j
    have hoL : ops.toList[i]? = some o := by rw [Array.getElem?_toList]; exact ho
    simp only [edgesAt, hoL, List.mem_filterMap]
    constructor
    · rintro ⟨e, he, h⟩
      split at h
      · exact ⟨e, he, ‹_›, by simpa using h⟩
      · cases h
    · rintro ⟨e, he, hb, h⟩
      exact ⟨e, he, by rw [if_pos hb, h]⟩
  have hready : ∀ (l : Array Bool) (i : Nat), i ∈ Region.ready .any ops l ↔ i < n ∧ l.getD i true = false ∧ ∃ o, ops[i]? = some o ∧ ∀ e ∈ o.after.toList, Region.binds .any e = true → l.getD e.on false = true := by
    intro l i
    simp only [Region.ready, List.mem_filter, List.mem_range, Bool.and_eq_true, Bool.not_eq_true']
    constructor
    · rintro ⟨h1, h2, h3⟩
      cases ho : ops[i]? with
      | none => simp [ho] at h3
      | some o =>
        refine ⟨h1, h2, o, rfl, fun e he hb => ?_⟩
        simp only [ho, Option.map_some, Option.getD_some] at h3
        have := Array.all_eq_true'.1 h3 e (by simpa using he)
        simpa [hb] using this
    · rintro ⟨h1, h2, o, ho, h3⟩
      refine ⟨h1, h2, ?_⟩
      simp only [ho, Option.map_some, Option.getD_some]
      refine Array.all_eq_true'.2 fun e he => ?_
      cases hb : Region.binds .any e with
      | false => simp
      | true => simpa using h3 e (by simpa using he) hb
  have hflip : ∀ (l : Array Bool) (i : Nat), l.size = n → i < n → (l.getD i true = false ↔ l.getD i false = false) := by
    intro l i hl hi
    simp only [Array.getD_eq_getD_getElem?]
    rw [Array.getElem?_eq_getElem (by omega)]
    simp
  have hall : ∀ (l : Array Bool), l.size = n → Region.ready .any ops l = [] → ∀ j, j < n → l.getD j false = true := by
    intro l hl hr j hj
    induction j using Nat.strongRecOn with
    | _ j ih =>
      cases hlj : l.getD j false with
      | true => rfl
      | false =>
        exfalso
        have ho : ops[j]? = some ops[j] := by simp [n] at hj; simp [hj]
        have : j ∈ Region.ready .any ops l := (hready l j).2 ⟨hj, (hflip l j hl hj).2 hlj, ops[j], ho, fun e he hb => by
          have hlt := hedge j e.on ((hed' j _ ho e.on).2 ⟨e, he, hb, rfl⟩)
          exact ih e.on hlt (by omega)⟩
        rw [hr] at this
        cases this
  have hend : ∀ (l : Array Bool) a w, J l a w → Region.ready .any ops l = [] → Kk P w0 S0 N Q k .normal a w := by
    rintro l a w ⟨hl, X, acc, opens, p', E', L', H', st, hi⟩ hr
    obtain ⟨hp, he⟩ := st.done hW fun i hlt => hall l hl hr i (by omega)
    exact st.leaf hp w0 S0 a w he hi
  have main : ∀ (fuel : Nat) (l : Array Bool) a w, J l a w → ((List.range n).filter fun i => !l.getD i false).length ≤ fuel → wpAny P .any ops (Kk P w0 S0 N Q k) fuel l a w := by
    intro fuel
    induction fuel with
    | zero =>
      intro l a w hJ hc
      have hr : Region.ready .any ops l = [] := by
        apply List.eq_nil_iff_forall_not_mem.2
        intro i hi
        obtain ⟨h1, h2, _⟩ := (hready l i).1 hi
        have : i ∈ (List.range n).filter fun i => !l.getD i false := by
          refine List.mem_filter.2 ⟨List.mem_range.2 h1, ?_⟩
          simp [(hflip l i hJ.1 h1).1 h2]
        have hlen := List.length_pos_of_mem this
        omega
      exact ⟨hr, hend l a w hJ hr⟩
    | succ fuel ih =>
      intro l a w hJ hc
      refine ⟨fun hr => hend l a w hJ hr, fun i hi => ?_⟩
      obtain ⟨hin, hli, o, ho, hwait⟩ := (hready l i).1 hi
      obtain ⟨hl, X, acc, opens, p', E', L', H', st, hinv⟩ := hJ
      have hoL : ops.toList[i]? = some o := by rw [Array.getElem?_toList]; exact ho
      have hli' := (hflip l i hl hin).1 hli
      have hnD : ¬ (l.getD i false = true) := by rw [hli']; simp
      have hes : ∀ j ∈ edgesAt ops.toList i, l.getD j false = true := by
        intro j hj
        obtain ⟨e, he, hb, rfl⟩ := (hed' i o ho j).1 hj
        exact hwait e he hb
      have hD' : (fun j => (l.setIfInBounds i true).getD j false = true) = fun j => l.getD j false = true ∨ j = i := by
        funext j
        rw [getD_set _ _ _ (by omega)]
        by_cases e : i = j
        · simp [e]
        · rw [if_neg e]
          exact propext ⟨.inl, fun h => h.resolve_right fun h => e h.symm⟩
      have hcnt : ((List.range n).filter fun j => !(l.setIfInBounds i true).getD j false).length ≤ fuel := by
        have hcount : ∀ (L : List Nat), L.Nodup → i ∈ L → (L.filter fun j => !(l.setIfInBounds i true).getD j false).length + 1 ≤ (L.filter fun j => !l.getD j false).length := by
          intro L
          induction L with
          | nil => intro _ h; cases h
          | cons j L ihL =>
            intro hn hm
            have hnL := (List.nodup_cons.1 hn)
            simp only [List.filter_cons]
            by_cases e : i = j
            · subst e
              rw [getD_set _ _ _ (by omega), if_pos rfl, hli']
              have : (L.filter fun j => !(l.setIfInBounds i true).getD j false) = L.filter fun j => !l.getD j false := by
                refine List.filter_congr fun j hj => ?_
                have hne : ¬ i = j := fun e => by rw [e] at hnL; exact hnL.1 hj
                rw [getD_set _ _ _ (by omega), if_neg hne]
              rw [this]
              exact Nat.le_refl _
            · have hm' : i ∈ L := (List.mem_cons.1 hm).resolve_left e
              have := ihL hnL.2 hm'
              rw [getD_set _ _ _ (by omega), if_neg e]
              split
              · simp only [List.length_cons]; omega
              · exact this
        have := hcount (List.range n) List.nodup_range (List.mem_range.2 hin)
        omega
      by_cases hiW : i ∈ W
      · -- it makes or writes
        have hiX : i ∉ X := fun h => hnD (st.ofX i h)
        have hhead : i ∈ p'.heads := by
          apply Classical.byContradiction
          intro hno
          obtain ⟨j, hj, h1, h2⟩ := st.next i (by omega) hiW hiX hno
          exact h2 (st.ofW j h1 (hes j hj))
        obtain ⟨_, _, news', opens', sub, hnode', hkids', o', ho', hg, hdo, hsem⟩ := kid_get hhead st.kidsok st.kids
        rw [hoL] at ho'
        cases ho'
        obtain ⟨R, hR, hR1, hR2⟩ := st.know.env
        have hvis := st.vis (i := i) (o := o) (by simp [hhead]) hoL hes
        have hstart : EOk N (cutE (visT o) E' ++ R) L' a := by
          refine ⟨hR.defers, hR.size, fun t x hx => ?_⟩
          rw [get_append, cutE_get] at hx
          split at hx
          · rename_i x' hx'
            cases hx
            split at hx'
            · exact hvis.get t ‹_› x hx'
            · cases hx'
          · exact hR.get t x hx
        have hrun := hsem R w0 S0 a w hstart hinv
        simp only [Kk, wpList] at hrun
        rw [if_pos (by simp [Region.wanted, hg])] at hrun
        simp only [wpOp, ho]
        rw [if_pos (by simp [Region.wanted, hg])]
        left
        rcases hrun with hrun | ⟨_, a2, w2, hl2⟩
        · refine Oper.wp_mono2 (fun a' w' q => ?_) (fun e a' w' hne q => ?_) hrun
          · obtain ⟨E2, L2, H2, ⟨y, rfl, hnr⟩, hE2, hi2⟩ := q
            have np := nodeP_of hnode'
            obtain ⟨E'', ⟨hopen, hleaf, hkids2⟩, hsame, hnews⟩ := hnr.facts hnd' hedge np.sorted fun j hj o ho m hm => np.looks j (by simp [hj]) o ho m (by simp [hm])
            refine ih _ _ _ ⟨by simp [hl], i :: X, news' ++ acc, opens' ++ news', sub, E'', L2, H2, ?_, hi2⟩ hcnt
            rw [hD']
            exact st.made hnd' hedge hoL hhead hiW hiX hnD hes np hkids' hR1 hR2 hE2 hsame hnews hopen hleaf hkids2
          · cases e <;> first | exact absurd rfl hne | (obtain ⟨_, _, _, hf, _⟩ := q; exact hf.elim)
        · obtain ⟨_, _, _, hf, _⟩ := hl2
          exact hf.elim
      · -- it reads
        have hacc : i ∈ acc := by
          apply Classical.byContradiction
          intro hno
          obtain ⟨j, hj, h1, h2⟩ := st.bound i (by omega) hiW hno
          exact (st.inAX j (hes j hj)).elim h1 h2
        have hop : i ∈ opens := by
          rcases st.shut i hacc with h | h
          · exact h
          · exact absurd (closureOf_sub (D := fun j => l.getD j false = true) st.closed _ _ st.ofX i h) hnD
        obtain ⟨d, y, hd, hget, o', ho', hdo, hds, hf⟩ := st.opn i hop
        rw [hoL] at ho'
        cases ho'
        have hod : o.dst = some d := by simpa [dstAt, hoL] using hd
        have hdN : d < N := by rw [hod] at hdo; simpa [dstOk] using hdo
        have hvis := st.vis (i := i) (o := o) (by simp [hop]) hoL hes
        have go : ∀ (v : Value) (w' : World), y.to L' = some v → Inv w0 S0 (stA L' H') w' → wpAny P .any ops (Kk P w0 S0 N Q k) fuel (l.setIfInBounds i true) (a.put o.dst v) w' := by
          intro v w' hv hi'
          refine ih _ _ _ ⟨by simp [hl], X, acc, opens, p', E', L', H', ?_, hi'⟩ hcnt
          rw [hD', hod]
          exact st.read hnd' hacc hnD hes hd hdN hget hv
        have hyield : ∀ (g d' : Nat) (want b : Bool), o.guard = some (g, want) → dstAt ops.toList g = some d' → E'.get d' = some (.v (.bool b)) → yielded ops a.tmps g = some b := by
          intro g d' want b hg hgd hgb
          have hge : g ∈ edgesAt ops.toList i := by
            have := hgu i (List.mem_range.2 (by omega))
            simp only [guardOk, hoL, hg] at this
            simpa using this
          obtain ⟨y', v', h1, h2, h3⟩ := st.know.ran g d' (hes g hge) hgd
          rw [hgb] at h1
          cases h1
          simp only [AV.to, Option.some.injEq] at h2
          subst h2
          have hgd' : (ops[g]?).bind (·.dst) = some d' := by rw [← Array.getElem?_toList]; exact hgd
          simp only [yielded, hgd', Option.bind_some, h3]
        have hdo' : QStep P N o E' L' H' y → Region.wanted o (yielded ops a.tmps) = true → wpOp P ops (Kk P w0 S0 N Q k) i (wpAny P .any ops (Kk P w0 S0 N Q k) fuel (l.setIfInBounds i true)) a w := by
          intro hs hwant
          obtain ⟨v, hv, hstep⟩ := hs w0 S0 a w hvis hinv
          simp only [wpOp, ho]
          rw [if_pos hwant]
          exact .inl (hstep _ _ fun w' hi' => go v w' hv hi')
        rcases hf with ⟨hg, hs⟩ | ⟨g, want, d', hg, hgd, ⟨hb, hs⟩ | ⟨hb, rfl⟩⟩
        · exact hdo' hs (by simp [Region.wanted, hg])
        · exact hdo' hs (by simp [Region.wanted, hg, hyield g d' want want hg hgd hb])
        · simp only [wpOp, ho]
          rw [if_neg (by simp [Region.wanted, hg, hyield g d' want (!want) hg hgd hb])]
          exact go undef w rfl hinv
  have np := nodeP_of hnode
  obtain ⟨E', ⟨hleaf, hk⟩, hsame, hnews⟩ := h.facts hnd' hedge np.sorted fun j hj o ho m hm => np.looks j (by simp [hj]) o ho m (by simp [hm])
  have hfalse : ∀ j, ¬ ((Array.replicate n false).getD j false = true) := by
    intro j hj
    simp [Array.getD_eq_getD_getElem?, Array.getElem?_replicate] at hj
    split at hj <;> simp at hj
  refine wp_region_any hm (main ops.size _ a0 _ ⟨by simp [n], [], news, news, p, E', L, H, ?_, (Step.same (Keeps.drawn w1 (w1.drawn + 1))).inv hi0⟩ ?_)
  · refine ⟨fun i h1 h2 h3 => ?_, fun i hi => .inl hi, np.next, fun i hi => ?_, hkids, fun i hD => absurd hD (hfalse i), (fun i hi => by cases hi), fun i _ hD => absurd hD (hfalse i), fun i hD => absurd hD (hfalse i), (fun i hi => by cases hi), fun i hi => (np.fresh i hi).1, fun t ht => hsame t fun j hj => ht j (by simp [hj]), hnews, ?_, hk, hleaf⟩
    · have := np.bound i h1 h2 (by simpa using h3)
      simpa using this
    · have := np.looks i (by simp only [List.mem_append] at hi ⊢; simpa using hi)
      simpa using this
    · refine ⟨he0.defers, he0.size, fun j d hD => absurd hD (hfalse j), fun t x _ hx => he0.get t x hx⟩
  · refine Nat.le_trans (List.length_filter_le _ _) (by simp [n])
end
end Go.Sep
