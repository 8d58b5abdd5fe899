/-
  append, copy, cuts, bytes and strings; calls that read or make.
  Plain definitions and theorems; nothing of a program in it.
-/
import Derived.Test.YtfdhfnoljejkkaaSepH
set_option linter.unusedVariables false
set_option linter.unusedSimpArgs false
namespace Go.Sep
open Go Go.RowKit

section
variable {P : Program} {N : Nat} {k : List It} {E : Env} {L : List Loc} {H : List Assn} {Q : Post}

theorem run_first {w : World} {sz m c : Nat} {X : Option Addr} {news : List Value} (hs : SrcAt w X news) (hl : news.length = m * sz) : (Builtin.firstCells sz m (.slice X m c)).run P w = .ok news.toArray w := by
  rcases hs with rfl | ⟨ad, rfl, hc⟩
  · have h0 : m * sz = 0 := by simpa using hl.symm
    cases X with
    | none => simp [Builtin.firstCells]
    | some ad => simp [Builtin.firstCells, h0, loadCells, loadCellsFrom]
  · exact run_firstCells_some w sz m ad m c news hl hc
theorem SrcAt.drew {w : World} {X : Option Addr} {news : List Value} (h : SrcAt w X news) : SrcAt w.drew X news := h

/-- What append reads: how many elements, which cells. -/
structure Reads (P : Program) (sz m : Nat) (x : Value) (news : List Value) (w : World) : Prop where
  len : ∀ w' : World, (Builtin.lenOf x).run P w' = .ok m w'
  cells : (Builtin.firstCells sz m x).run P w = .ok news.toArray w
  cellsD : (Builtin.firstCells sz m x).run P w.drew = .ok news.toArray w.drew
theorem Reads.slice {w : World} {sz m c : Nat} {X : Option Addr} {news : List Value} (hs : SrcAt w X news) (hl : news.length = m * sz) : Reads P sz m (.slice X m c) news w :=
  ⟨fun w' => by simp [Builtin.lenOf], run_first hs hl, run_first hs.drew hl⟩
def byteCells (s : ByteArray) : List Value := s.data.toList.map fun b => .int .u8 b.toNat
theorem Reads.string {w : World} (s : ByteArray) : Reads P 1 s.size (.string s) (byteCells s) w := by
  have : (s.extract 0 s.size) = s := by
    apply ByteArray.ext; simp
  have e : (s.extract 0 s.size).data.map (fun b => Value.int .u8 b.toNat) = (byteCells s).toArray := by
    rw [this]; apply Array.ext'; simp [byteCells]
  exact ⟨fun w' => by simp [Builtin.lenOf], by simp only [Builtin.firstCells, e, Sem.run_pure], by simp only [Builtin.firstCells, e, Sem.run_pure]⟩
theorem byteCells_len (s : ByteArray) : (byteCells s).length = s.size := by simp [byteCells]
theorem byteCells_one (s : ByteArray) : AllOne (byteCells s) := fun u hu => by
  simp only [byteCells, List.mem_map] at hu
  obtain ⟨b, _, rfl⟩ := hu
  rfl

/-- A source's type. -/
def srcT (P : Program) (t : TypeId) : Bool := match P.underlying t with | some (.slice _) | some .string => true | _ => false
theorem srcT_some {t : TypeId} (h : srcT P t = true) : P.underlying t = some .string ∨ ∃ e, P.underlying t = some (.slice e) := by
  unfold srcT at h
  split at h
  · rename_i e he; exact .inr ⟨e, he⟩
  · rename_i he; exact .inl he
  · cases h

theorem run_app_room {w : World} {t t' ty e : TypeId} {A : Option Addr} {x : Value} {n m c sz : Nat} {news : List Value} (hr : Reads P sz m x news w) (hu : P.underlying t = some (.slice e)) (hx : srcT P t' = true) (hz : tsz P e = some sz) (hc : n + m ≤ c) :
    (Builtin.append_ #[t, t'] ty #[.slice A n c, x]).run P w = match A with
      | some a => ((storeCells (a.add (n * sz)) news).run P w).andThen fun _ w' => .ok (.slice A (n + m) c) w'
      | none => .ok (.slice A (n + m) c) w := by
  rcases srcT_some hx with hd | ⟨e', hd⟩ <;> cases A <;>
    simp [Builtin.append_, Sem.run_bind, run_underlying hu, run_underlying hd, run_sz hz, hr.len, hr.cells, hc]
theorem run_app_grow {w : World} {t t' ty e : TypeId} {A : Option Addr} {x : Value} {n m c sz bytes : Nat} {cs news z : List Value} (hr : Reads P sz m x news w) (hs : SrcAt w A cs) (hcs : cs.length = n * sz) (hu : P.underlying t = some (.slice e)) (hx : srcT P t' = true) (hz : tsz P e = some sz)
    (hzero : tzero P e = some z) (hb : tbytes P e = some bytes) (hc : c < n + m) (hbig : (n + m) * bytes ≤ 140737488355328) (hmax : n + m ≤ 140737488355328) :
    (Builtin.append_ #[t, t'] ty #[.slice A n c, x]).run P w = .ok (.slice (some ⟨w.heap.size, 0, none⟩) (n + m) (grownCap w (n + m) c e))
        (w.drew.alloc (.cells (cs ++ news ++ (Builtin.zeroCells z.toArray (grownCap w (n + m) c e - (n + m))).toList).toArray e)) := by
  unfold tzero at hzero
  obtain ⟨i, hti, hz0⟩ := Option.bind_eq_some_iff.1 hzero
  obtain ⟨z', hzz, rfl⟩ := Option.map_eq_some_iff.1 hz0
  have hbi : i.bytes = bytes := by unfold tbytes at hb; rw [hti] at hb; simpa using hb
  have hti2 : ∀ w : World, (typeInfo e).run P w = .ok i w := fun w => by simp [typeInfo, hti]
  have hzv : ∀ w : World, (zeroValue e).run P w = .ok z' w := fun w => by simp [zeroValue, typeInfo, hti, hzz, Sem.run_bind]
  have hfit := growslice_fits (need := n + m) (old := c) (bytes := bytes) hc hbig
  have hnf : ¬ (281474976710656 < Builtin.nextslicecap (n + m) c * bytes) := by omega
  have hnc : ¬ (n + m ≤ c) := by omega
  have hold : (Builtin.firstCells sz n (.slice A n c)).run P w.drew = .ok cs.toArray w.drew := run_first hs.drew hcs
  have hroom : ∀ (m : Nat) (w : World), (askRoom m).run P w = .ok () w := by intro m w; unfold askRoom; split <;> rfl
  have h63 : ¬ (9223372036854775807 < (n : Int) + m) := by omega
  have hforced : (Question.appendCap (n + m) c e).forced = false := rfl
  have e1 : (cs.toArray ++ (news.toArray ++ Builtin.zeroCells z'.cells (grownCap w (n + m) c e - (n + m)))) = (cs ++ news ++ (Builtin.zeroCells z'.cells (grownCap w (n + m) c e - (n + m))).toList).toArray := Array.ext' (by simp)
  rcases srcT_some hx with hd | ⟨e', hd⟩ <;>
    simp [Builtin.append_, Sem.run_bind, run_underlying hu, run_underlying hd, run_sz hz, hr.len, hnc, hti2, hbi, hnf, hzv, h63, hforced, hroom, hold, hr.cellsD, newRow, grownCap]
  all_goals exact congrArg (fun a => w.drew.alloc (.cells a e)) (Array.ext' (by simp))

/-- append onto a row of one's own. -/
theorem Row.append {w : World} {S : Nat → Prop} {t t' ty e : TypeId} {v x : Value} {n m sz bytes : Nat} {cs news z : List Value} (hR : (Row v n sz cs).P w S) (hr : Reads P sz m x news w) (hl : news.length = m * sz) (hone : AllOne news)
    (ht : tsl P t = some e) (hx : srcT P t' = true) (hz : tsz P e = some sz) (hzero : tzero P e = some z) (hzl : z.length = sz) (hb : tbytes P e = some bytes) (hsz : 0 < sz)
    (hbig : (n + m) * bytes ≤ 140737488355328) (hmax : n + m ≤ 140737488355328) :
    ∃ A c w', (Builtin.append_ #[t, t'] ty #[v, x]).run P w = .ok (.slice A (n + m) c) w' ∧ Step (Row v n sz cs) (Row (.slice A (n + m) c) (n + m) sz (cs ++ news)) w w' := by
  unfold tsl at ht
  cases hu : P.underlying t with
  | none => simp [hu] at ht
  | some d =>
    cases d <;> first | (simp [hu] at ht; done) | skip
    simp only [hu, Option.some.injEq] at ht
    subst ht
    rename_i e
    have hcl := (Row.shape v n sz cs w S hR).1.1.1
    have hlen : (cs ++ news).length = (n + m) * sz := by rw [List.length_append, hcl, hl, Nat.add_mul]
    have hallone : AllOne (cs ++ news) := ((Row.shape v n sz cs w S hR).1.2).append hone
    have grow : ∀ (A : Option Addr) (c : Nat), v = .slice A n c → c < n + m → ∃ A' c' w', (Builtin.append_ #[t, t'] ty #[v, x]).run P w = .ok (.slice A' (n + m) c') w' ∧ Step (Row v n sz cs) (Row (.slice A' (n + m) c') (n + m) sz (cs ++ news)) w w' := by
      rintro A c rfl hc
      have hg := run_app_grow (ty := ty) hr (Row.cells A n c sz cs w S hR) hcl hu hx hz hzero hb hc hbig hmax
      have hge : n + m ≤ grownCap w (n + m) c e := by simp [grownCap, Question.cut]
      refine ⟨_, _, _, hg, ?_⟩
      refine Step.trans (B := Row (.slice A n c) n sz cs) (Step.same (Keeps.drew w)) ?_
      have hnew := Row.new (A := Row (.slice A n c) n sz cs) w.drew e (n + m) (grownCap w (n + m) c e) sz (cs ++ news) (Builtin.zeroCells z.toArray (grownCap w (n + m) c e - (n + m))).toList hlen (by
        rw [List.length_append, hlen]
        simp only [Builtin.zeroCells, Array.length_toList, Array.size_map, Array.size_range, List.size_toArray, hzl]
        rw [← Nat.add_mul]
        congr 1
        omega) hge hallone hmax
      exact hnew.ent (Ent.refl _) (Ent.left _ _)
    rcases hR with ⟨h1, ⟨A, rfl, rfl, hS⟩ | ⟨b, pre, rest, c, rfl, hblk, hcap, hn, hs⟩⟩
    · by_cases hm : m = 0
      · subst hm
        have hcs0 : cs = [] := List.eq_nil_of_length_eq_zero (by simpa using hcl)
        have hnews : news = [] := List.eq_nil_of_length_eq_zero (by simpa using hl)
        subst hcs0
        subst hnews
        refine ⟨A, 0, w, ?_, ?_⟩
        · rw [run_app_room hr hu hx hz (by omega)]
          cases A <;> simp [storeCells]
        · intro T hT
          exact ⟨Keeps.refl _ _, T, hT, fun b hb => .inl hb⟩
      · exact grow A 0 rfl (by omega)
    · by_cases hc : n + m ≤ c
      · have hlen2 : pre.length + n * sz + 0 + news.length ≤ (pre ++ cs ++ rest).length := by
          simp only [List.length_append] at hcap ⊢
          rw [hl]
          have : (n + m) * sz ≤ c * sz := Nat.mul_le_mul_right _ hc
          rw [Nat.add_mul] at this
          omega
        obtain ⟨w', hrun, hb', hk⟩ := run_storeCells (P := P) b (pre.length + n * sz) news 0 _ w hblk hlen2 hone
        refine ⟨some ⟨b, pre.length, none⟩, c, w', ?_, ?_⟩
        · rw [run_app_room hr hu hx hz hc]
          simp only [add_at, hrun, Result.andThen_ok]
        · have hrl : news.length ≤ rest.length := by simp only [List.length_append] at hlen2; omega
          have key : ∀ (vs rest : List Value) (q : Nat), q = pre.length + cs.length → vs.length ≤ rest.length → splice (pre ++ cs ++ rest) q vs = pre ++ (cs ++ vs) ++ rest.drop vs.length := by
            intro vs rest q hq hv
            subst hq
            have h3 : pre.length + cs.length = (pre ++ cs).length + 0 := by simp
            rw [h3, splice_append_left]
            have h4 : ∀ (vs rest : List Value), vs.length ≤ rest.length → splice rest 0 vs = vs ++ rest.drop vs.length := by
              intro vs
              induction vs with
              | nil => intro rest _; rfl
              | cons u vs ih =>
                intro rest h
                cases rest with
                | nil => simp at h
                | cons y ys =>
                  simp only [List.length_cons] at h
                  simp only [splice, List.set_cons_zero, Nat.zero_add]
                  have h5 := splice_append_left vs [u] ys 0
                  simp only [List.cons_append, List.nil_append, List.length_cons, List.length_nil, Nat.zero_add, Nat.add_zero] at h5
                  rw [h5, ih ys (by omega)]
                  simp
            rw [h4 vs rest hv]
            simp [List.append_assoc]
          rw [key news rest _ (by rw [h1.1.1]; omega) hrl] at hb'
          rintro T ⟨_, ⟨A', he, rfl, hS⟩ | ⟨b', pre', rest', c', he, hblk', hl', hn', hs'⟩⟩
          · injection he with hA hnn hcc
            subst hcc
            obtain rfl : m = 0 := by omega
            have hnews : news = [] := List.eq_nil_of_length_eq_zero (by simpa using hl)
            subst hnews
            refine ⟨?_, T, ⟨⟨⟨hlen, hmax⟩, hallone⟩, .inl ⟨_, rfl, rfl, hS⟩⟩, fun i hi => .inl hi⟩
            have hw : w' = w := by simp [storeCells] at hrun; exact hrun.symm
            rw [hw]; exact Keeps.refl _ _
          · injection he with hA _ hcc
            injection hA with hA
            have hbb : b = b' := congrArg Addr.block hA
            subst hbb
            refine ⟨hk.mono fun i hi => (hs' i).2 hi, T, ⟨⟨⟨hlen, hmax⟩, hallone⟩, .inr ⟨b, pre, rest.drop news.length, c, rfl, hb', ?_, hc, hs'⟩⟩, fun i hi => .inl hi⟩
            simp only [List.length_append, List.length_drop] at hcap ⊢
            omega
      · exact grow _ c rfl (by omega)
theorem SEM.appendX {all l : List Oper} {o : Oper} {c : Call} {s x : Operand} {t t' e : TypeId} {v xv : Value} {n m sz bytes : Nat} {cs z : List Value} (i : Nat) (news : List Value) (hH : H[i]? = some (Row v n sz cs))
    (hr : Says (stA L H) (Reads P sz m xv news)) (hl : news.length = m * sz) (hone : AllOne news) (hbig : (n + m) * bytes ≤ 140737488355328) (hmax : n + m ≤ 140737488355328)
    (h : ∀ A c, SEM P N (.ops all l :: k) (E.put o.dst (.v (.slice A (n + m) c))) L (H.set i (Row (.slice A (n + m) c) (n + m) sz (cs ++ news))) Q)
    (hg : o.guard = none) (hd : dstOk N o.dst = true) (ho : o.op = .call c) (hc : c.callee = .builtin .append) (ha : c.args = [s, x].toArray) (hat : c.argTypes = [t, t'].toArray)
    (hs : E.ev s = some (.v v)) (hx : E.ev x = some (.v xv)) (ht : tsl P t = some e) (hx' : srcT P t' = true) (hz : tsz P e = some sz) (hzero : tzero P e = some z) (hzl : z.length = sz) (hb : tbytes P e = some bytes) (hsz : 0 < sz) :
    SEM P N (.ops all (o :: l) :: k) E L H Q := by
  refine SEM.stepV hg hd fun a w he ⟨S, hS⟩ => ?_
  have e1 := he.ev hs
  have e2 := he.ev hx
  simp only [AV.to, Option.some.injEq] at e1 e2
  have hin : Says (stA L H) fun w => ∃ S, (Row v n sz cs).P w S := H_says hH fun w S h => ⟨S, h⟩
  obtain ⟨T, hT⟩ := hin w S hS
  obtain ⟨A, cc, w', hrun, hst⟩ := Row.append (P := P) (ty := o.type) hT (hr w S hS) hl hone ht hx' hz hzero hzl hb hsz hbig hmax
  refine ⟨_, w', _, ?_, stA_set hH hst, h A cc⟩
  rw [run_call_builtin ho hc]
  simp only [builtin, ha, hat, Sem.run_bind, List.map_toArray, List.map_cons, List.map_nil, ← e1, ← e2, hrun, Result.andThen_ok, Sem.run_pure]
end
end Go.Sep
