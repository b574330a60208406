/- A region that draws its order, by what its operations tell (the same as stands in TabP, for seats that have no tables). A range over a function whose iterator has a state of its own in memory. -/
import Derived.Test.YtpcapifjbhaeeaaRoundS
import Derived.Test.YtpcapifjbhaeeaaGrow
import Derived.Test.YtpcapifjbhaeeaaMem1
import Derived.RangeFuncNested
import Derived.RangeFuncBound
import Derived.RangeFuncCalls
import Derived.RangeFuncLeaves
import Derived.RangeFuncBox
import Derived.Shelf.Abstract
import Derived.Shelf.RegionOpen
import Derived.OwnWalkIn
import Derived.TacticsInMore
import Derived.LoopNIn
import Derived.LoopIn
namespace Go
open Go.RowKit
/-- the operations of the regions of a number, found in a function's code -/
def Code.opsOf : Code → Nat → List Oper
  | .region i ops _, k => if i == k then ops.toList else []
  | .seq a b, k => a.opsOf k ++ b.opsOf k
  | .cond _ a b, k => a.opsOf k ++ b.opsOf k
  | .block _ c, k => c.opsOf k
  | .loop c, k => c.opsOf k
  | .scope c, k => c.opsOf k
  | .rangeFunc _ _ a b, k => a.opsOf k ++ b.opsOf k
  | _, _ => []
def Func.opsAt (f : Func) (k : Nat) : List Oper := match f.body with
  | some c => c.opsOf k
  | none => []
theorem wp_region_same {P : Program} {id : Nat} {l l' : List Oper} {b : Bool} {Q : Exit → Act → World → Prop} {a : Act} {w : World} (h : l = l') (h2 : (Code.region id l'.toArray b).wp P Q a w) : (Code.region id l.toArray b).wp P Q a w := by
  rw [h]
  exact h2
section
variable {F : Fence} {n : Nat} {P : Program} {ops : Array Oper} {Q : Exit → Act → World → Prop} {md : Region.Mode}

def dstOf (ops : Array Oper) (i : Nat) : Option Tmp := (ops[i]?).bind (·.dst)
/-- values put into their slots -/
def fillL (vs : Nat → Value) : List (Nat × Option Tmp) → Act → Act
  | [], a => a
  | (j, d) :: l, a => fillL vs l (a.put d (vs j))
def pairsR (ops : Array Oper) (ok : Nat → Bool) : Nat → List (Nat × Option Tmp)
  | 0 => []
  | k + 1 => if ok k then pairsR ops ok k ++ [(k, dstOf ops k)] else pairsR ops ok k
theorem fillL_app (vs : Nat → Value) (m : List (Nat × Option Tmp)) : ∀ (l : List (Nat × Option Tmp)) (a : Act), fillL vs (l ++ m) a = fillL vs m (fillL vs l a)
  | [], _ => rfl
  | (j, d) :: l, a => fillL_app vs m l (a.put d (vs j))
theorem put_size (a : Act) (d : Option Tmp) (v : Value) : (a.put d v).tmps.size = a.tmps.size := by
  cases d <;> simp [Act.put]
theorem fillL_size (vs : Nat → Value) : ∀ (l : List (Nat × Option Tmp)) (a : Act), (fillL vs l a).tmps.size = a.tmps.size
  | [], _ => rfl
  | (j, d) :: l, a => (fillL_size vs l _).trans (put_size a d _)
theorem put_defers (a : Act) (d : Option Tmp) (v : Value) : (a.put d v).defers = a.defers := by
  cases d <;> rfl
theorem fillL_defers (vs : Nat → Value) : ∀ (l : List (Nat × Option Tmp)) (a : Act), (fillL vs l a).defers = a.defers
  | [], _ => rfl
  | (j, d) :: l, a => (fillL_defers vs l _).trans (put_defers a d _)
theorem put_at_ne (a : Act) (d : Option Tmp) (v : Value) (t : Nat) (h : d ≠ some t) : (a.put d v).tmps[t]? = a.tmps[t]? := by
  cases d with
  | none => rfl
  | some e =>
    have : e ≠ t := fun h' => h (by rw [h'])
    simp [Act.put, Array.getElem?_setIfInBounds_ne this]
theorem fillL_not (vs : Nat → Value) (t : Nat) : ∀ (l : List (Nat × Option Tmp)) (a : Act), (∀ p ∈ l, p.2 ≠ some t) → (fillL vs l a).tmps[t]? = a.tmps[t]?
  | [], _, _ => rfl
  | (j, d) :: l, a, h => (fillL_not vs t l _ fun p hp => h p (by simp [hp])).trans (put_at_ne a d _ t (h (j, d) (by simp)))
theorem fillL_at (vs : Nat → Value) (t j : Nat) : ∀ (l : List (Nat × Option Tmp)) (a : Act), (j, some t) ∈ l → (∀ p ∈ l, p.2 = some t → p.1 = j) → (fillL vs l a).tmps[t]? = if t < a.tmps.size then some (vs j) else none
  | [], _, h, _ => by cases h
  | (j', d) :: l, a, h, hu => by
    show (fillL vs l (a.put d (vs j'))).tmps[t]? = _
    by_cases hm : (j, some t) ∈ l
    · rw [fillL_at vs t j l _ hm fun p hp => hu p (by simp [hp]), put_size]
    · rcases List.mem_cons.1 h with h | h
      · cases h
        rw [fillL_not vs t l _ fun p hp e => hm (by
          have h1 := hu p (by simp [hp]) e
          obtain ⟨p1, p2⟩ := p
          cases h1
          cases e
          exact hp)]
        by_cases hs : t < a.tmps.size
        · simp [Act.put, hs]
        · simp [Act.put, hs]
      · exact absurd h hm
theorem mem_pairs {ok : Nat → Bool} {j : Nat} {d : Option Tmp} : ∀ {k : Nat}, (j, d) ∈ pairsR ops ok k ↔ j < k ∧ ok j = true ∧ d = dstOf ops j
  | 0 => by simp [pairsR]
  | k + 1 => by
    unfold pairsR
    by_cases hk : ok k = true
    · rw [if_pos hk, List.mem_append, mem_pairs, List.mem_singleton]
      constructor
      · rintro (⟨h1, h2, h3⟩ | h)
        · exact ⟨by omega, h2, h3⟩
        · cases h
          exact ⟨by omega, hk, rfl⟩
      · rintro ⟨h1, h2, h3⟩
        by_cases e : j = k
        · subst e
          exact .inr (by rw [h3])
        · exact .inl ⟨by omega, h2, h3⟩
    · rw [if_neg hk, mem_pairs]
      constructor
      · rintro ⟨h1, h2, h3⟩
        exact ⟨by omega, h2, h3⟩
      · rintro ⟨h1, h2, h3⟩
        by_cases e : j = k
        · subst e
          exact absurd h2 hk
        · exact ⟨by omega, h2, h3⟩
def updV (vs : Nat → Value) (i : Nat) (v : Value) : Nat → Value := fun j => if j = i then v else vs j
theorem fillL_congr {vs vs' : Nat → Value} : ∀ (l : List (Nat × Option Tmp)) (a : Act), (∀ p ∈ l, vs p.1 = vs' p.1) → fillL vs l a = fillL vs' l a
  | [], _, _ => rfl
  | (j, d) :: l, a, h => by
    show fillL vs l (a.put d (vs j)) = fillL vs' l (a.put d (vs' j))
    rw [h (j, d) (by simp)]
    exact fillL_congr l _ fun p hp => h p (by simp [hp])
/-- one more -/
theorem fill_more (vs : Nat → Value) {ok ok' : Nat → Bool} {i : Nat} (v : Value) (a : Act) (h0 : ok i = false) (h1 : ok' i = true) (h2 : ∀ j, j ≠ i → ok' j = ok j) (hd : ∀ j, j ≠ i → ∀ d, dstOf ops i = some d → dstOf ops j ≠ some d) :
    ∀ k, (k ≤ i → pairsR ops ok' k = pairsR ops ok k) ∧ (i < k → fillL (updV vs i v) (pairsR ops ok' k) a = (fillL vs (pairsR ops ok k) a).put (dstOf ops i) v)
  | 0 => ⟨fun _ => rfl, fun h => by omega⟩
  | k + 1 => by
    obtain ⟨e1, e2⟩ := fill_more vs v a h0 h1 h2 hd k
    refine ⟨fun h => ?_, fun h => ?_⟩
    · unfold pairsR
      rw [h2 k (by omega), e1 (by omega)]
    · by_cases e : k = i
      · subst e
        unfold pairsR
        rw [if_pos h1, if_neg (by rw [h0]; exact Bool.false_ne_true), fillL_app, e1 (Nat.le_refl _)]
        have e3 : fillL (updV vs k v) (pairsR ops ok k) a = fillL vs (pairsR ops ok k) a := fillL_congr _ _ fun p hp => by
          obtain ⟨j, d⟩ := p
          have := (mem_pairs.1 hp).1
          show (if j = k then v else vs j) = vs j
          rw [if_neg (by omega)]
        rw [e3]
        show Act.put _ _ (updV vs k v k) = _
        rw [show updV vs k v k = v from if_pos rfl]
      · have e3 := e2 (by omega)
        unfold pairsR
        rw [h2 k e]
        by_cases hk : ok k = true
        · rw [if_pos hk, if_pos hk, fillL_app, fillL_app, e3]
          show Act.put (Act.put _ _ v) _ (updV vs i v k) = Act.put (Act.put _ _ (vs k)) _ v
          rw [show updV vs i v k = vs k from if_neg e]
          exact Act.put_comm _ _ _ fun d hd' => hd k e d hd'
        · rw [if_neg hk, if_neg hk, e3]
/-- the slots that an operation looks at hold the same -/
def SameAt (ops : Array Oper) (o : Oper) (a a' : Act) : Prop := ∀ t ∈ o.looksAt ops, a.tmps[t]? = a'.tmps[t]?
theorem SameAt.eval {o : Oper} {a a' : Act} (h : SameAt ops o a a') (x : Operand) (hx : x ∈ o.op.operands) : a.eval x = a'.eval x := by
  cases x with
  | tmp t =>
    have ht : t ∈ o.looksAt ops := List.mem_append_left _ (List.mem_filterMap.2 ⟨.tmp t, by simpa using hx, rfl⟩)
    show a.tmps.getD t undef = a'.tmps.getD t undef
    rw [Array.getD_eq_getD_getElem?, Array.getD_eq_getD_getElem?, h t ht]
  | _ => rfl
theorem SameAt.wanted {o : Oper} {a a' : Act} (h : SameAt ops o a a') : Region.wanted o (yielded ops a.tmps) = Region.wanted o (yielded ops a'.tmps) := by
  unfold Region.wanted
  cases hg : o.guard with
  | none => rfl
  | some gw =>
    obtain ⟨g, want⟩ := gw
    have hy : yielded ops a.tmps g = yielded ops a'.tmps g := by
      unfold yielded
      cases ht : (ops[g]?).bind (·.dst) with
      | none => rfl
      | some t =>
        have h1 : t ∈ o.looksAt ops := List.mem_append_right _ (by simp [hg, ht])
        simp only [Option.bind_some, h t h1]
    simp only [hy]
theorem put_same {A A2 : Act} (hs : A.tmps.size = A2.tmps.size) {d : Option Tmp} {u v : Value} (h : A.put d u = A.put d v) : A2.put d u = A2.put d v := by
  cases d with
  | none => rfl
  | some t =>
    by_cases ht : t < A.tmps.size
    · have h1 : (A.put (some t) u).tmps[t]? = (A.put (some t) v).tmps[t]? := by rw [h]
      simp [Act.put, ht] at h1
      rw [h1]
    · have h2 : ¬ t < A2.tmps.size := fun h' => ht (hs ▸ h')
      simp only [Act.put, Array.setIfInBounds, h2, dif_neg, not_false_eq_true]
/-- no panic; out of room as before -/
def OnlyOut (Q : Exit → Act → World → Prop) : Exit → Act → World → Prop
  | .outgrown, a, w => Q .outgrown a w
  | _, _, _ => False
theorem uponIn_turn {o : Oper} {A A2 : Act} {K K2 : Act → World → Prop} {r : Result Next} {Rv : Value → World → Prop} (hs : A.tmps.size = A2.tmps.size)
    (hK : ∀ a' w', K a' w' → ∃ v, a' = A.put o.dst v ∧ Rv v w') (hK2 : ∀ v w', Rv v w' → K2 (A2.put o.dst v) w') (h : o.uponIn F n P A K (OnlyOut Q) r) : o.uponIn F n P A2 K2 Q r := by
  have key : ∀ u w', K (A.put o.dst u) w' → K2 (A2.put o.dst u) w' := fun u w' h => by
    obtain ⟨v, h1, h2⟩ := hK _ _ h
    rw [put_same hs h1]
    exact hK2 v w' h2
  match r, h with
  | .ok (.value u) w', h => exact key u w' h
  | .ok .skip w', h => exact key undef w' h
  | .ok (.defer d) w', h =>
    obtain ⟨v, h1, -⟩ := hK _ _ h
    have h2 := congrArg Act.defers h1
    rw [put_defers, put_defers] at h2
    have h3 := congrArg List.length h2
    simp at h3
  | .ok (.enter f args) w', h => exact ⟨h.1, h.2.mono fun e w'' he => by
      cases e with
      | returned u => exact key u w'' he
      | panicked c => exact he.elim
      | outgrown => exact he⟩
  | .ok (.row row args) w', h => exact ⟨h.1, h.2.mono key⟩
  | .ok (.round l f tmps asg body) w', h => exact ⟨h.1, h.2.mono fun e w'' he => by
      cases e with
      | returned u => exact key u w'' he
      | panicked c => exact he.elim
      | outgrown => exact he⟩
  | .halt (.panic u) w', h => exact h.elim
/-- operation i, from what those that it waits for have told -/
def OneR (F : Fence) (n : Nat) (P : Program) (ops : Array Oper) (Q : Exit → Act → World → Prop) (Rs : Nat → Value → World → Prop) (a0 : Act) (w0 : World) (i : Nat) (o : Oper) (D : List (Nat × Option Tmp)) : Prop :=
  ∀ (vs : Nat → Value) (w : World), Below w0.heap.size w0 w → (∀ p ∈ D, Rs p.1 (vs p.1) w) → ∀ K : Act → World → Prop, (∀ a' v w', a' = (fillL vs D a0).put o.dst v → Below w.heap.size w w' → Rs i v w' → K a' w') →
    if Region.wanted o (yielded ops (fillL vs D a0).tmps) then o.wpIn F n P (fillL vs D a0) w K (OnlyOut Q) else (∀ f, o.about P w (fillL vs D a0).eval = some f → F.fn f) ∧ K ((fillL vs D a0).put o.dst undef) w
/-- what is asked of the operations, and of what is said that each waits for -/
def okR (md : Region.Mode) (ops : Array Oper) (Ds : List (List (Nat × Option Tmp))) : Bool :=
  plainOps ops && (List.range ops.size).all fun i => match ops[i]? with
    | none => false
    | some o => (o.after.all fun e => !Region.binds md e || decide (e.on < i)) &&
      ((Ds.getD i []).all fun p => (o.after.any fun e => Region.binds md e && e.on == p.1) && p.2 == dstOf ops p.1) &&
      ((List.range ops.size).all fun j => match dstOf ops j with
        | none => true
        | some d => (j == i || dstOf ops i != some d) && (!(o.looksAt ops).contains d || (Ds.getD i []).any fun p => p.1 == j))
theorem okR_spec {Ds : List (List (Nat × Option Tmp))} (h : okR md ops Ds = true) : plainOps ops = true ∧ ∀ i o, ops[i]? = some o → (∀ e ∈ o.after, Region.binds md e = true → e.on < i) ∧
    (∀ p ∈ Ds.getD i [], (∃ e ∈ o.after, Region.binds md e = true ∧ e.on = p.1) ∧ p.2 = dstOf ops p.1) ∧
    ∀ j d, dstOf ops j = some d → (j = i ∨ dstOf ops i ≠ some d) ∧ (d ∉ o.looksAt ops ∨ ∃ p ∈ Ds.getD i [], p.1 = j) := by
  unfold okR at h
  rw [Bool.and_eq_true] at h
  refine ⟨h.1, fun i o ho => ?_⟩
  have hi : i < ops.size := (Array.getElem?_eq_some_iff.1 ho).1
  have h1 := List.all_eq_true.1 h.2 i (List.mem_range.2 hi)
  simp only [ho, Bool.and_eq_true] at h1
  obtain ⟨⟨h1, h2⟩, h3⟩ := h1
  refine ⟨fun e he hb => ?_, fun p hp => ?_, fun j d hd => ?_⟩
  · have := Array.all_eq_true_iff_forall_mem.1 h1 e he
    rw [hb] at this
    simpa using this
  · have := List.all_eq_true.1 h2 p hp
    simp only [Bool.and_eq_true, beq_iff_eq] at this
    obtain ⟨h4, h5⟩ := this
    obtain ⟨e, he, hb⟩ := Array.any_eq_true'.1 h4
    simp only [Bool.and_eq_true, beq_iff_eq] at hb
    exact ⟨⟨e, he, hb.1, hb.2⟩, h5⟩
  · have hj : j < ops.size := by
      unfold dstOf at hd
      cases hoj : ops[j]? with
      | none => rw [hoj] at hd; cases hd
      | some oj => exact (Array.getElem?_eq_some_iff.1 hoj).1
    have := List.all_eq_true.1 h3 j (List.mem_range.2 hj)
    simp only [hd, Bool.and_eq_true, Bool.or_eq_true, beq_iff_eq, bne_iff_ne, ne_eq, Bool.not_eq_true', List.any_eq_true] at this
    refine ⟨this.1, ?_⟩
    rcases this.2 with h4 | ⟨p, hp, h5⟩
    · exact .inl (by simpa using h4)
    · exact .inr ⟨p, hp, h5⟩
/-- how many have not come up -/
def unlR (listed : Array Bool) : Nat → Nat
  | 0 => 0
  | k + 1 => unlR listed k + if listed.getD k true then 0 else 1
theorem unlR_same {listed : Array Bool} {i : Nat} : ∀ {k : Nat}, k ≤ i → unlR (listed.setIfInBounds i true) k = unlR listed k
  | 0, _ => rfl
  | k + 1, h => by
    unfold unlR
    rw [unlR_same (by omega), getD_set_ne true (by omega)]
theorem unlR_set {listed : Array Bool} {i : Nat} (hi : listed.getD i true = false) : ∀ {k : Nat}, i < k → unlR (listed.setIfInBounds i true) k + 1 = unlR listed k
  | 0, h => by omega
  | k + 1, h => by
    unfold unlR
    by_cases e : k = i
    · subst e
      have hs : k < listed.size := by
        rcases Nat.lt_or_ge k listed.size with h' | h'
        · exact h'
        · simp [Array.getElem?_eq_none h'] at hi
      rw [unlR_same (Nat.le_refl _), hi]
      simp [hs]
    · rw [getD_set_ne true (Ne.symm e), ← unlR_set hi (show i < k by omega)]
      omega
theorem unlR_zero {listed : Array Bool} : ∀ {k : Nat}, unlR listed k = 0 → ∀ j, j < k → listed.getD j true = true
  | 0, _, j, hj => by omega
  | k + 1, h, j, hj => by
    unfold unlR at h
    by_cases e : j = k
    · subst e
      cases hl : listed.getD j true with
      | true => rfl
      | false => rw [hl] at h; simp at h
    · have h0 : unlR listed k = 0 := Nat.eq_zero_of_add_eq_zero_right h
      exact unlR_zero h0 j (by omega)
theorem getD_tf {listed : Array Bool} {j : Nat} (hs : j < listed.size) : listed.getD j true = listed.getD j false := by
  simp [hs]
theorem AnyR.all {Ds : List (List (Nat × Option Tmp))} {Rs : Nat → Value → World → Prop} {a0 : Act} {w0 : World} (hk : okR md ops Ds = true)
    (hm : ∀ i v w w', Below w.heap.size w w' → Rs i v w → Rs i v w')
    (hs : ∀ i o, ops[i]? = some o → OneR F n P ops Q Rs a0 w0 i o (Ds.getD i []))
    (he : ∀ vs w', Below w0.heap.size w0 w' → (∀ i, i < ops.size → Rs i (vs i) w') → Q .normal (fillL vs (pairsR ops (fun _ => true) ops.size) a0) w') :
    ∀ (fuel : Nat) (listed : Array Bool) (vs : Nat → Value) (w : World), listed.size = ops.size → unlR listed ops.size ≤ fuel → Below w0.heap.size w0 w → (∀ j, j < ops.size → listed.getD j false = true → Rs j (vs j) w) →
      wpAnyIn F n P md ops Q fuel listed (fillL vs (pairsR ops (fun j => listed.getD j false) ops.size) a0) w := by
  obtain ⟨hp, hsp⟩ := okR_spec hk
  have hend : ∀ (listed : Array Bool) (vs : Nat → Value) (w : World), listed.size = ops.size → Region.ready md ops listed = [] → Below w0.heap.size w0 w → (∀ j, j < ops.size → listed.getD j false = true → Rs j (vs j) w) → Q .normal (fillL vs (pairsR ops (fun j => listed.getD j false) ops.size) a0) w := by
    intro listed vs w hsz hr hb hR
    have hall : ∀ j, j < ops.size → listed.getD j false = true := by
      intro j
      induction j using Nat.strongRecOn with
      | ind j ih =>
        intro hj
        cases hl : listed.getD j false with
        | true => rfl
        | false =>
          exfalso
          have hoj : ops[j]? = some ops[j] := Array.getElem?_eq_getElem hj
          have hmem : j ∈ Region.ready md ops listed := mem_ready.2 ⟨by rw [getD_tf (by omega)]; exact hl, _, hoj, fun e hem heb => ih e.on ((hsp j _ hoj).1 e hem heb) (by have := (hsp j _ hoj).1 e hem heb; omega)⟩
          rw [hr] at hmem
          cases hmem
    have hpe : pairsR ops (fun j => listed.getD j false) ops.size = pairsR ops (fun _ => true) ops.size := by
      have : ∀ k, k ≤ ops.size → pairsR ops (fun j => listed.getD j false) k = pairsR ops (fun _ => true) k := by
        intro k
        induction k with
        | zero => intro _; rfl
        | succ k ih =>
          intro hk
          unfold pairsR
          rw [ih (by omega), hall k (by omega)]
      exact this _ (Nat.le_refl _)
    rw [hpe]
    exact he vs w hb fun i hi => hR i hi (hall i hi)
  intro fuel
  induction fuel with
  | zero =>
    intro listed vs w hsz hu hb hR
    have hr : Region.ready md ops listed = [] := by
      cases hrr : Region.ready md ops listed with
      | nil => rfl
      | cons x xs =>
        have hx : x ∈ Region.ready md ops listed := by rw [hrr]; simp
        obtain ⟨h1, o, ho, -⟩ := mem_ready.1 hx
        have h2 := unlR_zero (show unlR listed ops.size = 0 by omega) x (Array.getElem?_eq_some_iff.1 ho).1
        rw [h1] at h2
        cases h2
    exact ⟨hr, hend listed vs w hsz hr hb hR⟩
  | succ fuel ih =>
    intro listed vs w hsz hu hb hR
    refine ⟨fun hr => hend listed vs w hsz hr hb hR, fun i hi => ?_⟩
    obtain ⟨hun, o, ho, hall⟩ := mem_ready.1 hi
    have hil : i < ops.size := (Array.getElem?_eq_some_iff.1 ho).1
    obtain ⟨q1, q2, q3⟩ := hsp i o ho
    have hDl : ∀ p ∈ Ds.getD i [], p.1 < ops.size ∧ listed.getD p.1 false = true ∧ p.2 = dstOf ops p.1 := fun p hp => by
      obtain ⟨⟨e, he1, he2, he3⟩, h4⟩ := q2 p hp
      have h5 := q1 e he1 he2
      have h6 := hall e he1 he2
      rw [he3] at h5 h6
      exact ⟨by omega, h6, h4⟩
    have hone := hs i o ho vs w hb (fun p hp => hR p.1 (hDl p hp).1 (hDl p hp).2.1) (fun a' w' => ∃ v, a' = (fillL vs (Ds.getD i []) a0).put o.dst v ∧ (Below w.heap.size w w' ∧ Rs i v w')) (fun a' v w' h1 h2 h3 => ⟨v, h1, h2, h3⟩)
    have hsame : SameAt ops o (fillL vs (Ds.getD i []) a0) (fillL vs (pairsR ops (fun j => listed.getD j false) ops.size) a0) := by
      intro t ht
      by_cases hex : ∃ j, dstOf ops j = some t
      · obtain ⟨j, hj⟩ := hex
        have huq : ∀ k, dstOf ops k = some t → k = j := fun k hk' => by
          have hok : ∃ ok, ops[k]? = some ok := by
            unfold dstOf at hk'
            cases hq : ops[k]? with
            | none => rw [hq] at hk'; cases hk'
            | some ok => exact ⟨ok, rfl⟩
          obtain ⟨ok, hok⟩ := hok
          rcases ((hsp k ok hok).2.2 j t hj).1 with h | h
          · exact h.symm
          · exact absurd hk' h
        rcases (q3 j t hj).2 with h | ⟨p, hpm, hpj⟩
        · exact absurd ht h
        · obtain ⟨l1, l2, l3⟩ := hDl p hpm
          obtain ⟨p1, p2⟩ := p
          cases hpj
          dsimp only at l1 l2 l3
          rw [hj] at l3
          subst l3
          rw [fillL_at vs t p1 (Ds.getD i []) a0 hpm (fun p' hp' e => huq _ (by rw [← (hDl p' hp').2.2]; exact e)),
            fillL_at vs t p1 (pairsR ops (fun j => listed.getD j false) ops.size) a0 (mem_pairs.2 ⟨l1, l2, hj.symm⟩) (fun p' hp' e => by
              obtain ⟨k, d⟩ := p'
              have := (mem_pairs.1 hp').2.2
              exact huq k (by rw [← this]; exact e))]
      · rw [fillL_not vs t _ a0 (fun p hp e => hex ⟨p.1, by rw [← (hDl p hp).2.2]; exact e⟩), fillL_not vs t _ a0 (fun p hp e => by
          obtain ⟨k, d⟩ := p
          have := (mem_pairs.1 hp).2.2
          exact hex ⟨k, by rw [← this]; exact e⟩)]
    have hdo : dstOf ops i = o.dst := by unfold dstOf; rw [ho]; rfl
    have hnf : listed.getD i false = false := by rw [← getD_tf (by omega)]; exact hun
    have hmore : ∀ v, fillL (updV vs i v) (pairsR ops (fun j => (listed.setIfInBounds i true).getD j false) ops.size) a0 = (fillL vs (pairsR ops (fun j => listed.getD j false) ops.size) a0).put o.dst v := fun v => by
      rw [← hdo]
      refine (fill_more vs v a0 (ok := fun j => listed.getD j false) (ok' := fun j => (listed.setIfInBounds i true).getD j false) hnf ?_ ?_ ?_ ops.size).2 hil
      · simp [show i < listed.size by omega]
      · intro j hj
        exact getD_set_ne false (Ne.symm hj)
      · intro j hj d hd hd2
        rcases (q3 j d hd2).1 with h | h
        · exact hj h
        · exact h hd
    have hnext : ∀ v w', (Below w.heap.size w w' ∧ Rs i v w') → wpAnyIn F n P md ops Q fuel (listed.setIfInBounds i true) ((fillL vs (pairsR ops (fun j => listed.getD j false) ops.size) a0).put o.dst v) w' := by
      rintro v w' ⟨hb', hr'⟩
      rw [← hmore v]
      refine ih (listed.setIfInBounds i true) (updV vs i v) w' (by simpa using hsz) (by have := unlR_set (listed := listed) hun hil; omega) (hb.trans (hb'.mono hb.size)) fun j hj hl => ?_
      by_cases e : j = i
      · subst e
        rw [show updV vs j v j = v from if_pos rfl]
        exact hr'
      · rw [show updV vs i v j = vs j from if_neg e]
        rw [getD_set_ne false (Ne.symm e)] at hl
        exact hm j _ w w' hb' (hR j hj hl)
    obtain ⟨hnd, hns⟩ := plainOps_spec hp ho
    have hex := execOp_congr (ρ := (fillL vs (Ds.getD i []) a0).eval) (ρ' := (fillL vs (pairsR ops (fun j => listed.getD j false) ops.size) a0).eval) o hns fun x hx => hsame.eval x hx
    have hab := fun w => about_congr (P := P) (ρ := (fillL vs (Ds.getD i []) a0).eval) (ρ' := (fillL vs (pairsR ops (fun j => listed.getD j false) ops.size) a0).eval) o w fun x hx => hsame.eval x hx
    have hwa := hsame.wanted
    rw [wpOpIn_plain hp ho, ← hex, ← hab w, ← hwa]
    have hsz2 : (fillL vs (Ds.getD i []) a0).tmps.size = (fillL vs (pairsR ops (fun j => listed.getD j false) ops.size) a0).tmps.size := by rw [fillL_size, fillL_size]
    by_cases hw : Region.wanted o (yielded ops (fillL vs (Ds.getD i []) a0).tmps) = true
    · rw [if_pos hw] at hone ⊢
      unfold Oper.wpIn at hone
      rw [Oper.semAt_eq _ _ _ hnd] at hone
      exact ⟨hone.1, uponIn_turn hsz2 (fun a' w' h => h) hnext hone.2⟩
    · rw [if_neg hw] at hone ⊢
      obtain ⟨h1, v, h2, h3⟩ := hone
      refine ⟨h1, ?_⟩
      rw [put_same hsz2 h2]
      exact hnext v w h3
/-- the operations one by one -/
def StepsR (F : Fence) (n : Nat) (P : Program) (ops : Array Oper) (Q : Exit → Act → World → Prop) (Rs : Nat → Value → World → Prop) (a0 : Act) (w0 : World) : List Oper → List (List (Nat × Option Tmp)) → Nat → Prop
  | [], _, _ => True
  | _ :: _, [], _ => False
  | o :: os, D :: Ds, i => OneR F n P ops Q Rs a0 w0 i o D ∧ StepsR F n P ops Q Rs a0 w0 os Ds (i + 1)
theorem StepsR.at {Rs : Nat → Value → World → Prop} {a0 : Act} {w0 : World} : ∀ {os : List Oper} {Ds : List (List (Nat × Option Tmp))} {k : Nat}, StepsR F n P ops Q Rs a0 w0 os Ds k → ∀ i o, os[i]? = some o → OneR F n P ops Q Rs a0 w0 (k + i) o (Ds.getD i [])
  | [], _, _, _, i, o, h => by simp at h
  | _ :: _, [], _, hs, _, _, _ => hs.elim
  | o :: os, D :: Ds, k, hs, 0, o', h => by
    obtain rfl : o = o' := by simpa using h
    exact hs.1
  | o :: os, D :: Ds, k, hs, i + 1, o', h => by
    have h1 := StepsR.at (os := os) (Ds := Ds) (k := k + 1) hs.2 i o' (by simpa using h)
    rw [show k + (i + 1) = k + 1 + i by omega]
    exact h1
def MonoR (r : Value → World → Prop) : Prop := ∀ v w w', Below w.heap.size w w' → r v w → r v w'
theorem MonoR.is (x : Value) : MonoR (fun v _ => v = x) := fun _ _ _ _ h => h
def MonosR : List (Value → World → Prop) → Prop
  | [] => True
  | r :: rs => MonoR r ∧ MonosR rs
theorem MonosR.at : ∀ {rs : List (Value → World → Prop)}, MonosR rs → ∀ i, MonoR (rs.getD i (fun _ _ => True))
  | [], _, _ => fun _ _ _ _ _ => trivial
  | r :: rs, h, 0 => h.1
  | r :: rs, h, i + 1 => MonosR.at (rs := rs) h.2 i
/-- a region that draws its order, by what its operations tell -/
theorem wpIn_region_rel {id : Nat} {l : List Oper} {a : Act} {w : World} (Ds : List (List (Nat × Option Tmp))) (Rs : List (Value → World → Prop)) (AP : List (Nat × Option Tmp)) (hm : P.follows .mixedOrders = true) (hk : okR .any l.toArray Ds = true) (hA : pairsR l.toArray (fun _ => true) l.toArray.size = AP)
    (hR : MonosR Rs)
    (hs : StepsR F n P l.toArray Q (fun i => Rs.getD i (fun _ _ => True)) a w.drew l Ds 0)
    (he : ∀ vs w', Below w.drew.heap.size w.drew w' → (∀ i, i < l.toArray.size → Rs.getD i (fun _ _ => True) (vs i) w') → Q .normal (fillL vs AP a) w') : (Code.region id l.toArray true).wpIn F n P Q a w := by
  refine wpIn_region_any hm ?_
  have h := AnyR.all (F := F) (n := n) (P := P) (Q := Q) (md := .any) (ops := l.toArray) (a0 := a) (w0 := w.drew) (Rs := fun i => Rs.getD i (fun _ _ => True)) hk (fun i v w w' hb hr => hR.at i v w w' hb hr)
    (fun i o ho => by
      have := hs.at i o (by simpa using ho)
      rwa [Nat.zero_add] at this) (fun vs w' h1 h2 => by rw [hA]; exact he vs w' h1 h2) l.toArray.size (Array.replicate l.toArray.size false) (fun _ => undef) w.drew (by simp) (by
      have : ∀ k, unlR (Array.replicate l.toArray.size false) k ≤ k := by
        intro k
        induction k with
        | zero => exact Nat.le_refl _
        | succ k ih =>
          unfold unlR
          split <;> omega
      exact this _) (Below.refl _ _) (fun j hj hl => by
        rw [Array.getD_eq_getD_getElem?, Array.getElem?_replicate] at hl
        split at hl <;> cases hl)
  have e : pairsR l.toArray (fun j => (Array.replicate l.toArray.size false).getD j false) l.toArray.size = [] := by
    have : ∀ k, pairsR l.toArray (fun j => (Array.replicate l.toArray.size false).getD j false) k = [] := by
      intro k
      induction k with
      | zero => rfl
      | succ k ih =>
        unfold pairsR
        rw [ih, if_neg]
        rw [Array.getD_eq_getD_getElem?, Array.getElem?_replicate]
        split <;> exact Bool.false_ne_true
    exact this _
  rw [e] at h
  exact h
end
end Go
namespace Go
open Go.RowKit

/-- how a round that goes on is left -/
def stPost {α : Type} (B : Nat) (RB : World → World → Prop) (I : List α → World → Prop) (xs : List α) (W : World) : Exit → Act → World → Prop
  | .normal, _, W' => KeepsFrom B W W' ∧ RB W W' ∧ I xs W'
  | _, _, _ => False
/-- a function that one may range over: its steps keep what J says (RI), the rounds keep its state (RB) -/
def SeqSt {α : Type} (F : Fence) (n : Nat) (P : Program) (g : Nat) (lb : Array Value) (encs : α → Array Value) (RI RB : World → World → Prop) (S : List α → Prop) (N : Nat) (w : World) : Prop :=
  ∀ (l : Nat) (J : List α → World → Prop) (W : World), RB w W → (∀ s A B, J s A → RI A B → J s B) →
    (∀ pre x W1, J pre W1 → pre.length < N → YieldAt F (n - 1) P l (encs x) W1 fun e W' => e = .returned (.bool true) ∧ J (pre ++ [x]) W' ∧ RB W1 W') →
    J [] W → CallsIn F n P g (#[.func (.yield l) #[] #[]] ++ lb) W fun e W' => (∃ v, e = .returned v) ∧ ∃ xs, S xs ∧ J xs W'

theorem wpIn_rangeSt {F : Fence} {n : Nat} {P : Program} {α : Type} {g : Operand} {ps : Array Tmp} {assign body : Code} {Q : Exit → Act → World → Prop} {a : Act} {w : World}
    (hro : F.round = none) (h1 : 1 ≤ n) {gf : Nat} {lb : Array Value} (hg : a.eval g = .func (.func gf) #[] lb) (hFg : F.fn gf) (eg : ∀ args w, (callFunc gf args).run P w = .ok (.enter gf args) w)
    {encs : α → Array Value} {RI RB : World → World → Prop} {S : List α → Prop} {N : Nat} (hseq : SeqSt F (n - 1) P gf lb encs RI RB S N w) (hps : ∀ x, (encs x).size = ps.size)
    (hIk : ∀ A B k o, RI A B → w.heap.size ≤ k → A.heap[k]? = some o → o.isCells = false → B.heap[k]? = some o)
    (hBt : ∀ {A B C : World}, RB A B → RB B C → RB A C) (hBa : ∀ o, RB w (w.alloc o)) (hBa2 : ∀ o o', RB w ((w.alloc o).alloc o')) (hBp : ∀ W l o o', W.heap[l]? = some o → o.isCells = false → w.heap.size ≤ l → RB W (W.putObj l o'))
    (I : List α → World → Prop) (hI : OwnFrom w.heap.size I) (hIs : ∀ s A B, I s A → RI A B → I s B) (h0 : I [] w) (Ax : α → Act → World → Prop) (hAx : ∀ x a', OwnFrom w.heap.size (fun (_ : Unit) W => Ax x a' W))
    (hassign : ∀ (l : Nat) (pre : List α) (x : α) (W : World) (K : Act → World → Prop), I pre W → (∀ a' W', KeepsFrom w.heap.size W W' → RB W W' → I pre W' → Ax x a' W' → K a' W') →
      assign.wpIn (F.inRound l) (n - 1 - 1) P (Exit.then K (fun _ _ _ => False)) { tmps := (ps.zip (encs x)).foldl (fun t (p, v) => t.setIfInBounds p v) a.tmps, defers := [] } W)
    (hbody : ∀ (l : Nat) (pre : List α) (x : α) (a' : Act) (W : World), I pre W → Ax x a' W → pre.length < N → body.wpIn (F.inRound l) (n - 1 - 1) P (stPost w.heap.size RB I (pre ++ [x]) W) a' W)
    (hdone : ∀ (D : Nat) (xs : List α) (W : World), w.heap.size ≤ D → S xs → I xs W → W.heap[D]? = some (.deferred (some [])) → Q .normal { a with defers := { target := .collected D, args := #[] } :: a.defers } W) :
    (Code.rangeFunc g ps assign body).wpIn F n P Q a w := by
  refine wpIn_rangeFunc fun fn hfn => ?_
  rw [hro]
  -- the loop's record, by its state
  obtain ⟨R, hR⟩ : ∃ R : LoopState → Loop, R = fun st => { state := st, pending := none, fn, tmps := a.tmps, params := ps, assign, body, defers := w.heap.size } := ⟨_, rfl⟩
  have hst : ∀ st, (R st).state = st := fun st => by rw [hR]
  have hpp : ∀ st, (R st).params = ps := fun st => by rw [hR]
  obtain ⟨s, hs⟩ : ∃ s, w.heap.size = s := ⟨_, rfl⟩
  obtain ⟨V, hV⟩ : ∃ V, (w.alloc (.deferred (some []))).alloc (.loop (R .ready)) = V := ⟨_, rfl⟩
  have kL : V.heap[s + 1]? = some (.loop (R .ready)) := by
    have := World.alloc_heap_new (w.alloc (.deferred (some []))) (.loop (R .ready))
    rw [World.size_alloc, hs, hV] at this
    exact this
  have kD : V.heap[s]? = some (.deferred (some [])) := by
    have e := World.alloc_heap_new w (.deferred (some []))
    rw [hs] at e
    rw [← hV, Below.heap_alloc _ _ s (by simp [hs])]
    exact e
  have kI : I [] V := by rw [← hV]; exact hI.alloc _ (hI.alloc _ h0)
  have kB : RB w V := by rw [← hV]; exact hBa2 _ _
  refine ⟨s + 1, [{ target := .collected s, args := #[] }], V, { target := .fn (.func gf) lb, args := #[.func (.yield (s + 1)) #[] #[]] }, V, gf, #[.func (.yield (s + 1)) #[] #[]] ++ lb, V, ?_, ?_, ?_, ?_, fun _ => h1, ?_⟩
  · have e := run_enterLoop_outer (P := P) (w := w) fn a.tmps ps assign body
    rw [hs] at e
    rw [e, ← hV, hR, hs]
  · simp only [resolve, hg]
    simp [go_sem]
  · intro f' hf'
    simp [Target.leads] at hf'
    subst hf'
    exact hFg
  · simp [invoke, go_sem, eg]
  -- a turn of the record
  have turn : ∀ {W : World} {st : LoopState} (o' : Obj), W.heap[s + 1]? = some (.loop (R st)) → RB W (W.putObj (s + 1) o') := fun o' h => hBp _ _ _ o' h rfl (by omega)
  refine (hseq (s + 1) (fun pre W => I pre W ∧ W.heap[s + 1]? = some (.loop (R .ready)) ∧ W.heap[s]? = some (.deferred (some []))) V kB
    (fun pre A B ⟨j1, j2, j3⟩ hAB => ⟨hIs _ _ _ j1 hAB, hIk _ _ _ _ hAB (by omega) j2 rfl, hIk _ _ _ _ hAB (by omega) j3 rfl⟩) ?_ ⟨kI, kL, kD⟩).mono ?_
  · rintro pre x W ⟨j1, j2, j3⟩ hlen
    have hy := run_yield (P := P) (args := encs x) j2 (by rw [hpp]; exact hps x)
    rw [hR] at hy
    refine ⟨fn, _, assign, body, hy, roundIn_of_wpIn hfn (hassign (s + 1) pre x W _ j1 fun a' W' q1 q2 q3 q4 => ?_)⟩
    have m2 := q1.same (s + 1) _ (by omega) j2 rfl
    have m3 := q1.same s _ (by omega) j3 rfl
    have hb := run_beginRound (P := P) m2 (hst _)
    have hRb : ({ R .ready with state := .busy } : Loop) = R .busy := by rw [hR]
    rw [hRb] at hb
    refine ⟨_, hb, ?_⟩
    have hlt := (Array.getElem?_eq_some_iff.1 m2).1
    obtain ⟨W2, hW2⟩ : ∃ W2, W'.putObj (s + 1) (.loop (R .busy)) = W2 := ⟨_, rfl⟩
    have n2 : W2.heap[s + 1]? = some (.loop (R .busy)) := by rw [← hW2]; exact World.putObj_heap_same hlt
    have n3 : W2.heap[s]? = some (.deferred (some [])) := by rw [← hW2]; exact (World.putObj_heap_other (by omega)).trans m3
    have nI : I pre W2 := by rw [← hW2]; exact hI.putObj _ q3 (by omega) m2 rfl
    have nA : Ax x a' W2 := by rw [← hW2]; exact (hAx x a').putObj (s := ()) _ q4 (by omega) m2 rfl
    have nB : RB W' W2 := by rw [← hW2]; exact turn _ m2
    rw [hW2]
    refine wpIn_mono (hbody (s + 1) pre x a' W2 nI nA hlen) ?_
    intro e a3 W3 hp
    cases e with
    | normal =>
      obtain ⟨r1, r2, r3⟩ := hp
      have t2 := r1.same (s + 1) _ (by omega) n2 rfl
      have t3 := r1.same s _ (by omega) n3 rfl
      have he := run_endRound (P := P) none t2
      have hRr : ({ R .busy with state := if (none : Option Code).isNone then .ready else .done, pending := none } : Loop) = R .ready := by rw [hR]; rfl
      rw [hRr] at he
      have hlt3 := (Array.getElem?_eq_some_iff.1 t2).1
      exact ⟨_, _, he, rfl, ⟨hI.putObj _ r3 (by omega) t2 rfl, World.putObj_heap_same hlt3, (World.putObj_heap_other (by omega)).trans t3⟩, hBt q2 (hBt nB (hBt r2 (turn _ t2)))⟩
    | ret => exact hp.elim
    | exit id => exact hp.elim
    | goto t => exact hp.elim
    | panic ch => exact hp.elim
    | outgrown => exact hp.elim
  · rintro e W ⟨⟨v, rfl⟩, xs, hS, j1, j2, j3⟩
    have he := run_endLoop (P := P) j2 (by rw [hst]; simp)
    have hpn : (R .ready).pending = none := by rw [hR]
    rw [hpn] at he
    exact ⟨none, _, he, hdone s xs _ (by omega) hS (hI.putObj _ j1 (by omega) j2 rfl) ((World.putObj_heap_other (by omega)).trans j3)⟩
end Go
