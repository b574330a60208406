/- A region that draws its order, by what its operations tell; plain facts of a round of Open; what lies in memory while a table's text is read. -/
import Derived.Test.YtoglloafpnopaaaGreatTA
import Derived.Test.YtoglloafpnopaaaGreatRoundS
import Derived.Test.YtoglloafpnopaaaGreatTN
set_option linter.unusedSimpArgs false
set_option linter.unusedVariables false
namespace Go
open Go.RowKit
def Code.opsOf : Code → Nat → List Oper
 | .region i ops _, k => if i == k then ops.toList else []
 | .seq a b, k => a.opsOf k ++ b.opsOf k
 | .cond _ a b, k => a.opsOf k ++ b.opsOf k
 | .block _ c, k => c.opsOf k
 | .loop c, k => c.opsOf k
 | .scope c, k => c.opsOf k
 | .rangeFunc _ _ a b, k => a.opsOf k ++ b.opsOf k
 | _, _ => []
def Func.opsAt (f : Func) (k : Nat) : List Oper := match f.body with
 | some c => c.opsOf k
 | none => []
theorem wp_region_same {P : Program} {id : Nat} {l l' : List Oper} {b : Bool} {Q : Exit → Act → World → Prop} {a : Act} {w : World} (h : l = l') (h2 : (Code.region id l'.toArray b).wp P Q a w) : (Code.region id l.toArray b).wp P Q a w := by
 rw [h]
 exact h2
section
variable {F : Fence} {n : Nat} {P : Program} {ops : Array Oper} {Q : Exit → Act → World → Prop} {md : Region.Mode}
def dstOf (ops : Array Oper) (i : Nat) : Option Tmp := (ops[i]?).bind (·.dst)
def fillL (vs : Nat → Value) : List (Nat × Option Tmp) → Act → Act
 | [], a => a
 | (j, d) :: l, a => fillL vs l (a.put d (vs j))
def pairsR (ops : Array Oper) (ok : Nat → Bool) : Nat → List (Nat × Option Tmp)
 | 0 => []
 | k + 1 => if ok k then pairsR ops ok k ++ [(k, dstOf ops k)] else pairsR ops ok k
theorem fillL_app (vs : Nat → Value) (m : List (Nat × Option Tmp)) : ∀ (l : List (Nat × Option Tmp)) (a : Act), fillL vs (l ++ m) a = fillL vs m (fillL vs l a)
 | [], _ => rfl
 | (j, d) :: l, a => fillL_app vs m l (a.put d (vs j))
theorem put_size (a : Act) (d : Option Tmp) (v : Value) : (a.put d v).tmps.size = a.tmps.size := by
 cases d <;> simp [Act.put]
theorem fillL_size (vs : Nat → Value) : ∀ (l : List (Nat × Option Tmp)) (a : Act), (fillL vs l a).tmps.size = a.tmps.size
 | [], _ => rfl
 | (j, d) :: l, a => (fillL_size vs l _).trans (put_size a d _)
theorem put_defers (a : Act) (d : Option Tmp) (v : Value) : (a.put d v).defers = a.defers := by
 cases d <;> rfl
theorem put_at_ne (a : Act) (d : Option Tmp) (v : Value) (t : Nat) (h : d ≠ some t) : (a.put d v).tmps[t]? = a.tmps[t]? := by
 cases d with
 | none => rfl
 | some e =>
   have : e ≠ t := fun h' => h (by rw [h'])
   simp [Act.put, Array.getElem?_setIfInBounds_ne this]
theorem fillL_not (vs : Nat → Value) (t : Nat) : ∀ (l : List (Nat × Option Tmp)) (a : Act), (∀ p ∈ l, p.2 ≠ some t) → (fillL vs l a).tmps[t]? = a.tmps[t]?
 | [], _, _ => rfl
 | (j, d) :: l, a, h => (fillL_not vs t l _ fun p hp => h p (by simp [hp])).trans (put_at_ne a d _ t (h (j, d) (by simp)))
theorem fillL_at (vs : Nat → Value) (t j : Nat) : ∀ (l : List (Nat × Option Tmp)) (a : Act), (j, some t) ∈ l → (∀ p ∈ l, p.2 = some t → p.1 = j) → (fillL vs l a).tmps[t]? = if t < a.tmps.size then some (vs j) else none
 | [], _, h, _ => by cases h
 | (j', d) :: l, a, h, hu => by
   show (fillL vs l (a.put d (vs j'))).tmps[t]? = _
   by_cases hm : (j, some t) ∈ l
   · rw [fillL_at vs t j l _ hm fun p hp => hu p (by simp [hp]), put_size]
   · rcases List.mem_cons.1 h with h | h
     · cases h
       rw [fillL_not vs t l _ fun p hp e => hm (by
        have h1 := hu p (by simp [hp]) e
        obtain ⟨p1, p2⟩ := p
        cases h1
        cases e
        exact hp)]
       by_cases hs : t < a.tmps.size
       · simp [Act.put, hs]
       · simp [Act.put, hs]
     · exact absurd h hm
theorem mem_pairs {ok : Nat → Bool} {j : Nat} {d : Option Tmp} : ∀ {k : Nat}, (j, d) ∈ pairsR ops ok k ↔ j < k ∧ ok j = true ∧ d = dstOf ops j
 | 0 => by simp [pairsR]
 | k + 1 => by
   unfold pairsR
   by_cases hk : ok k = true
   · rw [if_pos hk, List.mem_append, mem_pairs, List.mem_singleton]
     constructor
     · rintro (⟨h1, h2, h3⟩ | h)
       · exact ⟨by omega, h2, h3⟩
       · cases h
         exact ⟨by omega, hk, rfl⟩
     · rintro ⟨h1, h2, h3⟩
       by_cases e : j = k
       · subst e
         exact .inr (by rw [h3])
       · exact .inl ⟨by omega, h2, h3⟩
   · rw [if_neg hk, mem_pairs]
     constructor
     · rintro ⟨h1, h2, h3⟩
       exact ⟨by omega, h2, h3⟩
     · rintro ⟨h1, h2, h3⟩
       by_cases e : j = k
       · subst e
         exact absurd h2 hk
       · exact ⟨by omega, h2, h3⟩
def updV (vs : Nat → Value) (i : Nat) (v : Value) : Nat → Value := fun j => if j = i then v else vs j
theorem fillL_congr {vs vs' : Nat → Value} : ∀ (l : List (Nat × Option Tmp)) (a : Act), (∀ p ∈ l, vs p.1 = vs' p.1) → fillL vs l a = fillL vs' l a
 | [], _, _ => rfl
 | (j, d) :: l, a, h => by
   show fillL vs l (a.put d (vs j)) = fillL vs' l (a.put d (vs' j))
   rw [h (j, d) (by simp)]
   exact fillL_congr l _ fun p hp => h p (by simp [hp])
theorem fill_more (vs : Nat → Value) {ok ok' : Nat → Bool} {i : Nat} (v : Value) (a : Act) (h0 : ok i = false) (h1 : ok' i = true) (h2 : ∀ j, j ≠ i → ok' j = ok j) (hd : ∀ j, j ≠ i → ∀ d, dstOf ops i = some d → dstOf ops j ≠ some d) :
 ∀ k, (k ≤ i → pairsR ops ok' k = pairsR ops ok k) ∧ (i < k → fillL (updV vs i v) (pairsR ops ok' k) a = (fillL vs (pairsR ops ok k) a).put (dstOf ops i) v)
 | 0 => ⟨fun _ => rfl, fun h => by omega⟩
 | k + 1 => by
   obtain ⟨e1, e2⟩ := fill_more vs v a h0 h1 h2 hd k
   refine ⟨fun h => ?_, fun h => ?_⟩
   · unfold pairsR
     rw [h2 k (by omega), e1 (by omega)]
   · by_cases e : k = i
     · subst e
       unfold pairsR
       rw [if_pos h1, if_neg (by rw [h0]; exact Bool.false_ne_true), fillL_app, e1 (Nat.le_refl _)]
       have e3 : fillL (updV vs k v) (pairsR ops ok k) a = fillL vs (pairsR ops ok k) a := fillL_congr _ _ fun p hp => by
        obtain ⟨j, d⟩ := p
        have := (mem_pairs.1 hp).1
        show (if j = k then v else vs j) = vs j
        rw [if_neg (by omega)]
       rw [e3]
       show Act.put _ _ (updV vs k v k) = _
       rw [show updV vs k v k = v from if_pos rfl]
     · have e3 := e2 (by omega)
       unfold pairsR
       rw [h2 k e]
       by_cases hk : ok k = true
       · rw [if_pos hk, if_pos hk, fillL_app, fillL_app, e3]
         show Act.put (Act.put _ _ v) _ (updV vs i v k) = Act.put (Act.put _ _ (vs k)) _ v
         rw [show updV vs i v k = vs k from if_neg e]
         exact Act.put_comm _ _ _ fun d hd' => hd k e d hd'
       · rw [if_neg hk, if_neg hk, e3]
def SameAt (ops : Array Oper) (o : Oper) (a a' : Act) : Prop := ∀ t ∈ o.looksAt ops, a.tmps[t]? = a'.tmps[t]?
theorem SameAt.eval {o : Oper} {a a' : Act} (h : SameAt ops o a a') (x : Operand) (hx : x ∈ o.op.operands) : a.eval x = a'.eval x := by
 cases x with
 | tmp t =>
   have ht : t ∈ o.looksAt ops := List.mem_append_left _ (List.mem_filterMap.2 ⟨.tmp t, by simpa using hx, rfl⟩)
   show a.tmps.getD t undef = a'.tmps.getD t undef
   rw [Array.getD_eq_getD_getElem?, Array.getD_eq_getD_getElem?, h t ht]
 | _ => rfl
theorem SameAt.wanted {o : Oper} {a a' : Act} (h : SameAt ops o a a') : Region.wanted o (yielded ops a.tmps) = Region.wanted o (yielded ops a'.tmps) := by
 unfold Region.wanted
 cases hg : o.guard with
 | none => rfl
 | some gw =>
   obtain ⟨g, want⟩ := gw
   have hy : yielded ops a.tmps g = yielded ops a'.tmps g := by
    unfold yielded
    cases ht : (ops[g]?).bind (·.dst) with
    | none => rfl
    | some t =>
      have h1 : t ∈ o.looksAt ops := List.mem_append_right _ (by simp [hg, ht])
      simp only [Option.bind_some, h t h1]
   simp only [hy]
theorem put_same {A A2 : Act} (hs : A.tmps.size = A2.tmps.size) {d : Option Tmp} {u v : Value} (h : A.put d u = A.put d v) : A2.put d u = A2.put d v := by
 cases d with
 | none => rfl
 | some t =>
   by_cases ht : t < A.tmps.size
   · have h1 : (A.put (some t) u).tmps[t]? = (A.put (some t) v).tmps[t]? := by rw [h]
     simp [Act.put, ht] at h1
     rw [h1]
   · have h2 : ¬ t < A2.tmps.size := fun h' => ht (hs ▸ h')
     simp only [Act.put, Array.setIfInBounds, h2, dif_neg, not_false_eq_true]
def OnlyOut (Q : Exit → Act → World → Prop) : Exit → Act → World → Prop
 | .outgrown, a, w => Q .outgrown a w
 | _, _, _ => False
theorem uponIn_turn {o : Oper} {A A2 : Act} {K K2 : Act → World → Prop} {r : Result Next} {Rv : Value → World → Prop} (hs : A.tmps.size = A2.tmps.size)
 (hK : ∀ a' w', K a' w' → ∃ v, a' = A.put o.dst v ∧ Rv v w') (hK2 : ∀ v w', Rv v w' → K2 (A2.put o.dst v) w') (h : o.uponIn F n P A K (OnlyOut Q) r) : o.uponIn F n P A2 K2 Q r := by
 have key : ∀ u w', K (A.put o.dst u) w' → K2 (A2.put o.dst u) w' := fun u w' h => by
  obtain ⟨v, h1, h2⟩ := hK _ _ h
  rw [put_same hs h1]
  exact hK2 v w' h2
 match r, h with
 | .ok (.value u) w', h => exact key u w' h
 | .ok .skip w', h => exact key undef w' h
 | .ok (.defer d) w', h =>
   obtain ⟨v, h1, -⟩ := hK _ _ h
   have h2 := congrArg Act.defers h1
   rw [put_defers, put_defers] at h2
   have h3 := congrArg List.length h2
   simp at h3
 | .ok (.enter f args) w', h => exact ⟨h.1, h.2.mono fun e w'' he => by
    cases e with
    | returned u => exact key u w'' he
    | panicked c => exact he.elim
    | outgrown => exact he⟩
 | .ok (.row row args) w', h => exact ⟨h.1, h.2.mono key⟩
 | .ok (.round l f tmps asg body) w', h => exact ⟨h.1, h.2.mono fun e w'' he => by
    cases e with
    | returned u => exact key u w'' he
    | panicked c => exact he.elim
    | outgrown => exact he⟩
 | .halt (.panic u) w', h => exact h.elim
def OneR (F : Fence) (n : Nat) (P : Program) (ops : Array Oper) (Q : Exit → Act → World → Prop) (Rs : Nat → Value → World → Prop) (a0 : Act) (w0 : World) (i : Nat) (o : Oper) (D : List (Nat × Option Tmp)) : Prop :=
 ∀ (vs : Nat → Value) (w : World), Below w0.heap.size w0 w → (∀ p ∈ D, Rs p.1 (vs p.1) w) → ∀ K : Act → World → Prop, (∀ a' v w', a' = (fillL vs D a0).put o.dst v → Below w.heap.size w w' → Rs i v w' → K a' w') →
  if Region.wanted o (yielded ops (fillL vs D a0).tmps) then o.wpIn F n P (fillL vs D a0) w K (OnlyOut Q) else (∀ f, o.about P w (fillL vs D a0).eval = some f → F.fn f) ∧ K ((fillL vs D a0).put o.dst undef) w
def okR (md : Region.Mode) (ops : Array Oper) (Ds : List (List (Nat × Option Tmp))) : Bool :=
 plainOps ops && (List.range ops.size).all fun i => match ops[i]? with
  | none => false
  | some o => (o.after.all fun e => !Region.binds md e || decide (e.on < i)) &&
    ((Ds.getD i []).all fun p => (o.after.any fun e => Region.binds md e && e.on == p.1) && p.2 == dstOf ops p.1) &&
    ((List.range ops.size).all fun j => match dstOf ops j with
      | none => true
      | some d => (j == i || dstOf ops i != some d) && (!(o.looksAt ops).contains d || (Ds.getD i []).any fun p => p.1 == j))
theorem okR_spec {Ds : List (List (Nat × Option Tmp))} (h : okR md ops Ds = true) : plainOps ops = true ∧ ∀ i o, ops[i]? = some o → (∀ e ∈ o.after, Region.binds md e = true → e.on < i) ∧
 (∀ p ∈ Ds.getD i [], (∃ e ∈ o.after, Region.binds md e = true ∧ e.on = p.1) ∧ p.2 = dstOf ops p.1) ∧
 ∀ j d, dstOf ops j = some d → (j = i ∨ dstOf ops i ≠ some d) ∧ (d ∉ o.looksAt ops ∨ ∃ p ∈ Ds.getD i [], p.1 = j) := by
 unfold okR at h
 rw [Bool.and_eq_true] at h
 refine ⟨h.1, fun i o ho => ?_⟩
 have hi : i < ops.size := (Go.ltA ho)
 have h1 := List.all_eq_true.1 h.2 i (List.mem_range.2 hi)
 simp only [ho, Bool.and_eq_true] at h1
 obtain ⟨⟨h1, h2⟩, h3⟩ := h1
 refine ⟨fun e he hb => ?_, fun p hp => ?_, fun j d hd => ?_⟩
 · have := Array.all_eq_true_iff_forall_mem.1 h1 e he
   rw [hb] at this
   simpa using this
 · have := List.all_eq_true.1 h2 p hp
   simp only [Bool.and_eq_true, beq_iff_eq] at this
   obtain ⟨h4, h5⟩ := this
   obtain ⟨e, he, hb⟩ := Array.any_eq_true'.1 h4
   simp only [Bool.and_eq_true, beq_iff_eq] at hb
   exact ⟨⟨e, he, hb.1, hb.2⟩, h5⟩
 · have hj : j < ops.size := by
    unfold dstOf at hd
    cases hoj : ops[j]? with
    | none => rw [hoj] at hd; cases hd
    | some oj => exact (Go.ltA hoj)
   have := List.all_eq_true.1 h3 j (List.mem_range.2 hj)
   simp only [hd, Bool.and_eq_true, Bool.or_eq_true, beq_iff_eq, bne_iff_ne, ne_eq, Bool.not_eq_true', List.any_eq_true] at this
   refine ⟨this.1, ?_⟩
   rcases this.2 with h4 | ⟨p, hp, h5⟩
   · exact .inl (by simpa using h4)
   · exact .inr ⟨p, hp, h5⟩
def unlR (listed : Array Bool) : Nat → Nat
 | 0 => 0
 | k + 1 => unlR listed k + if listed.getD k true then 0 else 1
theorem unlR_same {listed : Array Bool} {i : Nat} : ∀ {k : Nat}, k ≤ i → unlR (listed.setIfInBounds i true) k = unlR listed k
 | 0, _ => rfl
 | k + 1, h => by
   unfold unlR
   rw [unlR_same (by omega), getD_set_ne true (by omega)]
theorem unlR_set {listed : Array Bool} {i : Nat} (hi : listed.getD i true = false) : ∀ {k : Nat}, i < k → unlR (listed.setIfInBounds i true) k + 1 = unlR listed k
 | 0, h => by omega
 | k + 1, h => by
   unfold unlR
   by_cases e : k = i
   · subst e
     have hs : k < listed.size := by
      rcases Nat.lt_or_ge k listed.size with h' | h'
      · exact h'
      · simp [Array.getElem?_eq_none h'] at hi
     rw [unlR_same (Nat.le_refl _), hi]
     simp [hs]
   · rw [getD_set_ne true (Ne.symm e), ← unlR_set hi (show i < k by omega)]
     omega
theorem unlR_zero {listed : Array Bool} : ∀ {k : Nat}, unlR listed k = 0 → ∀ j, j < k → listed.getD j true = true
 | 0, _, j, hj => by omega
 | k + 1, h, j, hj => by
   unfold unlR at h
   by_cases e : j = k
   · subst e
     cases hl : listed.getD j true with
     | true => rfl
     | false => rw [hl] at h; simp at h
   · have h0 : unlR listed k = 0 := Nat.eq_zero_of_add_eq_zero_right h
     exact unlR_zero h0 j (by omega)
theorem getD_tf {listed : Array Bool} {j : Nat} (hs : j < listed.size) : listed.getD j true = listed.getD j false := by
 simp [hs]
theorem AnyR.all {Ds : List (List (Nat × Option Tmp))} {Rs : Nat → Value → World → Prop} {a0 : Act} {w0 : World} (hk : okR md ops Ds = true)
 (hm : ∀ i v w w', Below w.heap.size w w' → Rs i v w → Rs i v w')
 (hs : ∀ i o, ops[i]? = some o → OneR F n P ops Q Rs a0 w0 i o (Ds.getD i []))
 (he : ∀ vs w', Below w0.heap.size w0 w' → (∀ i, i < ops.size → Rs i (vs i) w') → Q .normal (fillL vs (pairsR ops (fun _ => true) ops.size) a0) w') :
 ∀ (fuel : Nat) (listed : Array Bool) (vs : Nat → Value) (w : World), listed.size = ops.size → unlR listed ops.size ≤ fuel → Below w0.heap.size w0 w → (∀ j, j < ops.size → listed.getD j false = true → Rs j (vs j) w) →
  wpAnyIn F n P md ops Q fuel listed (fillL vs (pairsR ops (fun j => listed.getD j false) ops.size) a0) w := by
 obtain ⟨hp, hsp⟩ := okR_spec hk
 have hend : ∀ (listed : Array Bool) (vs : Nat → Value) (w : World), listed.size = ops.size → Region.ready md ops listed = [] → Below w0.heap.size w0 w → (∀ j, j < ops.size → listed.getD j false = true → Rs j (vs j) w) → Q .normal (fillL vs (pairsR ops (fun j => listed.getD j false) ops.size) a0) w := by
  intro listed vs w hsz hr hb hR
  have hall : ∀ j, j < ops.size → listed.getD j false = true := by
   intro j
   induction j using Nat.strongRecOn with
   | ind j ih =>
     intro hj
     cases hl : listed.getD j false with
     | true => rfl
     | false =>
       exfalso
       have hoj : ops[j]? = some ops[j] := Array.getElem?_eq_getElem hj
       have hmem : j ∈ Region.ready md ops listed := mem_ready.2 ⟨by rw [getD_tf (by omega)]; exact hl, _, hoj, fun e hem heb => ih e.on ((hsp j _ hoj).1 e hem heb) (by have := (hsp j _ hoj).1 e hem heb; omega)⟩
       rw [hr] at hmem
       cases hmem
  have hpe : pairsR ops (fun j => listed.getD j false) ops.size = pairsR ops (fun _ => true) ops.size := by
   have : ∀ k, k ≤ ops.size → pairsR ops (fun j => listed.getD j false) k = pairsR ops (fun _ => true) k := by
    intro k
    induction k with
    | zero => intro _; rfl
    | succ k ih =>
      intro hk
      unfold pairsR
      rw [ih (by omega), hall k (by omega)]
   exact this _ (Nat.le_refl _)
  rw [hpe]
  exact he vs w hb fun i hi => hR i hi (hall i hi)
 intro fuel
 induction fuel with
 | zero =>
   intro listed vs w hsz hu hb hR
   have hr : Region.ready md ops listed = [] := by
    cases hrr : Region.ready md ops listed with
    | nil => rfl
    | cons x xs =>
      have hx : x ∈ Region.ready md ops listed := by rw [hrr]; simp
      obtain ⟨h1, o, ho, -⟩ := mem_ready.1 hx
      have h2 := unlR_zero (show unlR listed ops.size = 0 by omega) x (Go.ltA ho)
      rw [h1] at h2
      cases h2
   exact ⟨hr, hend listed vs w hsz hr hb hR⟩
 | succ fuel ih =>
   intro listed vs w hsz hu hb hR
   refine ⟨fun hr => hend listed vs w hsz hr hb hR, fun i hi => ?_⟩
   obtain ⟨hun, o, ho, hall⟩ := mem_ready.1 hi
   have hil : i < ops.size := (Go.ltA ho)
   obtain ⟨q1, q2, q3⟩ := hsp i o ho
   have hDl : ∀ p ∈ Ds.getD i [], p.1 < ops.size ∧ listed.getD p.1 false = true ∧ p.2 = dstOf ops p.1 := fun p hp => by
    obtain ⟨⟨e, he1, he2, he3⟩, h4⟩ := q2 p hp
    have h5 := q1 e he1 he2
    have h6 := hall e he1 he2
    rw [he3] at h5 h6
    exact ⟨by omega, h6, h4⟩
   have hone := hs i o ho vs w hb (fun p hp => hR p.1 (hDl p hp).1 (hDl p hp).2.1) (fun a' w' => ∃ v, a' = (fillL vs (Ds.getD i []) a0).put o.dst v ∧ (Below w.heap.size w w' ∧ Rs i v w')) (fun a' v w' h1 h2 h3 => ⟨v, h1, h2, h3⟩)
   have hsame : SameAt ops o (fillL vs (Ds.getD i []) a0) (fillL vs (pairsR ops (fun j => listed.getD j false) ops.size) a0) := by
    intro t ht
    by_cases hex : ∃ j, dstOf ops j = some t
    · obtain ⟨j, hj⟩ := hex
      have huq : ∀ k, dstOf ops k = some t → k = j := fun k hk' => by
       have hok : ∃ ok, ops[k]? = some ok := by
        unfold dstOf at hk'
        cases hq : ops[k]? with
        | none => rw [hq] at hk'; cases hk'
        | some ok => exact ⟨ok, rfl⟩
       obtain ⟨ok, hok⟩ := hok
       rcases ((hsp k ok hok).2.2 j t hj).1 with h | h
       · exact h.symm
       · exact absurd hk' h
      rcases (q3 j t hj).2 with h | ⟨p, hpm, hpj⟩
      · exact absurd ht h
      · obtain ⟨l1, l2, l3⟩ := hDl p hpm
        obtain ⟨p1, p2⟩ := p
        cases hpj
        dsimp only at l1 l2 l3
        rw [hj] at l3
        subst l3
        rw [fillL_at vs t p1 (Ds.getD i []) a0 hpm (fun p' hp' e => huq _ (by rw [← (hDl p' hp').2.2]; exact e)),
         fillL_at vs t p1 (pairsR ops (fun j => listed.getD j false) ops.size) a0 (mem_pairs.2 ⟨l1, l2, hj.symm⟩) (fun p' hp' e => by
          obtain ⟨k, d⟩ := p'
          have := (mem_pairs.1 hp').2.2
          exact huq k (by rw [← this]; exact e))]
    · rw [fillL_not vs t _ a0 (fun p hp e => hex ⟨p.1, by rw [← (hDl p hp).2.2]; exact e⟩), fillL_not vs t _ a0 (fun p hp e => by
       obtain ⟨k, d⟩ := p
       have := (mem_pairs.1 hp).2.2
       exact hex ⟨k, by rw [← this]; exact e⟩)]
   have hdo : dstOf ops i = o.dst := by unfold dstOf; rw [ho]; rfl
   have hnf : listed.getD i false = false := by rw [← getD_tf (by omega)]; exact hun
   have hmore : ∀ v, fillL (updV vs i v) (pairsR ops (fun j => (listed.setIfInBounds i true).getD j false) ops.size) a0 = (fillL vs (pairsR ops (fun j => listed.getD j false) ops.size) a0).put o.dst v := fun v => by
    rw [← hdo]
    refine (fill_more vs v a0 (ok := fun j => listed.getD j false) (ok' := fun j => (listed.setIfInBounds i true).getD j false) hnf ?_ ?_ ?_ ops.size).2 hil
    · simp [show i < listed.size by omega]
    · intro j hj
      exact getD_set_ne false (Ne.symm hj)
    · intro j hj d hd hd2
      rcases (q3 j d hd2).1 with h | h
      · exact hj h
      · exact h hd
   have hnext : ∀ v w', (Below w.heap.size w w' ∧ Rs i v w') → wpAnyIn F n P md ops Q fuel (listed.setIfInBounds i true) ((fillL vs (pairsR ops (fun j => listed.getD j false) ops.size) a0).put o.dst v) w' := by
    rintro v w' ⟨hb', hr'⟩
    rw [← hmore v]
    refine ih (listed.setIfInBounds i true) (updV vs i v) w' (by simpa using hsz) (by have := unlR_set (listed := listed) hun hil; omega) (hb.trans (hb'.mono hb.size)) fun j hj hl => ?_
    by_cases e : j = i
    · subst e
      rw [show updV vs j v j = v from if_pos rfl]
      exact hr'
    · rw [show updV vs i v j = vs j from if_neg e]
      rw [getD_set_ne false (Ne.symm e)] at hl
      exact hm j _ w w' hb' (hR j hj hl)
   obtain ⟨hnd, hns⟩ := plainOps_spec hp ho
   have hex := execOp_congr (ρ := (fillL vs (Ds.getD i []) a0).eval) (ρ' := (fillL vs (pairsR ops (fun j => listed.getD j false) ops.size) a0).eval) o hns fun x hx => hsame.eval x hx
   have hab := fun w => about_congr (P := P) (ρ := (fillL vs (Ds.getD i []) a0).eval) (ρ' := (fillL vs (pairsR ops (fun j => listed.getD j false) ops.size) a0).eval) o w fun x hx => hsame.eval x hx
   have hwa := hsame.wanted
   rw [wpOpIn_plain hp ho, ← hex, ← hab w, ← hwa]
   have hsz2 : (fillL vs (Ds.getD i []) a0).tmps.size = (fillL vs (pairsR ops (fun j => listed.getD j false) ops.size) a0).tmps.size := by rw [fillL_size, fillL_size]
   by_cases hw : Region.wanted o (yielded ops (fillL vs (Ds.getD i []) a0).tmps) = true
   · rw [if_pos hw] at hone ⊢
     unfold Oper.wpIn at hone
     rw [Oper.semAt_eq _ _ _ hnd] at hone
     exact ⟨hone.1, uponIn_turn hsz2 (fun a' w' h => h) hnext hone.2⟩
   · rw [if_neg hw] at hone ⊢
     obtain ⟨h1, v, h2, h3⟩ := hone
     refine ⟨h1, ?_⟩
     rw [put_same hsz2 h2]
     exact hnext v w h3
def StepsR (F : Fence) (n : Nat) (P : Program) (ops : Array Oper) (Q : Exit → Act → World → Prop) (Rs : Nat → Value → World → Prop) (a0 : Act) (w0 : World) : List Oper → List (List (Nat × Option Tmp)) → Nat → Prop
 | [], _, _ => True
 | _ :: _, [], _ => False
 | o :: os, D :: Ds, i => OneR F n P ops Q Rs a0 w0 i o D ∧ StepsR F n P ops Q Rs a0 w0 os Ds (i + 1)
theorem StepsR.at {Rs : Nat → Value → World → Prop} {a0 : Act} {w0 : World} : ∀ {os : List Oper} {Ds : List (List (Nat × Option Tmp))} {k : Nat}, StepsR F n P ops Q Rs a0 w0 os Ds k → ∀ i o, os[i]? = some o → OneR F n P ops Q Rs a0 w0 (k + i) o (Ds.getD i [])
 | [], _, _, _, i, o, h => by simp at h
 | _ :: _, [], _, hs, _, _, _ => hs.elim
 | o :: os, D :: Ds, k, hs, 0, o', h => by
   obtain rfl : o = o' := by simpa using h
   exact hs.1
 | o :: os, D :: Ds, k, hs, i + 1, o', h => by
   have h1 := StepsR.at (os := os) (Ds := Ds) (k := k + 1) hs.2 i o' (by simpa using h)
   rw [show k + (i + 1) = k + 1 + i by omega]
   exact h1
def MonoR (r : Value → World → Prop) : Prop := ∀ v w w', Below w.heap.size w w' → r v w → r v w'
theorem MonoR.is (x : Value) : MonoR (fun v _ => v = x) := fun _ _ _ _ h => h
def MonosR : List (Value → World → Prop) → Prop
 | [] => True
 | r :: rs => MonoR r ∧ MonosR rs
theorem MonosR.at : ∀ {rs : List (Value → World → Prop)}, MonosR rs → ∀ i, MonoR (rs.getD i (fun _ _ => True))
 | [], _, _ => fun _ _ _ _ _ => trivial
 | r :: rs, h, 0 => h.1
 | r :: rs, h, i + 1 => MonosR.at (rs := rs) h.2 i
theorem wpIn_region_rel {id : Nat} {l : List Oper} {a : Act} {w : World} (Ds : List (List (Nat × Option Tmp))) (Rs : List (Value → World → Prop)) (AP : List (Nat × Option Tmp)) (hm : P.follows .mixedOrders = true) (hk : okR .any l.toArray Ds = true) (hA : pairsR l.toArray (fun _ => true) l.toArray.size = AP)
 (hR : MonosR Rs)
 (hs : StepsR F n P l.toArray Q (fun i => Rs.getD i (fun _ _ => True)) a w.drew l Ds 0)
 (he : ∀ vs w', Below w.drew.heap.size w.drew w' → (∀ i, i < l.toArray.size → Rs.getD i (fun _ _ => True) (vs i) w') → Q .normal (fillL vs AP a) w') : (Code.region id l.toArray true).wpIn F n P Q a w := by
 refine wpIn_region_any hm ?_
 have h := AnyR.all (F := F) (n := n) (P := P) (Q := Q) (md := .any) (ops := l.toArray) (a0 := a) (w0 := w.drew) (Rs := fun i => Rs.getD i (fun _ _ => True)) hk (fun i v w w' hb hr => hR.at i v w w' hb hr)
  (fun i o ho => by
    have := hs.at i o (by simpa using ho)
    rwa [Nat.zero_add] at this) (fun vs w' h1 h2 => by rw [hA]; exact he vs w' h1 h2) l.toArray.size (Array.replicate l.toArray.size false) (fun _ => undef) w.drew (by simp) (by
    have : ∀ k, unlR (Array.replicate l.toArray.size false) k ≤ k := by
     intro k
     induction k with
     | zero => exact Nat.le_refl _
     | succ k ih =>
       unfold unlR
       split <;> omega
    exact this _) (Below.refl _ _) (fun j hj hl => by
     rw [Array.getD_eq_getD_getElem?, Array.getElem?_replicate] at hl
     split at hl <;> cases hl)
 have e : pairsR l.toArray (fun j => (Array.replicate l.toArray.size false).getD j false) l.toArray.size = [] := by
  have : ∀ k, pairsR l.toArray (fun j => (Array.replicate l.toArray.size false).getD j false) k = [] := by
   intro k
   induction k with
   | zero => rfl
   | succ k ih =>
     unfold pairsR
     rw [ih, if_neg]
     rw [Array.getD_eq_getD_getElem?, Array.getElem?_replicate]
     split <;> exact Bool.false_ne_true
  exact this _
 rw [e] at h
 exact h
end
end Go
namespace Go.Proofs.YtoglloafpnopaaaGreat
set_option maxRecDepth 16000
open Go.RowKit Spoor
theorem tA_le {l : List UInt8} {a : Nat} (h : a ≤ l.length) : tA a (getText (l.drop a)) ≤ l.length := by
 cases e : getText (l.drop a) with
 | none => exact Nat.zero_le _
 | some r => obtain ⟨t, k⟩ := r; exact (bk_getText e h).1
theorem gA_le {l : List UInt8} {a : Nat} : gA a (get (l.drop a)) ≤ l.length := by
 cases e : get (l.drop a) with
 | none => exact Nat.zero_le _
 | some r => obtain ⟨n, k⟩ := r; exact (bk_get e).1
theorem gN_le {l : List UInt8} {a : Nat} : gN (get (l.drop a)) ≤ 9223372036854775807 := by
 cases e : get (l.drop a) with
 | none => exact Nat.zero_le _
 | some r => obtain ⟨n, k⟩ := r; exact (bk_get e).2.1
def rKey (index : List UInt8) (ia : Nat) : List UInt8 := tT (getText (index.drop ia))
def rNum (index : List UInt8) (ia : Nat) : Nat := gN (get (index.drop (tA ia (getText (index.drop ia)))))
def rNext (index : List UInt8) (ia : Nat) : Nat := gA (tA ia (getText (index.drop ia))) (get (index.drop (tA ia (getText (index.drop ia)))))
def rBad (index : List UInt8) (ia : Nat) : Bool := !gO (getText (index.drop ia)) || !gO (get (index.drop (tA ia (getText (index.drop ia)))))
theorem rNext_le {index : List UInt8} {ia : Nat} : rNext index ia ≤ index.length := gA_le
theorem rNum_le {index : List UInt8} {ia : Nat} : rNum index ia ≤ 9223372036854775807 := gN_le
structure StepOk (data index : List UInt8) (n ia da : Nat) (p : Option Ce) (g : List Ce) : Prop where
 bad : rBad index ia = false
 ok : tkOk da false data (rNum index ia) = true
 sum : tkSum da data (rNum index ia) = true
 dec : decB (tkS da data (rNum index ia)) = some g
 ne : g ≠ []
 key : keyG g = rKey index ia
 four : n = 0 ∨ g.length = 4
 most : g.length ≤ 4
 sorted : sortedFrom p g = true
theorem openL_good {data index : List UInt8} {n ia da : Nat} {p : Option Ce} {g : List Ce} (h : StepOk data index n ia da p g) :
 openL data index (n + 1) ia da p = (openL data index n (rNext index ia) (da + rNum index ia + 4) (lastOr p g)).map fun r => (g :: r.1, r.2) := by
 obtain ⟨h1, h2, h3, h4, h5, h6, h7, h8, h9⟩ := h
 unfold rBad at h1
 unfold rKey at h6
 unfold rNext rNum at *
 simp only [Bool.or_eq_false_iff, Bool.not_eq_false'] at h1
 cases e1 : getText (index.drop ia) with
 | none => rw [e1] at h1; simp [gO] at h1
 | some r1 =>
   obtain ⟨key, k1⟩ := r1
   rw [e1] at h1 h2 h3 h4 h6
   simp only [tA, tT] at h1 h2 h3 h4 h6 ⊢
   cases e2 : get (index.drop (ia + k1)) with
   | none => rw [e2] at h1; simp [gO] at h1
   | some r2 =>
     obtain ⟨m, k2⟩ := r2
     rw [e2] at h1 h2 h3 h4
     simp only [gN, gA] at h2 h3 h4 ⊢
     unfold tkOk at h2
     unfold tkSum tkS at h3
     unfold tkS at h4
     simp only [Bool.not_false, Bool.true_and, decide_eq_true_eq] at h2 h3
     rw [openL, e1]
     simp only [e2]
     rw [if_neg (by omega), if_neg (by rw [h3]; simp), h4]
     simp only
     rw [if_pos ⟨h5, h6, h7, h8, h9⟩]
theorem openL_bad {data index : List UInt8} {n ia da : Nat} {p : Option Ce} (h : ∀ g, ¬ StepOk data index n ia da p g) : openL data index (n + 1) ia da p = none := by
 rw [openL]
 cases e1 : getText (index.drop ia) with
 | none => rfl
 | some r1 =>
   obtain ⟨key, k1⟩ := r1
   simp only
   cases e2 : get (index.drop (ia + k1)) with
   | none => rfl
   | some r2 =>
     obtain ⟨m, k2⟩ := r2
     simp only
     split
     · rfl
     · rename_i hlen
       split
       · rfl
       · rename_i hsum
         cases e3 : decB ((data.drop da).take m) with
         | none => rfl
         | some g =>
           simp only
           split
           · rename_i hc
             exfalso
             have hN : rNum index ia = m := by unfold rNum; rw [e1]; simp only [tA]; rw [e2]; rfl
             refine h g ⟨?_, ?_, ?_, ?_, hc.1, ?_, hc.2.2.1, hc.2.2.2.1, hc.2.2.2.2⟩
             · unfold rBad; rw [e1]; simp only [tA]; rw [e2]; rfl
             · unfold tkOk; rw [hN]; simp; omega
             · unfold tkSum tkS; rw [hN]; simpa using hsum
             · unfold tkS; rw [hN]; exact e3
             · unfold rKey; rw [e1]; exact hc.2.1
           · rfl
theorem sorted_behind {c d : Ce} {l : List Ce} (h : sortedB (d :: l) = true) : sortedFrom (some c) (d :: l) = aheadC c d := by
 simp only [sortedB, sortedFrom, Bool.and_eq_true] at h
 simp only [sortedFrom, h.2, Bool.and_true]
 have hm : d.may = true := okAfter_may h.1
 show okAfter (some c) d = _
 simp [okAfter, hm]
def bN : Option Nat → Nat
 | some n => n
 | none => 0
theorem ofBigN_any (s : List UInt8) (n : Nat) (W : World) (hs : s.length ≤ 140737488351232) :
 Calls Tryz.prog 41 #[.string ⟨s.toArray⟩, .int .i64 n] W fun e w' => e = .returned (.tuple #[.int .i64 (bN (ofBig (s.drop n))), .bool (gO (ofBig (s.drop n)))]) ∧ W = w' := by
 have h := ofBig_any ⟨s.toArray⟩ (n : Int) W (by rw [size_of]; unfold maxLen; omega)
 have e : ofBigAt s (n : Int) = .tuple #[.int .i64 (bN (ofBig (s.drop n))), .bool (gO (ofBig (s.drop n)))] := by
  unfold ofBigAt
  rw [if_neg (by omega), Int.toNat_natCast]
  cases ofBig (s.drop n) <;> rfl
 have e2 : (⟨s.toArray⟩ : ByteArray).data.toList = s := by simp
 rw [e2, e] at h
 exact h
structure OpSt (T0 Dl Ix base : Nat) (D I : List UInt8) (w0 : World) (ia da : Nat) (ib db : Bool) (acc : List (List Ce)) (vt : Value) (vs : List Value) (vl : Value) (lg : List Ce) (W : World) : Prop where
 rd : RdAt Dl da db D W
 ri : RdAt Ix ia ib I W
 tb : W.heap[T0]? = some (.cells #[vt] 92 (0, 0))
 own : W.ownsRow base 84 2 vt acc.length (bkRow acc vs)
 sl : SlG base vs acc W
 ls : (lg = [] ∧ vl = .slice none 0 0) ∨ ∃ b, base ≤ b ∧ PageAt vl lg b W
 ne1 : Dl ≠ Ix
 ne2 : Dl ≠ T0
 ne3 : Ix ≠ T0
 l1 : Dl < base
 l2 : Ix < base
 l3 : T0 < base
 lb : base ≤ W.heap.size
 g1 : w0.heap.size ≤ Dl
 g2 : w0.heap.size ≤ Ix
 g3 : w0.heap.size ≤ T0
 bl : Below w0.heap.size w0 W
section
variable {T0 Dl Ix base : Nat} {D I : List UInt8} {w0 : World} {ia da : Nat} {ib db : Bool} {acc : List (List Ce)} {vt : Value} {vs : List Value} {vl : Value} {lg : List Ce} {W W' : World}
theorem OpSt.later (h : OpSt T0 Dl Ix base D I w0 ia da ib db acc vt vs vl lg W) (hb : Below W.heap.size W W') : OpSt T0 Dl Ix base D I w0 ia da ib db acc vt vs vl lg W' := by
 refine ⟨h.rd.later hb, h.ri.later hb, (hb.block T0 (Nat.lt_of_lt_of_le h.l3 h.lb)).trans h.tb, own_lat h.own hb, h.sl.later hb, ?_, h.ne1, h.ne2, h.ne3, h.l1, h.l2, h.l3, Nat.le_trans h.lb hb.size, h.g1, h.g2, h.g3, h.bl.trans (hb.mono h.bl.size)⟩
 rcases h.ls with h1 | ⟨b, hb1, hP⟩
 · exact .inl h1
 · exact .inr ⟨b, hb1, hP.kept fun cur hc => hb.block b (Go.ltA hc)⟩
theorem OpSt.keep (h : OpSt T0 Dl Ix base D I w0 ia da ib db acc vt vs vl lg W) {q : Nat} (f : Fr [q] W W') (hq : q < base) : SlG base vs acc W' ∧ W'.ownsRow base 84 2 vt acc.length (bkRow acc vs) ∧ ((lg = [] ∧ vl = .slice none 0 0) ∨ ∃ b, base ≤ b ∧ PageAt vl lg b W') := by
 refine ⟨⟨h.sl.1, fun i hi => ?_⟩, own_same h.own fun g hg => ?_, ?_⟩
 · obtain ⟨b, hl, hP⟩ := h.sl.2 i hi
   exact ⟨b, hl, hP.kept fun cur hc => f.block b (Go.ltA hc) (by simp; omega)⟩
 · rcases h.own.2 with ⟨e, _⟩ | ⟨g', cap, cur, e, hb, hgb, _⟩
   · rw [e] at hg; simp [Value.ownBlock] at hg
   · rw [e] at hg
     obtain rfl : g' = g := by simpa [Value.ownBlock] using hg
     exact f.block g' (Go.ltA hgb) (by simp; omega)
 · rcases h.ls with h1 | ⟨b, hb1, hP⟩
   · exact .inl h1
   · exact .inr ⟨b, hb1, hP.kept fun cur hc => f.block b (Go.ltA hc) (by simp; omega)⟩
theorem OpSt.setI (h : OpSt T0 Dl Ix base D I w0 ia da ib db acc vt vs vl lg W) {ia' : Nat} {ib' : Bool} (hr : RdAt Ix ia' ib' I W') (f : Fr [Ix] W W') : OpSt T0 Dl Ix base D I w0 ia' da ib' db acc vt vs vl lg W' := by
 obtain ⟨k1, k2, k3⟩ := h.keep f h.l2
 exact ⟨h.rd.other f h.ne1, hr, (f.block T0 (Nat.lt_of_lt_of_le h.l3 h.lb) (by simpa using h.ne3.symm)).trans h.tb, k2, k1, k3, h.ne1, h.ne2, h.ne3, h.l1, h.l2, h.l3, Nat.le_trans h.lb f.size, h.g1, h.g2, h.g3, h.bl.trans (f.below h.bl.size (fun x hx => by simp at hx; subst hx; exact h.g2))⟩
theorem OpSt.setD (h : OpSt T0 Dl Ix base D I w0 ia da ib db acc vt vs vl lg W) {da' : Nat} {db' : Bool} (hr : RdAt Dl da' db' D W') (f : Fr [Dl] W W') : OpSt T0 Dl Ix base D I w0 ia da' ib db' acc vt vs vl lg W' := by
 obtain ⟨k1, k2, k3⟩ := h.keep f h.l1
 exact ⟨hr, h.ri.other f h.ne1.symm, (f.block T0 (Nat.lt_of_lt_of_le h.l3 h.lb) (by simpa using h.ne2.symm)).trans h.tb, k2, k1, k3, h.ne1, h.ne2, h.ne3, h.l1, h.l2, h.l3, Nat.le_trans h.lb f.size, h.g1, h.g2, h.g3, h.bl.trans (f.below h.bl.size (fun x hx => by simp at hx; subst hx; exact h.g1))⟩
theorem OpSt.add (h : OpSt T0 Dl Ix base D I w0 ia da ib db acc vt vs vl lg W) (g : List Ce) (s : Value) (b : Nat) (hb : base ≤ b) (hP : PageAt s g b W) (hn : acc.length ≤ 1000000) :
 ∃ v' w3, (Builtin.append_ #[76, 76] 76 #[vt, .slice (some ⟨W.heap.size, 0, none⟩) 1 1]).run Tryz.prog (W.alloc (.cells #[.string ⟨(keyG g).toArray⟩, s] 84)) = .ok v' w3 ∧
  w3.heap[T0]? = some (.cells #[vt] 92 (0, 0)) ∧ (∃ g' c', v' = .slice (some ⟨g', 0, none⟩) (acc.length + 1) c') ∧
  OpSt T0 Dl Ix base D I w0 ia da ib db (acc ++ [g]) v' (vs ++ [s]) s g (w3.setCell ⟨T0, 0, none⟩ v') := by
 have nb := (Below.refl W.heap.size W).alloc (Nat.le_refl _) (.cells #[.string ⟨(keyG g).toArray⟩, s] 84)
 have h1 := h.later nb
 have hP1 : PageAt s g b (W.alloc (.cells #[.string ⟨(keyG g).toArray⟩, s] 84)) := hP.kept fun cur hc => nb.block b (Go.ltA hc)
 obtain ⟨v', w3, run, own, sl, gr, hv⟩ := bk_append h1.own h1.sl h1.lb g hb hP1 W.heap.size (heap_alloc_new W _) hn
 have low : ∀ k, k < base → w3.heap[k]? = (W.alloc (.cells #[.string ⟨(keyG g).toArray⟩, s] 84)).heap[k]? := fun k hk => by
  refine gr.block k (Nat.lt_of_lt_of_le hk h1.lb) fun e => ?_
  rcases h1.own.2 with ⟨e', _⟩ | ⟨g', cap, cur, e', hbg, _⟩
  · rw [e'] at e; simp [Value.ownBlock] at e
  · rw [e'] at e
    have e2 : k = g' := by simpa [Value.ownBlock] using e
    omega
 have cellk : ∀ (k : Nat) (cur : Array Value) (t : TypeId), t ≠ 84 → (W.alloc (.cells #[.string ⟨(keyG g).toArray⟩, s] 84)).heap[k]? = some (.cells cur t (0, 0)) → w3.heap[k]? = (W.alloc (.cells #[.string ⟨(keyG g).toArray⟩, s] 84)).heap[k]? := fun k cur t ht hk => gr.block k (Go.ltA hk) fun e => own_not h1.own hk (fun cur' e' => by cases e'; exact ht rfl) e.symm
 have hT : w3.heap[T0]? = some (.cells #[vt] 92 (0, 0)) := (low T0 h.l3).trans h1.tb
 have hset : ∀ k, k ≠ T0 → (w3.setCell ⟨T0, 0, none⟩ v').heap[k]? = w3.heap[k]? := fun k hk => Below.heap_setCell w3 ⟨T0, 0, none⟩ v' k hk
 have bl3 : Below w0.heap.size w0 w3 := h1.bl.grown gr h1.bl.size fun k hk => by
  rcases h1.own.2 with ⟨e', _⟩ | ⟨g', cap, cur, e', hbg, _⟩
  · rw [e'] at hk; simp [Value.ownBlock] at hk
  · rw [e'] at hk
    have e2 : g' = k := by simpa [Value.ownBlock] using hk
    have := h.g3
    have := h.l3
    omega
 refine ⟨v', w3, run, hT, hv, ⟨?_, ?_, ?_, ?_, ?_, .inr ⟨b, hb, ?_⟩, h.ne1, h.ne2, h.ne3, h.l1, h.l2, h.l3, ?_, h.g1, h.g2, h.g3, below_set bl3 h.g3 0 v'⟩⟩
 · exact ((hset Dl h.ne2).trans (low Dl h.l1)).trans h1.rd
 · exact ((hset Ix h.ne3).trans (low Ix h.l2)).trans h1.ri
 · rw [heap_setCell_same w3 T0 0 _ _ _ hT]
   rfl
 · exact own_same own fun k hk => hset k (by
    rcases own.2 with ⟨e', _⟩ | ⟨g', cap, cur, e', hbg, _⟩
    · rw [e'] at hk; simp [Value.ownBlock] at hk
    · rw [e'] at hk
      have e2 : g' = k := by simpa [Value.ownBlock] using hk
      have := h.l3
      omega)
 · refine ⟨sl.1, fun i hi => ?_⟩
   obtain ⟨b', hl, hP'⟩ := sl.2 i hi
   exact ⟨b', hl, hP'.kept fun cur hc => hset b' (by have := h.l3; omega)⟩
 · refine hP1.kept fun cur hc => ?_
   rw [hset b (by have := h.l3; omega)]
   exact cellk b cur _ (by decide) hc
 · rw [World.size_setCell]
   exact Nat.le_trans h1.lb gr.size
end
end Go.Proofs.YtoglloafpnopaaaGreat
