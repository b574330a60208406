/- A region that draws its order, in a round of a loop over a function too: reading operations are taken first where what they read stays till they are done. -/
import Derived.OrdersIn
import Derived.TacticsIn
set_option linter.unusedSimpArgs false
set_option linter.unusedVariables false
namespace Go
section
variable {F : Fence} {n : Nat} {P : Program} {ops : Array Oper} {Q : Exit → Act → World → Prop} {md : Region.Mode} {S : World → Prop} {late : Nat → Bool}
def plainOps (ops : Array Oper) : Bool := ops.all fun o => match o.op with | .defer _ => false | .select _ _ => false | _ => true
theorem plainOps_spec (h : plainOps ops = true) {j : Nat} {o : Oper} (ho : ops[j]? = some o) : (∀ c, o.op ≠ .defer c) ∧ ∀ cs b, o.op ≠ .select cs b := by
 have h1 := Array.all_eq_true_iff_forall_mem.1 h o (Array.mem_of_getElem? ho)
 refine ⟨fun c e => ?_, fun cs b e => ?_⟩ <;> · have h2 := h1; rw [e] at h2; cases h2
theorem wpOpIn_plain {j : Nat} {o : Oper} {K : Act → World → Prop} {a : Act} {w : World} (hp : plainOps ops = true) (ho : ops[j]? = some o) :
 wpOpIn F n P ops Q j K a w ↔ (∀ f, o.about P w a.eval = some f → F.fn f) ∧ if Region.wanted o (yielded ops a.tmps) then o.uponIn F n P a K Q ((execOp a.eval o).run P w) else K (a.put o.dst undef) w := by
 obtain ⟨hd, _⟩ := plainOps_spec hp ho
 unfold wpOpIn
 simp only [ho]
 unfold Oper.wpIn
 rw [Oper.semAt_eq _ _ _ hd]
 by_cases h : Region.wanted o (yielded ops a.tmps) = true
 · rw [if_pos h, if_pos h]
 · rw [if_neg h, if_neg h]
def Reads (P : Program) (ops : Array Oper) (S : World → Prop) (o : Oper) (v : Value) (a : Act) : Prop :=
 ((Region.wanted o (yielded ops a.tmps) = true ∧ ∀ w, S w → (execOp a.eval o).run P w = .ok (.value v) w) ∨ (Region.wanted o (yielded ops a.tmps) = false ∧ v = undef)) ∧ ∀ w, o.about P w a.eval = none
theorem Reads.turn {o : Oper} {v : Value} {a a' : Act} (h : Reads P ops S o v a) (h1 : execOp a'.eval o = execOp a.eval o) (h3 : Region.wanted o (yielded ops a'.tmps) = Region.wanted o (yielded ops a.tmps)) (h2 : ∀ w, o.about P w a'.eval = o.about P w a.eval) : Reads P ops S o v a' := by
 unfold Reads at *
 simp only [h1, h2, h3]
 exact h
theorem Reads.step {i : Nat} {o : Oper} {v : Value} {a : Act} (hp : plainOps ops = true) (ho : ops[i]? = some o) (h : Reads P ops S o v a) {K : Act → World → Prop} {w : World} (hS : S w) (hK : K (a.put o.dst v) w) : wpOpIn F n P ops Q i K a w := by
 rw [wpOpIn_plain hp ho]
 refine ⟨fun f hf => ?_, ?_⟩
 · rw [h.2 w] at hf
   cases hf
 · rcases h.1 with ⟨h1, h2⟩ | ⟨h1, rfl⟩
   · rw [if_pos h1, h2 w hS]
     exact hK
   · rw [if_neg (by rw [h1]; exact Bool.false_ne_true)]
     exact hK
theorem uponIn_put {oi oj : Oper} {v : Value} {a : Act} {K K' : Act → World → Prop} {r : Result Next} (h2 : ∀ d, oi.dst = some d → oj.dst ≠ some d)
 (hQ : ∀ c a w, Q (.panic c) (a.put oi.dst v) w → Q (.panic c) a w)
 (hK : ∀ (d : List Deferred) u w, K ((({ a with defers := d } : Act).put oj.dst u).put oi.dst v) w → K' (({ a with defers := d } : Act).put oj.dst u) w)
 (h : oj.uponIn F n P (a.put oi.dst v) K Q r) : oj.uponIn F n P a K' Q r := by
 have key : ∀ u w, K ((a.put oi.dst v).put oj.dst u) w → K' (a.put oj.dst u) w := fun u w h => hK a.defers u w (by
  rw [Act.put_comm a v u h2] at h
  exact h)
 match r, h with
 | .ok (.value u) w', h => exact key u w' h
 | .ok .skip w', h => exact key undef w' h
 | .ok (.defer d) w', h =>
   refine hK (d :: a.defers) undef w' ?_
   have h : K (({ a.put oi.dst v with defers := d :: (a.put oi.dst v).defers } : Act).put oj.dst undef) w' := h
   rw [Act.put_defers, Act.put_comm _ v undef h2] at h
   exact h
 | .ok (.enter f args) w', h => exact ⟨h.1, h.2.mono fun e w'' he => by
    cases e with
    | returned u => exact key u w'' he
    | panicked c => exact hQ _ _ _ he
    | outgrown => exact he⟩
 | .ok (.row row args) w', h => exact ⟨h.1, h.2.mono key⟩
 | .ok (.round l f tmps asg body) w', h => exact ⟨h.1, h.2.mono fun e w'' he => by
    cases e with
    | returned u => exact key u w'' he
    | panicked c => exact hQ _ _ _ he
    | outgrown => exact he⟩
 | .halt (.panic u) w', h => exact hQ _ _ _ h
def AnyS (F : Fence) (n : Nat) (P : Program) (md : Region.Mode) (ops : Array Oper) (Q : Exit → Act → World → Prop) (S : World → Prop) (late : Nat → Bool) : Nat → Array Bool → Act → World → Prop
 | 0, listed, a, w => Region.ready md ops listed = [] ∧ Q .normal a w
 | fuel + 1, listed, a, w => (Region.ready md ops listed = [] → Q .normal a w) ∧ ∀ i ∈ Region.ready md ops listed, wpOpIn F n P ops Q i (fun a' w' => (late i = false → S w') ∧ AnyS F n P md ops Q S late fuel (listed.setIfInBounds i true) a' w') a w
theorem AnyS.any : ∀ (fuel : Nat) (listed : Array Bool) (a : Act) (w : World), AnyS F n P md ops Q S late fuel listed a w → wpAnyIn F n P md ops Q fuel listed a w
 | 0, _, _, _, h => h
 | fuel + 1, _, _, _, h => ⟨h.1, fun i hi => wpOpIn_mono (fun a' w' h' => AnyS.any fuel _ a' w' h'.2) (h.2 i hi)⟩
def waits (md : Region.Mode) (ops : Array Oper) (late : Nat → Bool) (i : Nat) : Bool := (List.range ops.size).all fun j => !late j || match ops[j]? with | some o => o.after.any (fun e => Region.binds md e && e.on == i) | none => true
theorem waits_spec {i j : Nat} {o : Oper} (h : waits md ops late i = true) (ho : ops[j]? = some o) (hno : ∀ e ∈ o.after, Region.binds md e = true → e.on ≠ i) : late j = false := by
 have hj : j < ops.size := (Array.getElem?_eq_some_iff.1 ho).1
 have h1 := List.all_eq_true.1 h j (List.mem_range.2 hj)
 simp only [ho] at h1
 cases hl : late j with
 | false => rfl
 | true =>
   rw [hl] at h1
   simp only [Bool.not_true, Bool.false_or, Array.any_eq_true, Bool.and_eq_true, beq_iff_eq] at h1
   obtain ⟨k, hk, hb, he⟩ := h1
   exact absurd he (hno _ (Array.getElem_mem hk) hb)
theorem AnyS.first {i : Nat} {oi : Oper} {v : Value} (hp : plainOps ops = true) (hi : ops[i]? = some oi) (hw : waits md ops late i = true) (hQ : ∀ c a w, Q (.panic c) (a.put oi.dst v) w → Q (.panic c) a w) :
 ∀ (fuel : Nat) (listed : Array Bool) (a : Act) (w : World),
  (∀ j oj, ops[j]? = some oj → j ≠ i → listed.getD j true = false → (∀ e ∈ oj.after, Region.binds md e = true → e.on ≠ i) → oi.apart ops oj = true) →
  i ∈ Region.ready md ops listed → Reads P ops S oi v a → S w →
  AnyS F n P md ops Q S late fuel (listed.setIfInBounds i true) (a.put oi.dst v) w → AnyS F n P md ops Q S late (fuel + 1) listed a w := by
 intro fuel
 induction fuel with
 | zero =>
   intro listed a w _ hr hy hS H
   refine ⟨fun h => (by rw [h] at hr; cases hr), fun j hj => ?_⟩
   by_cases hji : j = i
   · subst hji
     exact hy.step hp hi hS ⟨fun _ => hS, H⟩
   · have := ready_mono hj hji
     rw [H.1] at this
     cases this
 | succ fuel ih =>
   intro listed a w hfree hr hy hS H
   refine ⟨fun h => (by rw [h] at hr; cases hr), fun j hj => ?_⟩
   by_cases hji : j = i
   · subst hji
     exact hy.step hp hi hS ⟨fun _ => hS, H⟩
   · obtain ⟨hun, oj, hoj, hall⟩ := mem_ready.1 hj
     have hno : ∀ e ∈ oj.after, Region.binds md e = true → e.on ≠ i := fun e he hb heq => by
      have e1 := hall e he hb
      have e0 := (mem_ready.1 hr).1
      rw [heq] at e1
      rcases Nat.lt_or_ge i listed.size with h' | h'
      · simp [h'] at e0 e1
        rw [e0] at e1
        cases e1
      · simp [Array.getElem?_eq_none h'] at e1
     obtain ⟨h1, h2, h3⟩ := Oper.apart_spec (hfree j oj hoj hji hun hno)
     have hsi := (plainOps_spec hp hi).2
     have hsj := (plainOps_spec hp hoj).2
     have H1 := (wpOpIn_plain hp hoj).1 (H.2 j (ready_mono hj hji))
     rw [about_put oj w a oi.dst v h1, execOp_put oj hsj a oi.dst v h1, wanted_put oj a oi.dst v h1] at H1
     have hl := waits_spec hw hoj hno
     have keep : ∀ (d : List Deferred) u, Reads P ops S oi v (({ a with defers := d } : Act).put oj.dst u) := fun d u =>
      (hy.turn (a' := { a with defers := d }) rfl rfl (fun _ => rfl)).turn (execOp_put oi hsi _ oj.dst u h3) (wanted_put oi _ oj.dst u h3) (fun w => about_put oi w _ oj.dst u h3)
     have next : ∀ (d : List Deferred) u w', ((late j = false → S w') ∧ AnyS F n P md ops Q S late fuel ((listed.setIfInBounds i true).setIfInBounds j true) ((({ a with defers := d } : Act).put oj.dst u).put oi.dst v) w') →
      (late j = false → S w') ∧ AnyS F n P md ops Q S late (fuel + 1) (listed.setIfInBounds j true) (({ a with defers := d } : Act).put oj.dst u) w' := fun d u w' h4 => by
      refine ⟨h4.1, ih (listed.setIfInBounds j true) _ w' (fun k ok hk hki hun' hno' => ?_) (ready_mono hr (Ne.symm hji)) (keep d u) (h4.1 hl) ?_⟩
      · refine hfree k ok hk hki ?_ hno'
        by_cases hjk : j = k
        · subst hjk
          exact hun
        · rw [getD_set_ne true hjk] at hun'
          exact hun'
      · rw [Array.setIfInBounds_comm _ _ hji]
        exact h4.2
     refine (wpOpIn_plain hp hoj).2 ⟨H1.1, ?_⟩
     by_cases hwj : Region.wanted oj (yielded ops a.tmps) = true
     · rw [if_pos hwj]
       have H2 := H1.2
       rw [if_pos hwj] at H2
       exact uponIn_put h2 hQ (fun d u w' h4 => next d u w' h4) H2
     · rw [if_neg hwj]
       have H2 := H1.2
       rw [if_neg hwj, Act.put_comm a v undef h2] at H2
       exact next a.defers undef w H2
theorem AnyS.take {i : Nat} {oi : Oper} (v : Value) {fuel : Nat} {listed : Array Bool} {a : Act} {w : World} (hi : ops[i]? = some oi) (hp : plainOps ops = true) (hw : waits md ops late i = true) (hf : Region.free md ops listed i = true) (hr : (Region.ready md ops listed).contains i = true)
 (hQ : ∀ c a w, Q (.panic c) (a.put oi.dst v) w → Q (.panic c) a w) (hy : Reads P ops S oi v a) (hS : S w) (h : AnyS F n P md ops Q S late fuel (listed.setIfInBounds i true) (a.put oi.dst v) w) : AnyS F n P md ops Q S late (fuel + 1) listed a w :=
 AnyS.first hp hi hw hQ fuel listed a w (Region.free_spec hi hf) (by simpa using hr) hy hS h
theorem AnyS.get {i : Nat} {oi : Oper} (d : Option Tmp) (v : Value) {fuel : Nat} {listed : Array Bool} {a : Act} {w : World} (hi : ops[i]? = some oi) (hd : oi.dst = d) (hp : plainOps ops = true) (hw : waits md ops late i = true) (hf : Region.free md ops listed i = true) (hr : (Region.ready md ops listed).contains i = true)
 (hQ : ∀ c a w, Q (.panic c) (a.put d v) w → Q (.panic c) a w) (hy : Reads P ops S oi v a) (hS : S w) (h : AnyS F n P md ops Q S late fuel (listed.setIfInBounds i true) (a.put d v) w) : AnyS F n P md ops Q S late (fuel + 1) listed a w := by
 subst hd
 exact AnyS.take v hi hp hw hf hr hQ hy hS h
theorem AnyS.next {i : Nat} {o : Oper} {fuel : Nat} {listed : Array Bool} {a : Act} {w : World} (ho : ops[i]? = some o) (hp : plainOps ops = true) (hr : Region.ready md ops listed = [i])
 (h : ∀ K : Act → World → Prop, (∀ a' w', (late i = false → S w') → AnyS F n P md ops Q S late fuel (listed.setIfInBounds i true) a' w' → K a' w') → if Region.wanted o (yielded ops a.tmps) then o.wpIn F n P a w K Q else (∀ f, o.about P w a.eval = some f → F.fn f) ∧ K (a.put o.dst undef) w) : AnyS F n P md ops Q S late (fuel + 1) listed a w := by
 refine ⟨fun h0 => (by rw [hr] at h0; cases h0), fun j hj => ?_⟩
 rw [hr] at hj
 obtain rfl : j = i := by simpa using hj
 rw [wpOpIn_plain hp ho]
 have h1 := h (fun a' w' => (late j = false → S w') ∧ AnyS F n P md ops Q S late fuel (listed.setIfInBounds j true) a' w') (fun a' w' h1 h2 => ⟨h1, h2⟩)
 by_cases hw : Region.wanted o (yielded ops a.tmps) = true
 · rw [if_pos hw] at h1 ⊢
   unfold Oper.wpIn at h1
   rw [Oper.semAt_eq _ _ _ (plainOps_spec hp ho).1] at h1
   exact h1
 · rw [if_neg hw] at h1 ⊢
   exact h1
theorem AnyS.part {i : Nat} {o : Oper} {fuel : Nat} {listed : Array Bool} {a : Act} {w : World} (ho : ops[i]? = some o) (hp : plainOps ops = true)
 (h : ∀ K : Act → World → Prop, (∀ a' w', (late i = false → S w') → AnyS F n P md ops Q S late fuel (listed.setIfInBounds i true) a' w' → K a' w') → if Region.wanted o (yielded ops a.tmps) then o.wpIn F n P a w K Q else (∀ f, o.about P w a.eval = some f → F.fn f) ∧ K (a.put o.dst undef) w) :
 wpOpIn F n P ops Q i (fun a' w' => (late i = false → S w') ∧ AnyS F n P md ops Q S late fuel (listed.setIfInBounds i true) a' w') a w := by
 rw [wpOpIn_plain hp ho]
 have h1 := h (fun a' w' => (late i = false → S w') ∧ AnyS F n P md ops Q S late fuel (listed.setIfInBounds i true) a' w') (fun a' w' h1 h2 => ⟨h1, h2⟩)
 by_cases hw : Region.wanted o (yielded ops a.tmps) = true
 · rw [if_pos hw] at h1 ⊢
   unfold Oper.wpIn at h1
   rw [Oper.semAt_eq _ _ _ (plainOps_spec hp ho).1] at h1
   exact ⟨h1.1, h1.2⟩
 · rw [if_neg hw] at h1 ⊢
   exact h1
theorem AnyS.two {i j : Nat} {o o2 : Oper} {fuel : Nat} {listed : Array Bool} {a : Act} {w : World} (ho : ops[i]? = some o) (ho2 : ops[j]? = some o2) (hp : plainOps ops = true) (hr : Region.ready md ops listed = [i, j])
 (h1 : ∀ K : Act → World → Prop, (∀ a' w', (late i = false → S w') → AnyS F n P md ops Q S late fuel (listed.setIfInBounds i true) a' w' → K a' w') → if Region.wanted o (yielded ops a.tmps) then o.wpIn F n P a w K Q else (∀ f, o.about P w a.eval = some f → F.fn f) ∧ K (a.put o.dst undef) w)
 (h2 : ∀ K : Act → World → Prop, (∀ a' w', (late j = false → S w') → AnyS F n P md ops Q S late fuel (listed.setIfInBounds j true) a' w' → K a' w') → if Region.wanted o2 (yielded ops a.tmps) then o2.wpIn F n P a w K Q else (∀ f, o2.about P w a.eval = some f → F.fn f) ∧ K (a.put o2.dst undef) w) :
 AnyS F n P md ops Q S late (fuel + 1) listed a w := by
 refine ⟨fun h0 => (by rw [hr] at h0; cases h0), fun k hk => ?_⟩
 rw [hr] at hk
 rcases List.mem_cons.1 hk with rfl | hk
 · exact AnyS.part ho hp h1
 · obtain rfl : k = j := by simpa using hk
   exact AnyS.part ho2 hp h2
theorem AnyS.done {listed : Array Bool} {a : Act} {w : World} (hr : Region.ready md ops listed = []) (h : Q .normal a w) : ∀ fuel, AnyS F n P md ops Q S late fuel listed a w
 | 0 => ⟨hr, h⟩
 | _ + 1 => ⟨fun _ => h, by rw [hr]; simp⟩
theorem wpIn_region_late {id : Nat} {a : Act} {w : World} (S : World → Prop) (late : Nat → Bool) (hm : P.follows .mixedOrders = true)
 (h : AnyS F n P .any ops Q S late ops.size (Array.replicate ops.size false) a w.drew) : (Code.region id ops true).wpIn F n P Q a w :=
 wpIn_region_any hm (AnyS.any _ _ _ _ h)
theorem want_yes {c p q : Prop} [Decidable c] (h : c) (hp : p) : if c then p else q := by rw [if_pos h]; exact hp
theorem want_no {c p q : Prop} [Decidable c] (h : ¬ c) (hq : q) : if c then p else q := by rw [if_neg h]; exact hq
theorem wpIn_region_lit_late {id k : Nat} {listed : Array Bool} {l : List Oper} {a : Act} {w : World} (S : World → Prop) (late : Nat → Bool) (hm : P.follows .mixedOrders = true) (hk : l.toArray.size = k) (hl : Array.replicate k false = listed)
 (h : AnyS F n P .any l.toArray Q S late k listed a w.drew) : (Code.region id l.toArray true).wpIn F n P Q a w := by
 subst hl
 subst hk
 exact wpIn_region_late S late hm h
theorem Reads.yes {o : Oper} {v : Value} {a : Act} (hw : Region.wanted o (yielded ops a.tmps) = true) (h : ∀ w, S w → (execOp a.eval o).run P w = .ok (.value v) w) (hb : ∀ w, o.about P w a.eval = none) : Reads P ops S o v a := ⟨.inl ⟨hw, h⟩, hb⟩
theorem opIn_value {o : Oper} {a : Act} {w w' : World} {K : Act → World → Prop} (v : Value) (hd : ∀ c, o.op ≠ .defer c) (hb : o.about P w a.eval = none) (hrun : (execOp a.eval o).run P w = .ok (.value v) w') (hK : K (a.put o.dst v) w') : o.wpIn F n P a w K Q := by
 unfold Oper.wpIn
 rw [Oper.semAt_eq _ _ _ hd, hrun]
 refine ⟨fun f hf => ?_, hK⟩
 rw [hb] at hf
 cases hf
theorem exec_append {o : Oper} {ρ : Operand → Value} {s x : Operand} {t u : TypeId} {a b v : Value} {w w' : World} (ho : o.op = .call { callee := .builtin .append, args := #[s, x], argTypes := #[t, u] }) (hs : ρ s = a) (hx : ρ x = b)
 (hrun : (Builtin.append_ #[t, u] o.type #[a, b]).run P w = .ok v w') : (execOp ρ o).run P w = .ok (.value v) w' := by
 simp [execOp, ho, resolve, invoke, builtin, hs, hx, hrun, Result.andThen]
theorem AnyS.yes (i : Nat) {oi : Oper} (d : Tmp) (v : Value) {fuel : Nat} {listed : Array Bool} {a : Act} {w : World} (hi : ops[i]? = some oi) (hd : oi.dst = some d)
 (H : (plainOps ops && waits md ops late i && Region.free md ops listed i && (Region.ready md ops listed).contains i && Region.wanted oi (yielded ops a.tmps)) = true)
 (hQ : ∀ c (d : Tmp) v a w, Q (.panic c) (a.put (some d) v) w → Q (.panic c) a w) (hS : S w) (hb : ∀ w, oi.about P w a.eval = none) (hr : ∀ w, S w → (execOp a.eval oi).run P w = .ok (.value v) w)
 (h : AnyS F n P md ops Q S late fuel (listed.setIfInBounds i true) (a.put (some d) v) w) : AnyS F n P md ops Q S late (fuel + 1) listed a w := by
 simp only [Bool.and_eq_true] at H
 exact AnyS.get (some d) v hi hd H.1.1.1.1 H.1.1.1.2 H.1.1.2 H.1.2 (fun c a w => hQ c d v a w) (Reads.yes H.2 hr hb) hS h
theorem AnyS.no (i : Nat) {oi : Oper} (d : Tmp) {fuel : Nat} {listed : Array Bool} {a : Act} {w : World} (hi : ops[i]? = some oi) (hd : oi.dst = some d)
 (H : (plainOps ops && waits md ops late i && Region.free md ops listed i && (Region.ready md ops listed).contains i && !Region.wanted oi (yielded ops a.tmps)) = true)
 (hQ : ∀ c (d : Tmp) v a w, Q (.panic c) (a.put (some d) v) w → Q (.panic c) a w) (hS : S w) (hb : ∀ w, oi.about P w a.eval = none)
 (h : AnyS F n P md ops Q S late fuel (listed.setIfInBounds i true) (a.put (some d) undef) w) : AnyS F n P md ops Q S late (fuel + 1) listed a w := by
 simp only [Bool.and_eq_true, Bool.not_eq_true'] at H
 exact AnyS.get (some d) undef hi hd H.1.1.1.1 H.1.1.1.2 H.1.1.2 H.1.2 (fun c a w => hQ c d undef a w) ⟨.inr ⟨H.2, rfl⟩, hb⟩ hS h
end
theorem zP (a : Act) (t : Tmp) (v : Value) : a.put (some t) v = { a with tmps := a.tmps.setIfInBounds t v } := rfl
theorem zN (a : Act) (v : Value) : a.put none v = a := rfl
theorem zS {α : Type} {i : Nat} {v : α} {l : List α} : l.toArray.setIfInBounds i v = (l.set i v).toArray := List.setIfInBounds_toArray ..
theorem zC {α : Type} {i : Nat} {v x : α} {l : List α} : (x :: l).set (i + 1) v = x :: l.set i v := rfl
theorem zZ {α : Type} {v x : α} {l : List α} : (x :: l).set 0 v = v :: l := rfl
end Go
