/- A region that draws its order, by what its operations tell (the same as stands in TabP, for seats that have no tables). A range over a function whose iterator has a state of its own in memory. -/
import Derived.Test.YtoglloafpnopaaaGreatTA
import Derived.Test.YtoglloafpnopaaaGreatTF
import Derived.Test.YtoglloafpnopaaaGreatRoundS
import Derived.Test.YtoglloafpnopaaaGreatTabP
import Derived.RangeFuncNested
import Derived.RangeFuncBound
import Derived.RangeFuncCalls
import Derived.RangeFuncLeaves
import Derived.RangeFuncBox
import Derived.Shelf.Abstract
import Derived.Shelf.RegionOpen
import Derived.OwnWalkIn
import Derived.TacticsInMore
import Derived.LoopNIn
import Derived.LoopIn
set_option linter.unusedSimpArgs false
set_option linter.unusedVariables false
namespace Go
open Go.RowKit
section
variable {F : Fence} {n : Nat} {P : Program} {ops : Array Oper} {Q : Exit → Act → World → Prop} {md : Region.Mode}
end
def stPost {α : Type} (B : Nat) (RB : World → World → Prop) (I : List α → World → Prop) (xs : List α) (W : World) : Exit → Act → World → Prop
 | .normal, _, W' => KeepsFrom B W W' ∧ RB W W' ∧ I xs W'
 | _, _, _ => False
def SeqSt {α : Type} (F : Fence) (n : Nat) (P : Program) (g : Nat) (lb : Array Value) (encs : α → Array Value) (RI RB : World → World → Prop) (S : List α → Prop) (N : Nat) (w : World) : Prop :=
 ∀ (l : Nat) (J : List α → World → Prop) (W : World), RB w W → (∀ s A B, J s A → RI A B → J s B) →
  (∀ pre x W1, J pre W1 → pre.length < N → YieldAt F (n - 1) P l (encs x) W1 fun e W' => e = .returned (.bool true) ∧ J (pre ++ [x]) W' ∧ RB W1 W') →
  J [] W → CallsIn F n P g (#[.func (.yield l) #[] #[]] ++ lb) W fun e W' => (∃ v, e = .returned v) ∧ ∃ xs, S xs ∧ J xs W'
theorem wpIn_rangeSt {F : Fence} {n : Nat} {P : Program} {α : Type} {g : Operand} {ps : Array Tmp} {assign body : Code} {Q : Exit → Act → World → Prop} {a : Act} {w : World}
 (hro : F.round = none) (h1 : 1 ≤ n) {gf : Nat} {lb : Array Value} (hg : a.eval g = .func (.func gf) #[] lb) (hFg : F.fn gf) (eg : ∀ args w, (callFunc gf args).run P w = .ok (.enter gf args) w)
 {encs : α → Array Value} {RI RB : World → World → Prop} {S : List α → Prop} {N : Nat} (hseq : SeqSt F (n - 1) P gf lb encs RI RB S N w) (hps : ∀ x, (encs x).size = ps.size)
 (hIk : ∀ A B k o, RI A B → w.heap.size ≤ k → A.heap[k]? = some o → o.isCells = false → B.heap[k]? = some o)
 (hBt : ∀ {A B C : World}, RB A B → RB B C → RB A C) (hBa : ∀ o, RB w (w.alloc o)) (hBa2 : ∀ o o', RB w ((w.alloc o).alloc o')) (hBp : ∀ W l o o', W.heap[l]? = some o → o.isCells = false → w.heap.size ≤ l → RB W (W.putObj l o'))
 (I : List α → World → Prop) (hI : OwnFrom w.heap.size I) (hIs : ∀ s A B, I s A → RI A B → I s B) (h0 : I [] w) (Ax : α → Act → World → Prop) (hAx : ∀ x a', OwnFrom w.heap.size (fun (_ : Unit) W => Ax x a' W))
 (hassign : ∀ (l : Nat) (pre : List α) (x : α) (W : World) (K : Act → World → Prop), I pre W → (∀ a' W', KeepsFrom w.heap.size W W' → RB W W' → I pre W' → Ax x a' W' → K a' W') →
   assign.wpIn (F.inRound l) (n - 1 - 1) P (Exit.then K (fun _ _ _ => False)) { tmps := (ps.zip (encs x)).foldl (fun t (p, v) => t.setIfInBounds p v) a.tmps, defers := [] } W)
 (hbody : ∀ (l : Nat) (pre : List α) (x : α) (a' : Act) (W : World), I pre W → Ax x a' W → pre.length < N → body.wpIn (F.inRound l) (n - 1 - 1) P (stPost w.heap.size RB I (pre ++ [x]) W) a' W)
 (hdone : ∀ (D : Nat) (xs : List α) (W : World), w.heap.size ≤ D → S xs → I xs W → W.heap[D]? = some (.deferred (some [])) → Q .normal { a with defers := { target := .collected D, args := #[] } :: a.defers } W) :
 (Code.rangeFunc g ps assign body).wpIn F n P Q a w := by
 refine wpIn_rangeFunc fun fn hfn => ?_
 rw [hro]
 obtain ⟨R, hR⟩ : ∃ R : LoopState → Loop, R = fun st => { state := st, pending := none, fn, tmps := a.tmps, params := ps, assign, body, defers := w.heap.size } := ⟨_, rfl⟩
 have hst : ∀ st, (R st).state = st := fun st => by rw [hR]
 have hpp : ∀ st, (R st).params = ps := fun st => by rw [hR]
 obtain ⟨s, hs⟩ : ∃ s, w.heap.size = s := ⟨_, rfl⟩
 obtain ⟨V, hV⟩ : ∃ V, (w.alloc (.deferred (some []))).alloc (.loop (R .ready)) = V := ⟨_, rfl⟩
 have kL : V.heap[s + 1]? = some (.loop (R .ready)) := by
  have := World.alloc_heap_new (w.alloc (.deferred (some []))) (.loop (R .ready))
  rw [World.size_alloc, hs, hV] at this
  exact this
 have kD : V.heap[s]? = some (.deferred (some [])) := by
  have e := World.alloc_heap_new w (.deferred (some []))
  rw [hs] at e
  rw [← hV, Below.heap_alloc _ _ s (by simp [hs])]
  exact e
 have kI : I [] V := by rw [← hV]; exact hI.alloc _ (hI.alloc _ h0)
 have kB : RB w V := by rw [← hV]; exact hBa2 _ _
 refine ⟨s + 1, [{ target := .collected s, args := #[] }], V, { target := .fn (.func gf) lb, args := #[.func (.yield (s + 1)) #[] #[]] }, V, gf, #[.func (.yield (s + 1)) #[] #[]] ++ lb, V, ?_, ?_, ?_, ?_, fun _ => h1, ?_⟩
 · have e := run_enterLoop_outer (P := P) (w := w) fn a.tmps ps assign body
   rw [hs] at e
   rw [e, ← hV, hR, hs]
 · simp only [resolve, hg]
   simp [go_sem]
 · intro f' hf'
   simp [Target.leads] at hf'
   subst hf'
   exact hFg
 · simp [invoke, go_sem, eg]
 have turn : ∀ {W : World} {st : LoopState} (o' : Obj), W.heap[s + 1]? = some (.loop (R st)) → RB W (W.putObj (s + 1) o') := fun o' h => hBp _ _ _ o' h rfl (by omega)
 refine (hseq (s + 1) (fun pre W => I pre W ∧ W.heap[s + 1]? = some (.loop (R .ready)) ∧ W.heap[s]? = some (.deferred (some []))) V kB
  (fun pre A B ⟨j1, j2, j3⟩ hAB => ⟨hIs _ _ _ j1 hAB, hIk _ _ _ _ hAB (by omega) j2 rfl, hIk _ _ _ _ hAB (by omega) j3 rfl⟩) ?_ ⟨kI, kL, kD⟩).mono ?_
 · rintro pre x W ⟨j1, j2, j3⟩ hlen
   have hy := run_yield (P := P) (args := encs x) j2 (by rw [hpp]; exact hps x)
   rw [hR] at hy
   refine ⟨fn, _, assign, body, hy, roundIn_of_wpIn hfn (hassign (s + 1) pre x W _ j1 fun a' W' q1 q2 q3 q4 => ?_)⟩
   have m2 := q1.same (s + 1) _ (by omega) j2 rfl
   have m3 := q1.same s _ (by omega) j3 rfl
   have hb := run_beginRound (P := P) m2 (hst _)
   have hRb : ({ R .ready with state := .busy } : Loop) = R .busy := by rw [hR]
   rw [hRb] at hb
   refine ⟨_, hb, ?_⟩
   have hlt := (Go.ltA m2)
   obtain ⟨W2, hW2⟩ : ∃ W2, W'.putObj (s + 1) (.loop (R .busy)) = W2 := ⟨_, rfl⟩
   have n2 : W2.heap[s + 1]? = some (.loop (R .busy)) := by rw [← hW2]; exact World.putObj_heap_same hlt
   have n3 : W2.heap[s]? = some (.deferred (some [])) := by rw [← hW2]; exact (World.putObj_heap_other (by omega)).trans m3
   have nI : I pre W2 := by rw [← hW2]; exact hI.putObj _ q3 (by omega) m2 rfl
   have nA : Ax x a' W2 := by rw [← hW2]; exact (hAx x a').putObj (s := ()) _ q4 (by omega) m2 rfl
   have nB : RB W' W2 := by rw [← hW2]; exact turn _ m2
   rw [hW2]
   refine wpIn_mono (hbody (s + 1) pre x a' W2 nI nA hlen) ?_
   intro e a3 W3 hp
   cases e with
   | normal =>
     obtain ⟨r1, r2, r3⟩ := hp
     have t2 := r1.same (s + 1) _ (by omega) n2 rfl
     have t3 := r1.same s _ (by omega) n3 rfl
     have he := run_endRound (P := P) none t2
     have hRr : ({ R .busy with state := if (none : Option Code).isNone then .ready else .done, pending := none } : Loop) = R .ready := by rw [hR]; rfl
     rw [hRr] at he
     have hlt3 := (Go.ltA t2)
     exact ⟨_, _, he, rfl, ⟨hI.putObj _ r3 (by omega) t2 rfl, World.putObj_heap_same hlt3, (World.putObj_heap_other (by omega)).trans t3⟩, hBt q2 (hBt nB (hBt r2 (turn _ t2)))⟩
   | ret => exact hp.elim
   | exit id => exact hp.elim
   | goto t => exact hp.elim
   | panic ch => exact hp.elim
   | outgrown => exact hp.elim
 · rintro e W ⟨⟨v, rfl⟩, xs, hS, j1, j2, j3⟩
   have he := run_endLoop (P := P) j2 (by rw [hst]; simp)
   have hpn : (R .ready).pending = none := by rw [hR]
   rw [hpn] at he
   exact ⟨none, _, he, hdone s xs _ (by omega) hS (hI.putObj _ j1 (by omega) j2 rfl) ((World.putObj_heap_other (by omega)).trans j3)⟩
end Go
