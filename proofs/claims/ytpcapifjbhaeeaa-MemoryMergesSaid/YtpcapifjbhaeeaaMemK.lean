/- slices.Chunk over cells, and the memory of sorted cells. -/
import Derived.Test.YtpcapifjbhaeeaaMemJ
import Derived.RangeFuncNested
import Derived.RangeFuncBound
import Derived.RangeFuncCalls
import Derived.RangeFuncLeaves
import Derived.RangeFuncBox
import Derived.Shelf.Abstract
import Derived.Shelf.RegionOpen
import Derived.OwnWalkIn
import Derived.TacticsInMore
import Derived.LoopNIn
import Derived.LoopIn
namespace Go.Proofs.Ytpcapifjbhaeeaa
set_option maxRecDepth 16000
open Go.RowKit Spoor Go.Shelf
set_option linter.unusedVariables false
attribute [local go_sem] Oper.semAt_some

/-- the i-th chunk, as a slice -/
def chV (b o len i : Nat) : Value := .slice (some ⟨b, o + i * 8 * 3, none⟩) (min 8 (len - i * 8)) (min 8 (len - i * 8))
/-- the chunks that there are -/
abbrev Ch (len : Nat) := { i : Nat // i * 8 < len }
/-- what a round keeps -/
def KpC (n₀ B1 B2 : Nat) (W W' : World) : Prop := Below n₀ W W' ∧ W'.heap[B1]? = W.heap[B1]? ∧ W'.heap[B2]? = W.heap[B2]?
theorem KpC.refl (n₀ B1 B2 : Nat) (W : World) : KpC n₀ B1 B2 W W := ⟨Below.refl _ _, rfl, rfl⟩
theorem KpC.trans {n₀ B1 B2 : Nat} {A B C : World} (h : KpC n₀ B1 B2 A B) (k : KpC n₀ B1 B2 B C) : KpC n₀ B1 B2 A C := ⟨h.1.trans k.1, k.2.1.trans h.2.1, k.2.2.trans h.2.2⟩
theorem KpC.book {n₀ B1 B2 : Nat} {w : World} (hn : n₀ ≤ w.heap.size) (h1 : B1 < w.heap.size) (h2 : B2 < w.heap.size) (W : World) (l : Nat) (o o' : Obj) (hl : w.heap.size ≤ l) (h : W.heap[l]? = some o) (hc : o.isCells = false) (hw : o.isWalk = false) : KpC n₀ B1 B2 W (W.putObj l o') :=
  ⟨belowK_b hn W l o o' hl h hc hw, World.putObj_heap_other (by omega), World.putObj_heap_other (by omega)⟩
theorem KpC.drew {n₀ B1 B2 : Nat} {A B : World} (h : KpC n₀ B1 B2 A B) : KpC n₀ B1 B2 A B.drew := ⟨Below.drew h.1, h.2.1, h.2.2⟩
theorem grownBy_drew (w : World) : w.grownBy w.drew none := ⟨rfl, rfl, rfl, Nat.le_refl _, fun _ _ _ => rfl⟩

set_option maxRecDepth 100000 in
set_option maxHeartbeats 4000000 in
theorem chunk1_in (n : Nat) (hn : 1 ≤ n) (l B1 B2 n₀ b o len cap : Nat) (A : Option Addr) (hA : 0 < len → A = some ⟨b, o, none⟩) (hlen : len ≤ 1000000) (hlc : len ≤ cap) (hcap : cap ≤ maxLen) (J Jx : List (Ch len) → World → Prop) (hJa : ∀ s W, J s W → J s W.drew)
    (hY : ∀ pre x W, J pre W → pre.length < len → YieldAt Fence.wide (n - 1) Try.prog l #[chV b o len x.1] W fun e W' =>
      (e = .returned (.bool true) ∧ J (pre ++ [x]) W' ∧ KpC n₀ B1 B2 W W') ∨ (e = .returned (.bool false) ∧ Jx (pre ++ [x]) W'))
    (W : World) (hB1 : Boxed W B1 22 (.slice A len cap)) (hB2 : Boxed W B2 3 (.int .i64 8)) (h0 : J [] W) :
    CallsIn Fence.wide n Try.prog 66 #[.func (.yield l) #[] #[], .pointer (some ⟨B1, 0, none⟩), .pointer (some ⟨B2, 0, none⟩)] W fun e W' => (∃ v, e = .returned v) ∧
      ((∃ ys : List (Ch len), (∃ K, len ≤ K * 8 ∧ K * 8 < len + 8 ∧ ys.map (·.1) = List.range K) ∧ J ys W') ∨ (∃ pre, True ∧ Jx pre W')) := by
  refine callsIn_of_wp Try.func66 rfl trivial ?_ rfl
  simp only [Try.ntmps66, List.size_toArray, List.length_cons, List.length_nil, Nat.reduceAdd, Nat.reduceSub, Array.replicate_succ, Array.replicate_zero, List.push_toArray, List.append_toArray, List.nil_append, List.cons_append]
  unfold maxLen at hcap
  gi_wp2
  gi_loopw [4] (fun i wr => ∃ k : Nat, k * 8 < len + 8 ∧ i = .int .i64 (k * 8 : Nat) ∧ (∃ pre : List (Ch len), pre.map (·.1) = List.range k ∧ J pre wr) ∧ KpC n₀ B1 B2 W wr)
    (fun i _ => len + 8 - (intOf i).toNat)
  case atStart => exact ⟨0, by omega, rfl, ⟨[], rfl, h0⟩, KpC.refl _ _ _ _⟩
  case round =>
    obtain ⟨k, hk, rfl, ⟨pre, hpre, hJs⟩, hnx⟩ := hrel
    have hb1 : Boxed wr B1 22 (.slice A len cap) := hnx.2.1.trans hB1
    have hb2 : Boxed wr B2 3 (.int .i64 8) := hnx.2.2.trans hB2
    have c1 := hb1.cell
    have c2 := hb2.cell
    have hpl : pre.length = k := by have := congrArg List.length hpre; simpa using this
    by_cases hlt : k * 8 < len
    · obtain rfl := hA (by omega)
      obtain ⟨fn, tmps, assign, body, hy, hR⟩ := hY pre ⟨k, hlt⟩ wr.drew (hJa _ _ hJs) (by omega)
      dsimp only [chV] at hy
      have HN := Lib.hid hnx
      have HP := Lib.hid hpre
      obtain ⟨m, hm⟩ : ∃ m, min 8 (len - k * 8) = m := ⟨_, rfl⟩
      rw [hm] at hy
      have hmi : min (8 : Int) ((len - k * 8 : Nat) : Int) = (m : Int) := by omega
      have HY := Lib.hid hy
      have HR := Lib.hid hR
      have HB := Lib.hid (show Boxed wr.drew B2 3 (.int .i64 8) from hb2)
      have hk0 : wrap64 ((k : Int) * 8 + 8) = (k : Int) * 8 + 8 := by unfold wrap64; omega
      clear hJs hpre hY hJa h0 hnx hb1 hb2 hB1 hB2 hy hR
      have hk1 : (((k * 8 : Nat) : Int) < (len : Int)) := by omega
      have hk2 : (0 : Int) ≤ (k * 8 : Nat) := by omega
      have hk3 : ((k * 8 : Nat) : Int) ≤ len := by omega
      gi_wp2
      gi_region
      all_goals
        have hk4 : (k : Int) * 8 + m ≤ cap := by omega
        have hk5 : wrap64 ((k : Int) * 8 + m) = (k : Int) * 8 + m := by unfold wrap64; omega
        have hk6 : (k : Int) * 8 ≤ (k : Int) * 8 + m := by omega
        have hk7 : ((k : Int) * 8).toNat = k * 8 := by omega
        have hk8 : ((k : Int) * 8 + m).toNat = k * 8 + m := by omega
        have hk9 : k * 8 + m - k * 8 = m := by omega
        have hy := HY.out
        gi_wp2
        refine HR.out.mono ?_
        rintro e W3 (⟨rfl, hJ3, hk3⟩ | ⟨rfl, hJx3⟩)
        · have c3 := (show Boxed W3 B2 3 (.int .i64 8) from hk3.2.2.trans HB.out).cell
          gi_wp2
          go_roundw
          case rel => exact ⟨k + 1, by omega, by simp; omega, ⟨_, by simp [HP.out, List.range_succ], hJ3⟩, HN.out.drew.trans hk3⟩
          case measure => simp [intOf]; omega
        · gi_wp2
          refine bodyPost_ret (results_none rfl _ _ _) rfl ?_
          exact ⟨⟨_, rfl⟩, .inr ⟨_, trivial, hJx3⟩⟩
    · have HJ := Lib.hid hJs
      have HP := Lib.hid hpre
      clear hJs hpre hY hJa h0 hnx hb1 hb2 hB1 hB2
      have hk' : ¬ (((k * 8 : Nat) : Int) < (len : Int)) := by omega
      gi_wp2
      go_end0
      exact ⟨⟨_, rfl⟩, .inl ⟨pre, ⟨k, by omega, by omega, HP.out⟩, HJ.out⟩⟩

set_option maxHeartbeats 1000000 in
theorem chunk_in (n : Nat) (A : Option Addr) (len cap : Nat) (w : World) :
    CallsIn Fence.wide n Try.prog 52 #[.slice A len cap, .int .i64 8] w fun e w' => e = .returned (.func (.func 66) #[] #[.pointer (some ⟨w.heap.size, 0, none⟩), .pointer (some ⟨w.heap.size + 1, 0, none⟩)]) ∧ w' = (w.alloc (.cells #[.slice A len cap] 22)).alloc (.cells #[.int .i64 8] 3) := by
  refine callsIn_of_wp Try.func52 rfl trivial ?_ rfl
  simp only [Try.ntmps52, List.size_toArray, List.length_cons, List.length_nil, Nat.reduceAdd, Nat.reduceSub, Array.replicate_succ, Array.replicate_zero, List.push_toArray, List.append_toArray, List.nil_append, List.cons_append]
  gi_wp2
  go_ret
  exact ⟨rfl, rfl⟩

theorem chunk_stops (n : Nat) (hn : 1 ≤ n) (B1 B2 n₀ b o len cap : Nat) (A : Option Addr) (hA : 0 < len → A = some ⟨b, o, none⟩) (hlen : len ≤ 1000000) (hlc : len ≤ cap) (hcap : cap ≤ maxLen) (w : World) (hB1 : Boxed w B1 22 (.slice A len cap)) (hB2 : Boxed w B2 3 (.int .i64 8)) :
    SeqStopsK Fence.wide n Try.prog 66 #[.pointer (some ⟨B1, 0, none⟩), .pointer (some ⟨B2, 0, none⟩)] (fun x : Ch len => #[chV b o len x.1]) (KpC n₀ B1 B2)
      (fun ys => ∃ K, len ≤ K * 8 ∧ K * 8 < len + 8 ∧ ys.map (·.1) = List.range K) (fun _ => True) len w := fun l J Jx W hW hJ _ hY h0 =>
  chunk1_in n hn l B1 B2 n₀ b o len cap A hA hlen hlc hcap J Jx (fun s W hs => hJ s W _ none hs (grownBy_drew W) (by simp)) hY W ((hW.block B1 hB1.lt).trans hB1) ((hW.block B2 hB2.lt).trans hB2) h0
end Go.Proofs.Ytpcapifjbhaeeaa
