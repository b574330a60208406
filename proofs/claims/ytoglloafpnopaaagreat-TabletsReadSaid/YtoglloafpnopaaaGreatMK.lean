/- slices.Chunk over cells, and the memory of sorted cells. The memory of sorted cells (of). -/
import Derived.Test.YtoglloafpnopaaaGreatRoundS
import Derived.Test.YtoglloafpnopaaaGreatTabG
import Derived.Test.YtoglloafpnopaaaGreatMJ
import Derived.RangeFuncNested
import Derived.RangeFuncBound
import Derived.RangeFuncCalls
import Derived.RangeFuncLeaves
import Derived.RangeFuncBox
import Derived.Shelf.Abstract
import Derived.Shelf.RegionOpen
import Derived.OwnWalkIn
import Derived.TacticsInMore
import Derived.LoopNIn
import Derived.LoopIn
set_option linter.unusedSimpArgs false
set_option linter.unusedVariables false
namespace Go.Proofs.YtoglloafpnopaaaGreat
set_option maxRecDepth 16000
open Go.RowKit Spoor Go.Shelf
attribute [local go_sem] Oper.semAt_some
def chVm (b o len i : Nat) : Value := .slice (some ⟨b, o + i * 8 * 3, none⟩) (min 8 (len - i * 8)) (min 8 (len - i * 8))
abbrev ChM (len : Nat) := { i : Nat // i * 8 < len }
def KpCm (n₀ B1 B2 : Nat) (W W' : World) : Prop := Below n₀ W W' ∧ W'.heap[B1]? = W.heap[B1]? ∧ W'.heap[B2]? = W.heap[B2]?
theorem KpCm.refl (n₀ B1 B2 : Nat) (W : World) : KpCm n₀ B1 B2 W W := ⟨Below.refl _ _, rfl, rfl⟩
theorem KpCm.trans {n₀ B1 B2 : Nat} {A B C : World} (h : KpCm n₀ B1 B2 A B) (k : KpCm n₀ B1 B2 B C) : KpCm n₀ B1 B2 A C := ⟨h.1.trans k.1, k.2.1.trans h.2.1, k.2.2.trans h.2.2⟩
theorem KpCm.book {n₀ B1 B2 : Nat} {w : World} (hn : n₀ ≤ w.heap.size) (h1 : B1 < w.heap.size) (h2 : B2 < w.heap.size) (W : World) (l : Nat) (o o' : Obj) (hl : w.heap.size ≤ l) (h : W.heap[l]? = some o) (hc : o.isCells = false) (hw : o.isWalk = false) : KpCm n₀ B1 B2 W (W.putObj l o') :=
 ⟨belowK_b hn W l o o' hl h hc hw, World.putObj_heap_other (by omega), World.putObj_heap_other (by omega)⟩
theorem KpCm.drew {n₀ B1 B2 : Nat} {A B : World} (h : KpCm n₀ B1 B2 A B) : KpCm n₀ B1 B2 A B.drew := ⟨Below.drew h.1, h.2.1, h.2.2⟩
theorem grownBy_drewm (w : World) : w.grownBy w.drew none := ⟨rfl, rfl, rfl, Nat.le_refl _, fun _ _ _ => rfl⟩
set_option maxRecDepth 100000 in
set_option maxHeartbeats 4000000 in
theorem chunkm1_in (n : Nat) (hn : 1 ≤ n) (l B1 B2 n₀ b o len cap : Nat) (A : Option Addr) (hA : 0 < len → A = some ⟨b, o, none⟩) (hlen : len ≤ 1000000) (hlc : len ≤ cap) (hcap : cap ≤ maxLen) (J Jx : List (ChM len) → World → Prop) (hJa : ∀ s W, J s W → J s W.drew)
 (hY : ∀ pre x W, J pre W → pre.length < len → YieldAt Fence.wide (n - 1) Tryz.prog l #[chVm b o len x.1] W fun e W' =>
   (e = .returned (.bool true) ∧ J (pre ++ [x]) W' ∧ KpCm n₀ B1 B2 W W') ∨ (e = .returned (.bool false) ∧ Jx (pre ++ [x]) W'))
 (W : World) (hB1 : Boxed W B1 22 (.slice A len cap)) (hB2 : Boxed W B2 3 (.int .i64 8)) (h0 : J [] W) :
 CallsIn Fence.wide n Tryz.prog 88 #[.func (.yield l) #[] #[], .pointer (some ⟨B1, 0, none⟩), .pointer (some ⟨B2, 0, none⟩)] W fun e W' => (∃ v, e = .returned v) ∧
  ((∃ ys : List (ChM len), (∃ K, len ≤ K * 8 ∧ K * 8 < len + 8 ∧ ys.map (·.1) = List.range K) ∧ J ys W') ∨ (∃ pre, True ∧ Jx pre W')) := by
 refine callsIn_of_wp Tryz.func88 rfl trivial ?_ rfl
 simp only [Tryz.ntmps88, List.size_toArray, List.length_cons, List.length_nil, Nat.reduceAdd, Nat.reduceSub, Array.replicate_succ, Array.replicate_zero, List.push_toArray, List.append_toArray, List.nil_append, List.cons_append]
 unfold maxLen at hcap
 gi_wp2
 gi_loopw [4] (fun i wr => ∃ k : Nat, k * 8 < len + 8 ∧ i = .int .i64 (k * 8 : Nat) ∧ (∃ pre : List (ChM len), pre.map (·.1) = List.range k ∧ J pre wr) ∧ KpCm n₀ B1 B2 W wr)
  (fun i _ => len + 8 - (intOf i).toNat)
 case atStart => exact ⟨0, by omega, rfl, ⟨[], rfl, h0⟩, KpCm.refl _ _ _ _⟩
 case round =>
  obtain ⟨k, hk, rfl, ⟨pre, hpre, hJs⟩, hnx⟩ := hrel
  have hb1 : Boxed wr B1 22 (.slice A len cap) := hnx.2.1.trans hB1
  have hb2 : Boxed wr B2 3 (.int .i64 8) := hnx.2.2.trans hB2
  have c1 := hb1.cell
  have c2 := hb2.cell
  have hpl : pre.length = k := by have := congrArg List.length hpre; simpa using this
  by_cases hlt : k * 8 < len
  · obtain rfl := hA (by omega)
    obtain ⟨fn, tmps, assign, body, hy, hR⟩ := hY pre ⟨k, hlt⟩ wr.drew (hJa _ _ hJs) (by omega)
    dsimp only [chVm] at hy
    have HN := Lib.hid hnx
    have HP := Lib.hid hpre
    obtain ⟨m, hm⟩ : ∃ m, min 8 (len - k * 8) = m := ⟨_, rfl⟩
    rw [hm] at hy
    have hmi : min (8 : Int) ((len - k * 8 : Nat) : Int) = (m : Int) := by omega
    have HY := Lib.hid hy
    have HR := Lib.hid hR
    have HB := Lib.hid (show Boxed wr.drew B2 3 (.int .i64 8) from hb2)
    have hk0 : wrap64 ((k : Int) * 8 + 8) = (k : Int) * 8 + 8 := by unfold wrap64; omega
    clear hJs hpre hY hJa h0 hnx hb1 hb2 hB1 hB2 hy hR
    have hk1 : (((k * 8 : Nat) : Int) < (len : Int)) := by omega
    have hk2 : (0 : Int) ≤ (k * 8 : Nat) := by omega
    have hk3 : ((k * 8 : Nat) : Int) ≤ len := by omega
    gi_wp2
    gi_region
    all_goals
     have hk4 : (k : Int) * 8 + m ≤ cap := by omega
     have hk5 : wrap64 ((k : Int) * 8 + m) = (k : Int) * 8 + m := by unfold wrap64; omega
     have hk6 : (k : Int) * 8 ≤ (k : Int) * 8 + m := by omega
     have hk7 : ((k : Int) * 8).toNat = k * 8 := by omega
     have hk8 : ((k : Int) * 8 + m).toNat = k * 8 + m := by omega
     have hk9 : k * 8 + m - k * 8 = m := by omega
     have hy := HY.out
     gi_wp2
     refine HR.out.mono ?_
     rintro e W3 (⟨rfl, hJ3, hk3⟩ | ⟨rfl, hJx3⟩)
     · have c3 := (show Boxed W3 B2 3 (.int .i64 8) from hk3.2.2.trans HB.out).cell
       gi_wp2
       go_roundw
       case rel => exact ⟨k + 1, by omega, by simp; omega, ⟨_, by simp [HP.out, List.range_succ], hJ3⟩, HN.out.drew.trans hk3⟩
       case measure => simp [intOf]; omega
     · gi_wp2
       refine bodyPost_ret (results_none rfl _ _ _) rfl ?_
       exact ⟨⟨_, rfl⟩, .inr ⟨_, trivial, hJx3⟩⟩
  · have HJ := Lib.hid hJs
    have HP := Lib.hid hpre
    clear hJs hpre hY hJa h0 hnx hb1 hb2 hB1 hB2
    have hk' : ¬ (((k * 8 : Nat) : Int) < (len : Int)) := by omega
    gi_wp2
    go_end0
    exact ⟨⟨_, rfl⟩, .inl ⟨pre, ⟨k, by omega, by omega, HP.out⟩, HJ.out⟩⟩
set_option maxHeartbeats 1000000 in
theorem chunkm_in (n : Nat) (A : Option Addr) (len cap : Nat) (w : World) :
 CallsIn Fence.wide n Tryz.prog 63 #[.slice A len cap, .int .i64 8] w fun e w' => e = .returned (.func (.func 88) #[] #[.pointer (some ⟨w.heap.size, 0, none⟩), .pointer (some ⟨w.heap.size + 1, 0, none⟩)]) ∧ w' = (w.alloc (.cells #[.slice A len cap] 22)).alloc (.cells #[.int .i64 8] 3) := by
 refine callsIn_of_wp Tryz.func63 rfl trivial ?_ rfl
 simp only [Tryz.ntmps63, List.size_toArray, List.length_cons, List.length_nil, Nat.reduceAdd, Nat.reduceSub, Array.replicate_succ, Array.replicate_zero, List.push_toArray, List.append_toArray, List.nil_append, List.cons_append]
 gi_wp2
 go_ret
 exact ⟨rfl, rfl⟩
theorem chunkm_stops (n : Nat) (hn : 1 ≤ n) (B1 B2 n₀ b o len cap : Nat) (A : Option Addr) (hA : 0 < len → A = some ⟨b, o, none⟩) (hlen : len ≤ 1000000) (hlc : len ≤ cap) (hcap : cap ≤ maxLen) (w : World) (hB1 : Boxed w B1 22 (.slice A len cap)) (hB2 : Boxed w B2 3 (.int .i64 8)) :
 SeqStopsK Fence.wide n Tryz.prog 88 #[.pointer (some ⟨B1, 0, none⟩), .pointer (some ⟨B2, 0, none⟩)] (fun x : ChM len => #[chVm b o len x.1]) (KpCm n₀ B1 B2)
  (fun ys => ∃ K, len ≤ K * 8 ∧ K * 8 < len + 8 ∧ ys.map (·.1) = List.range K) (fun _ => True) len w := fun l J Jx W hW hJ _ hY h0 =>
 chunkm1_in n hn l B1 B2 n₀ b o len cap A hA hlen hlc hcap J Jx (fun s W hs => hJ s W _ none hs (grownBy_drewm W) (by simp)) hY W ((hW.block B1 hB1.lt).trans hB1) ((hW.block B2 hB2.lt).trans hB2) h0
attribute [local go_sem] Oper.semAt_some
theorem Mem.block {p : Nat} {L : List Ce} {fs : List Nat} {w : World} (h : Mem p L fs w) : ∀ b ∈ fs, ∃ cur t, w.heap[b]? = some (.cells cur t (0, 0)) := by
 obtain ⟨gs, ⟨v, fs', rfl, hp, hP⟩, ok, hL⟩ := h
 intro b hb
 rcases List.mem_cons.1 hb with rfl | hb
 · exact ⟨_, _, hp⟩
 · by_cases h0 : 0 < gs.length
   · obtain ⟨g, cap, cur, bs, -, -, -, h4, -, rfl, -, h7⟩ := hP.open h0
     rcases List.mem_cons.1 hb with rfl | hb
     · exact ⟨_, _, h4⟩
     · obtain ⟨c, hc⟩ := h7.ty b hb
       exact ⟨_, _, hc⟩
   · rcases hP with ⟨_, _, rfl⟩ | ⟨_, _, _, _, _, h, _⟩
     · cases hb
     · exact absurd h h0
def chOfm (l : List Ce) (i : Nat) : List Ce := (l.drop (i * 8)).take (min 8 (l.length - i * 8))
theorem chOfm_all : ∀ (K : Nat) (l : List Ce), K * 8 < l.length + 8 → (List.range K).map (chOfm l) = chunks K l
 | 0, l, _ => by simp [chunks]
 | K + 1, l, h => by
   have h0 : l ≠ [] := fun e => by rw [e] at h; simp at h; omega
   rw [chunks, if_neg h0, List.range_succ_eq_map, List.map_cons, List.map_map]
   have ih := chOfm_all K (l.drop 8) (by rw [List.length_drop]; omega)
   rw [← ih]
   congr 1
   · simp only [chOfm, Nat.zero_mul, List.drop_zero, Nat.sub_zero]
     by_cases h8 : 8 ≤ l.length
     · rw [Nat.min_eq_left h8]
     · rw [Nat.min_eq_right (by omega), List.take_of_length_le (Nat.le_refl _), List.take_of_length_le (by omega)]
   · apply List.map_congr_left
     intro i _
     simp only [Function.comp, chOfm, List.drop_drop, List.length_drop]
     rw [show (i + 1) * 8 = 8 + i * 8 by omega, show l.length - 8 - i * 8 = l.length - (8 + i * 8) by omega]
def OfAt (p q n₁ : Nat) (gs : List (List Ce)) (W : World) : Prop :=
 ∃ v vs bs, W.heap[p]? = some (.cells #[.bool true, v] 109 (0, 0)) ∧ W.ownsRow n₁ 134 1 v gs.length vs ∧ PList vs gs bs W ∧ bs.Nodup ∧ (∀ b ∈ bs, n₁ ≤ b) ∧ Boxed W q 28 (.pointer (some ⟨p, 0, none⟩)) ∧ p < n₁ ∧ q < n₁ ∧ p ≠ q ∧ n₁ ≤ W.heap.size ∧ (gs = [] → v = .slice none 0 0)
theorem PList.snoc {vs : List Value} {gs : List (List Ce)} {bs : List Nat} {w : World} {v : Value} {g : List Ce} {b : Nat} (h : PList vs gs bs w) (k : PageAt v g b w) : PList (vs ++ [v]) (gs ++ [g]) (bs ++ [b]) w := h.app ⟨k, trivial⟩
theorem OfAt.kept {p q n₁ : Nat} {gs : List (List Ce)} {W W' : World} {row : Option Nat} (h : OfAt p q n₁ gs W) (hg : W.grownBy W' row) (hr : ∀ r, row = some r → ∃ o : Obj, W.heap[r]? = some o ∧ o.isCells = false) : OfAt p q n₁ gs W' := by
 obtain ⟨v, vs, bs, h1, h2, h3, h4, h5, h6, h7, h8, h9, h10, h11⟩ := h
 have key : ∀ (r : Nat) (cur : Array Value) (t : TypeId), W.heap[r]? = some (.cells cur t (0, 0)) → W'.heap[r]? = W.heap[r]? := fun r cur t hc => hg.block r (Go.ltA hc) fun e => by
  obtain ⟨o, ho, hn⟩ := hr r e.symm
  rw [hc] at ho
  cases ho
  cases hn
 refine ⟨v, vs, bs, (key _ _ _ h1).trans h1, h2.kept hg ?_, h3.same fun b hb => ?_, h4, h5, (key _ _ _ h6).trans h6, h7, h8, h9, Nat.le_trans h10 hg.size, h11⟩
 · cases row with
   | none => 
     rcases hv : v.ownBlock with _ | r
     · exact .inl rfl
     · exact .inr (by simp)
   | some r =>
     obtain ⟨o, ho, hn⟩ := hr r rfl
     exact .inr (own_not h2 ho fun cur e => by rw [e] at hn; cases hn)
 · obtain ⟨cur, hc⟩ := h3.ty b hb
   exact key _ _ _ hc
theorem OfAt.mem {p q n₁ : Nat} {gs : List (List Ce)} {W : World} (h : OfAt p q n₁ gs W) (ok : PagesOk gs) : ∃ fs, Mem p gs.flatten fs W ∧ ∀ b ∈ fs, b = p ∨ n₁ ≤ b := by
 obtain ⟨v, vs, bs, h1, h2, h3, h4, h5, h6, h7, h8, h9, h10, h11⟩ := h
 rcases h2.2 with ⟨rfl, e⟩ | ⟨g, cap, cur, rfl, hb, hgb, hc1, hc2, hc3, hc4⟩
 · have e2 : gs = [] := List.eq_nil_of_length_eq_zero e
   subst e2
   exact ⟨[p], ⟨[], ⟨_, [], rfl, h1, .inl ⟨rfl, rfl, rfl⟩⟩, ok, rfl⟩, by simp⟩
 · by_cases h0 : 0 < gs.length
   · rw [Nat.mul_one] at hc3 hc4
     refine ⟨p :: g :: bs, ⟨gs, ⟨_, g :: bs, rfl, h1, PagesAt.shut h0 hc1 hc2 hgb hc3 h4 (by rw [hc4]; exact h3)⟩, ok, rfl⟩, fun b hb' => ?_⟩
     rcases List.mem_cons.1 hb' with rfl | hb'
     · exact .inl rfl
     · rcases List.mem_cons.1 hb' with rfl | hb'
       · exact .inr hb
       · exact .inr (h5 b hb')
   · have e2 : gs = [] := List.eq_nil_of_length_eq_zero (by omega)
     have := h11 e2
     cases this
theorem mem_set {p : Nat} {v : Value} {t : TypeId} {w : World} (h : w.heap[p]? = some (.cells #[.bool true, v] t (0, 0))) (v' : Value) : (w.setCell ⟨p, 1, none⟩ v').heap[p]? = some (.cells #[.bool true, v'] t (0, 0)) := by
 obtain ⟨hlt, hk⟩ := Array.getElem?_eq_some_iff.1 h
 show (w.heap.modify p _)[p]? = _
 rw [Array.getElem?_eq_getElem (by rw [Array.size_modify]; exact hlt), Array.getElem_modify_self, hk]
 rfl
theorem info_page : (Tryz.prog.info? 134).map (fun i => (i.zero, i.size, i.bytes)) = some (some (.slice none 0 0), 1, 24) := by kernel_rfl
theorem of_step {p q n₁ : Nat} {gs : List (List Ce)} {W : World} (h : OfAt p q n₁ gs W) (hn : gs.length ≤ 1000000) :
 ∃ v, W.heap[p]? = some (.cells #[.bool true, v] 109 (0, 0)) ∧ Boxed W q 28 (.pointer (some ⟨p, 0, none⟩)) ∧ p < n₁ ∧ n₁ ≤ W.heap.size ∧ q < n₁ ∧
  ∀ (g : List Ce) (w2 : World) (b' m cap' : Nat), Below W.heap.size W w2 → W.heap.size ≤ b' → PageAt (.slice (some ⟨b', 0, none⟩) m cap') g b' w2 →
   ∃ g' c' w3, ((Builtin.append_ #[107, 107] 107 #[v, .slice (some ⟨w2.heap.size, 0, none⟩) 1 1]).run Tryz.prog (w2.alloc (.cells #[.slice (some ⟨b', 0, none⟩) m cap'] 134)) = .ok (.slice (some ⟨g', 0, none⟩) (gs.length + 1) c') w3) ∧
    w3.heap[p]? = some (.cells #[.bool true, v] 109 (0, 0)) ∧ Boxed w3 q 28 (.pointer (some ⟨p, 0, none⟩)) ∧
    OfAt p q n₁ (gs ++ [g]) (w3.setCell ⟨p, 1, none⟩ (.slice (some ⟨g', 0, none⟩) (gs.length + 1) c')) ∧ KeepsOthers W (w3.setCell ⟨p, 1, none⟩ (.slice (some ⟨g', 0, none⟩) (gs.length + 1) c')) ∧ (∀ k, k < n₁ → k ≠ p → (w3.setCell ⟨p, 1, none⟩ (.slice (some ⟨g', 0, none⟩) (gs.length + 1) c')).heap[k]? = W.heap[k]?) ∧ (∀ B, B ≤ p → Below B W (w3.setCell ⟨p, 1, none⟩ (.slice (some ⟨g', 0, none⟩) (gs.length + 1) c'))) := by
 obtain ⟨v, vs, bs, h1, h2, h3, h4, h5, h6, h7, h8, h9, h10, h11⟩ := h
 refine ⟨v, h1, h6, h7, h10, h8, fun g w2 b' m cap' hb hb' hP => ?_⟩
 obtain ⟨i, hi, hz0, hz1, hz2⟩ := info_one info_page
 obtain ⟨X, hX⟩ : ∃ X, (Obj.cells #[.slice (some ⟨b', 0, none⟩) m cap'] 134 (0, 0)) = X := ⟨_, rfl⟩
 have hbX : Below W.heap.size W (w2.alloc X) := hb.alloc hb.size X
 have hsz := hb.size
 have hown := own_lat h2 hbX
 obtain ⟨v', w3, hrun, r1, r2, r3⟩ := run_append_own (P := Tryz.prog) (w2.alloc X) n₁ 107 107 134 i _ 1 24 Tryz.underlying107 hi hz0 hz1 hz2 rfl (by decide) v gs.length vs hown ⟨w2.heap.size, 0, none⟩ 1 1 [.slice (some ⟨b', 0, none⟩) m cap'] rfl
  (by rw [← hX]; exact cell_one_new _ _ _) (by simp [Value.oneCell']) (by unfold maxLen; omega) (by omega) (by simp; omega)
 obtain ⟨g', c', hv'⟩ := ownsRow_succ r1
 have same : ∀ k, k < (w2.alloc X).heap.size → some k ≠ v.ownBlock → w3.heap[k]? = (w2.alloc X).heap[k]? := r2.block
 have hXs : (w2.alloc X).heap.size = w2.heap.size + 1 := by simp
 have other : ∀ (k : Nat) (cur : Array Value) (t : TypeId), t ≠ 134 → W.heap[k]? = some (.cells cur t (0, 0)) → w3.heap[k]? = some (.cells cur t (0, 0)) := fun k cur t ht hk => by
  have h1 := (hbX.block k (Go.ltA hk)).trans hk
  exact (same k (Go.ltA h1) (fun e => own_not hown h1 (fun cur' e' => by cases e'; exact ht rfl) e.symm)).trans h1
 have hp3 := other p _ _ (by decide) h1
 have hq3 := other q _ _ (by decide) h6
 have low : ∀ k, k < n₁ → w3.heap[k]? = W.heap[k]? := fun k hk => by
  refine (same k (by omega) fun e => ?_).trans (hbX.block k (by omega))
  rcases hown.2 with ⟨rfl, _⟩ | ⟨g, cap, cur, rfl, hgb, _⟩
  · simp [Value.ownBlock] at e
  · have e2 : k = g := by simpa [Value.ownBlock] using e
    omega
 have hset : ∀ k, k ≠ p → (w3.setCell ⟨p, 1, none⟩ v').heap[k]? = w3.heap[k]? := fun k hk => Below.heap_setCell w3 ⟨p, 1, none⟩ v' k hk
 refine ⟨g', c', w3, ?_⟩
 rw [← hv']
 refine ⟨hX ▸ hrun, hp3, hq3, ⟨v', vs ++ [.slice (some ⟨b', 0, none⟩) m cap'], bs ++ [b'], mem_set hp3 v', ?_, ?_, ?_, ?_, ?_, h7, h8, h9, ?_, by simp⟩, ?_, fun k h1 h2 => (hset k h2).trans (low k h1), fun B hB => ?_⟩
 · rw [List.length_append]
   refine own_same r1 fun g hg => hset g ?_
   rintro rfl
   rcases r1.2 with ⟨rfl, _⟩ | ⟨g2, cap, cur, rfl, hgb, _⟩
   · simp [Value.ownBlock] at hg
   · have e2 : g2 = g := by simpa [Value.ownBlock] using hg
     omega
 · have pl : PList vs gs bs w3 := h3.same fun b hb2 => by
    obtain ⟨cur, hc⟩ := h3.ty b hb2
    exact (other b _ _ (by decide) hc).trans hc.symm
   have pg : PageAt (.slice (some ⟨b', 0, none⟩) m cap') g b' w3 := by
    obtain ⟨cap, cur, e1, e2, e3, e4, e5, e6⟩ := id hP
    have e7 := (Below.heap_alloc w2 X b' hP.lt).trans e4
    refine hP.same ((same b' (by have := hP.lt; omega) fun e => ?_).trans (Below.heap_alloc w2 X b' hP.lt))
    exact own_not hown e7 (fun cur' e' => by cases e') e.symm
   refine (pl.snoc pg).same fun b hb2 => hset b ?_
   rcases List.mem_append.1 hb2 with hb2 | hb2
   · have := h5 b hb2; omega
   · have : b = b' := by simpa using hb2
     omega
 · refine List.nodup_append.2 ⟨h4, by simp, fun a ha b hb2 => ?_⟩
   have e1 := h3.lt a ha
   have : b = b' := by simpa using hb2
   omega
 · intro b hb2
   rcases List.mem_append.1 hb2 with hb2 | hb2
   · exact h5 b hb2
   · have : b = b' := by simpa using hb2
     omega
 · exact (hset q (by omega)).trans hq3
 · rw [World.size_setCell]
   have := r2.size
   omega
 · have k1 : KeepsOthers W (w2.alloc X) := ⟨hbX.size, fun k o hk _ => (hbX.block k (Go.ltA hk)).trans hk⟩
   refine (k1.trans (KeepsOthers.of_grownBy r2 fun j o ej hj => ?_)).trans (KeepsOthers.setCell _ _ _)
   rcases hown.2 with ⟨rfl, _⟩ | ⟨g2, cap, cur, rfl, _, hgb, _⟩
   · simp [Value.ownBlock] at ej
   · have e2 : g2 = j := by simpa [Value.ownBlock] using ej
     rw [← e2, hgb] at hj
     cases hj
     rfl
 · have hbB : Below B W (w2.alloc X) := hbX.mono (by omega)
   refine below_set (hbB.grown r2 (by omega) fun k ek => ?_) hB 1 v'
   rcases hown.2 with ⟨rfl, _⟩ | ⟨g2, cap, cur, rfl, hgb, _⟩
   · simp [Value.ownBlock] at ek
   · have e2 : g2 = k := by simpa [Value.ownBlock] using ek
     omega
set_option maxRecDepth 100000 in
set_option maxHeartbeats 8000000 in
theorem of_any (s : Value) (l : List Ce) (w : World) (hs : SlAt s l w) (hr : Rise l) (hm : ∀ c ∈ l, c.may = true) (hbig : l.length ≤ 100000) :
 Calls Tryz.prog 55 #[s] w fun e w' => ∃ p fs, e = .returned (.pointer (some ⟨p, 0, none⟩)) ∧ Mem p l fs w' ∧ (∀ b ∈ fs, w.heap.size ≤ b) ∧ Below w.heap.size w w' := by
 obtain ⟨A, cap, rfl, hlc, hcap, hrow⟩ := hs
 obtain ⟨b, o, hA⟩ : ∃ b o, 0 < l.length → A = some ⟨b, o, none⟩ ∧ RowAt b o l w := by
  by_cases h : 0 < l.length
  · obtain ⟨b, o, h1, h2⟩ := hrow h
    exact ⟨b, o, fun _ => ⟨h1, h2⟩⟩
  · exact ⟨0, 0, fun h' => absurd h' h⟩
 clear hrow
 refine (callsIn_wide (n := 5)).1 ?_
 refine callsIn_of_wp_marks Tryz.func55 rfl trivial ?_ rfl
 simp only [Tryz.ntmps55, List.size_toArray, List.length_cons, List.length_nil, Nat.reduceAdd, Nat.reduceSub, Array.replicate_succ, Array.replicate_zero, List.push_toArray, List.append_toArray, List.nil_append, List.cons_append]
 gi_wp2_with (first
  | (refine ⟨trivial, ?_⟩; gi_at_call 25; refine (callsIn_wide.2 (newM_any _)).mono ?_; rintro e w1 ⟨rfl, M1, B1⟩; have B1s := B1.size)
  | (refine ⟨trivial, ?_⟩; gi_at_call 63; refine (chunkm_in _ _ _ _ _).mono ?_; rintro e w2 ⟨rfl, rfl⟩))
 obtain ⟨gs0, ⟨v0, fs0, e0, hp0, hP0⟩, ok0, hL0⟩ := M1
 obtain rfl : gs0 = [] := by
  cases gs0 with
  | nil => rfl
  | cons g gs =>
    have := ok0.some g (by simp)
    rw [List.flatten_cons] at hL0
    rw [(List.append_eq_nil_iff.1 hL0).1] at this
    simp at this
 obtain rfl : v0 = .slice none 0 0 := by
  rcases hP0 with ⟨h, _⟩ | ⟨g, cap, cur, bs, _, h, _⟩
  · exact h
  · simp at h
 have hpl := (Go.ltA hp0)
 obtain ⟨p, hpe⟩ : ∃ p, w.heap.size = p := ⟨_, rfl⟩
 obtain ⟨q, hqe⟩ : ∃ q, w1.heap.size = q := ⟨_, rfl⟩
 have bQ := Boxed.new w1 28 (.pointer (some ⟨p, 0, none⟩))
 have bS := Boxed.new (w1.alloc (.cells #[.pointer (some ⟨p, 0, none⟩)] 28)) 22 (.slice A l.length cap)
 have bN := Boxed.new ((w1.alloc (.cells #[.pointer (some ⟨p, 0, none⟩)] 28)).alloc (.cells #[.slice A l.length cap] 22)) 3 (.int .i64 8)
 rw [World.size_alloc] at bS
 rw [World.size_alloc, World.size_alloc] at bN
 have bQ := (bQ.alloc (.cells #[.slice A l.length cap] 22)).alloc (.cells #[.int .i64 8] 3)
 have bS := bS.alloc (.cells #[.int .i64 8] 3)
 have B0 := ((B1.alloc B1s (.cells #[.pointer (some ⟨p, 0, none⟩)] 28)).alloc (by simp; omega) (.cells #[.slice A l.length cap] 22)).alloc (by simp; omega) (.cells #[.int .i64 8] 3)
 have hp1 := (Below.heap_alloc _ (.cells #[.int .i64 8] 3) _ (by simp; omega)).trans ((Below.heap_alloc _ (.cells #[.slice A l.length cap] 22) _ (by simp; omega)).trans ((Below.heap_alloc w1 (.cells #[.pointer (some ⟨p, 0, none⟩)] 28) _ hpl).trans hp0))
 have hsz : (((w1.alloc (.cells #[.pointer (some ⟨p, 0, none⟩)] 28)).alloc (.cells #[.slice A l.length cap] 22)).alloc (.cells #[.int .i64 8] 3)).heap.size = q + 3 := by simp; omega
 rw [hpe]
 obtain ⟨W0, hW0⟩ : ∃ W0, (((w1.alloc (.cells #[.pointer (some ⟨p, 0, none⟩)] 28)).alloc (.cells #[.slice A l.length cap] 22)).alloc (.cells #[.int .i64 8] 3)) = W0 := ⟨_, rfl⟩
 rw [hW0] at bQ bS bN B0 hp1 hsz ⊢
 rw [hqe] at bQ bS bN ⊢
 rw [hpe] at B0 hp1
 have hpq : p < q := by rw [← hpe, ← hqe]; exact hpl
 have hO : OfAt p q (q + 3) [] W0 := ⟨_, [], [], hp1, World.ownsRow_nil _ _ _ _, trivial, List.nodup_nil, by simp, bQ, by omega, by omega, by omega, by omega, fun _ => rfl⟩
 clear hp1 hp0 hP0 ok0 hL0 B1 B1s e0 hW0 hqe hpl
 refine wpIn_rangeFunc_ownG rfl (by omega) (gf := 88) (lb := #[.pointer (some ⟨q + 1, 0, none⟩), .pointer (some ⟨q + 2, 0, none⟩)]) rfl trivial (enters_of Tryz.func88 (by kernel_rfl) rfl)
  (chunkm_stops 4 (by omega) (q + 1) (q + 2) p b o l.length cap A (fun h => (hA h).1) (by omega) hlc hcap W0 bS bN) KpCm.trans (KpCm.book (by omega) (by omega) (by omega)) (Below.refl _ _) (fun _ => rfl)
  (fun pre W => OfAt p q (q + 3) (pre.map fun x => chOfm l x.1) W ∧ Below p w W)
  (fun _ _ _ => False)
  (OwnFrom.and (Own.from (fun s A B row hs hg hr => hs.kept hg hr) _) (ownFrom_below (by omega) (by omega)))
  (fun _ _ _ _ _ hs _ _ => hs)
  ⟨hO, B0⟩
  (fun x => { tmps := #[.slice A l.length cap, undef, .pointer none, .pointer (some ⟨q, 0, none⟩), .slice (some ⟨b, o + x.1 * 8 * 3, none⟩) (min 8 (l.length - x.1 * 8)) (min 8 (l.length - x.1 * 8)), .pointer (some ⟨p, 0, none⟩), .slice A l.length cap, .func (.func 88) #[] #[.pointer (some ⟨q + 1, 0, none⟩), .pointer (some ⟨q + 2, 0, none⟩)], .slice (some ⟨b, o + x.1 * 8 * 3, none⟩) (min 8 (l.length - x.1 * 8)) (min 8 (l.length - x.1 * 8)), undef, undef, undef, undef, undef, undef, undef, undef, undef, undef, undef, undef], defers := [] }) ?assign ?body ?done ?stop
 case assign =>
  intro lp x W K hK
  gi_wp2
  exact hK
 case body =>
  rintro lp pre ⟨i, hi⟩ W ⟨hI, hB⟩ hlt
  obtain ⟨rfl, hRow⟩ := hA (by omega)
  obtain ⟨v, hp, hbq, hpn, hnW, hqn, step⟩ := of_step hI (by rw [List.length_map]; omega)
  obtain ⟨m, hm⟩ : ∃ m, min 8 (l.length - i * 8) = m := ⟨_, rfl⟩
  have hpart := (hRow.later hB (by have := hRow.1; omega)).part (i * 8) m (by omega)
  have cl := fun W' (hb : Below W.heap.size W W') => cloneC_any b (o + i * 8 * 3) m m (chOfm l i) W' (by rw [chOfm, List.length_take, List.length_drop]; omega) (by omega) (by omega) (by rw [chOfm, hm]; exact hpart.later hb hpart.1)
  obtain ⟨f1, f2, f3, f4⟩ := Mem.cells hp
  have f5 := hbq.cell
  have hmx : Tryz.prog.follows .mixedOrders = true := by kernel_rfl
  have CL := Lib.hid cl
  have ST := Lib.hid step
  have KB := Lib.hid hB
  dsimp only
  rw [hm]
  clear hI hRow hpart cl step hB bQ bS bN B0 hO hr hm hlc hcap hA hp hbq hsz
  gi_wp2
  refine wpIn_region_late (fun W' => W'.cell? ⟨q, 0, none⟩ = some (.pointer (some ⟨p, 0, none⟩)) ∧ W'.cell? ⟨p, 1, none⟩ = some v) (fun j => j == 11) hmx ?_
  have hS : W.drew.cell? ⟨q, 0, none⟩ = some (.pointer (some ⟨p, 0, none⟩)) ∧ W.drew.cell? ⟨p, 1, none⟩ = some v := ⟨f5, f2⟩
  refine AnyS.take (i := 0) (.pointer (some ⟨p, 0, none⟩)) rfl (by kernel_rfl) (by kernel_rfl) (by kernel_rfl) (by kernel_rfl) (fun _ _ _ h => h) ⟨.inl ⟨rfl, fun w' hw' => by obtain ⟨h1, h2⟩ := hw'; go_simp⟩, fun _ => rfl⟩ hS ?_
  refine AnyS.take (i := 1) (.pointer (some ⟨p, 0, none⟩)) rfl (by kernel_rfl) (by kernel_rfl) (by kernel_rfl) (by kernel_rfl) (fun _ _ _ h => h) ⟨.inl ⟨rfl, fun w' hw' => by obtain ⟨h1, h2⟩ := hw'; go_simp⟩, fun _ => rfl⟩ hS ?_
  refine AnyS.take (i := 2) (.pointer (some ⟨p, 0, none⟩)) rfl (by kernel_rfl) (by kernel_rfl) (by kernel_rfl) (by kernel_rfl) (fun _ _ _ h => h) ⟨.inl ⟨rfl, fun w' hw' => by obtain ⟨h1, h2⟩ := hw'; go_simp⟩, fun _ => rfl⟩ hS ?_
  refine AnyS.take (i := 3) (.pointer (some ⟨p, 1, none⟩)) rfl (by kernel_rfl) (by kernel_rfl) (by kernel_rfl) (by kernel_rfl) (fun _ _ _ h => h) ⟨.inl ⟨rfl, fun w' hw' => by obtain ⟨h1, h2⟩ := hw'; go_simp⟩, fun _ => rfl⟩ hS ?_
  refine AnyS.take (i := 4) (v) rfl (by kernel_rfl) (by kernel_rfl) (by kernel_rfl) (by kernel_rfl) (fun _ _ _ h => h) ⟨.inl ⟨rfl, fun w' hw' => by obtain ⟨h1, h2⟩ := hw'; go_simp⟩, fun _ => rfl⟩ hS ?_
  refine AnyS.take (i := 5) (.slice (some ⟨b, o + i * 8 * 3, none⟩) m m) rfl (by kernel_rfl) (by kernel_rfl) (by kernel_rfl) (by kernel_rfl) (fun _ _ _ h => h) ⟨.inl ⟨rfl, fun w' hw' => by obtain ⟨h1, h2⟩ := hw'; go_simp⟩, fun _ => rfl⟩ hS ?_
  refine AnyS.next (i := 6) rfl (by kernel_rfl) (by kernel_rfl) fun K hK => ?_
  go_simp
  refine ⟨trivial, (CallsIn.inRound lp (callsIn_wide.2 (CL.out _ (Below.drew (Below.refl _ _))))).mono ?_⟩
  rintro e w2 ⟨hb, b', cap', rfl, hb', hP⟩
  have B2 : Below W.heap.size W w2 := (Below.drew (Below.refl _ W)).trans hb
  obtain ⟨g', c', w3, hrun, g1, g2, hfin⟩ := ST.out (chOfm l i) w2 b' m cap' B2 hb' hP
  simp only [List.length_map] at hfin hrun
  have B3 := B2.alloc B2.size (.cells #[.slice (some ⟨b', 0, none⟩) m cap'] 134)
  refine hK _ _ (fun _ => ⟨(B2.cell (p := ⟨q, 0, none⟩) (by simp; omega)).trans f5, (B2.cell (p := ⟨p, 1, none⟩) f4).trans f2⟩) ?_
  clear hK K
  refine AnyS.next (i := 7) rfl (by kernel_rfl) (by kernel_rfl) fun K hK => ?_
  go_simp
  refine hK _ _ (fun _ => ⟨(B3.cell (p := ⟨q, 0, none⟩) (by simp; omega)).trans f5, (B3.cell (p := ⟨p, 1, none⟩) f4).trans f2⟩) ?_
  clear hK K
  refine AnyS.next (i := 8) rfl (by kernel_rfl) (by kernel_rfl) fun K hK => ?_
  refine want_yes rfl ?_
  refine opIn_value _ (fun c h => by cases h) rfl (exec_append (s := .tmp 13) (x := .tmp 16) rfl rfl rfl hrun) ?_
  refine hK _ _ (fun _ => ⟨g2.cell, (Mem.cells g1).2.1⟩) ?_
  clear hK K
  have a5 := g2.cell
  obtain ⟨-, a6, a7, -⟩ := Mem.cells g1
  refine AnyS.next (i := 9) rfl (by kernel_rfl) (by kernel_rfl) fun K hK => ?_
  go_simp
  refine hK _ _ (fun _ => ⟨a5, a6⟩) ?_
  clear hK K
  refine AnyS.next (i := 10) rfl (by kernel_rfl) (by kernel_rfl) fun K hK => ?_
  go_simp
  refine hK _ _ (fun _ => ⟨a5, a6⟩) ?_
  clear hK K
  refine AnyS.next (i := 11) rfl (by kernel_rfl) (by kernel_rfl) fun K hK => ?_
  go_simp
  refine hK _ _ (fun h => by cases h) ?_
  clear hK K
  refine AnyS.done (by kernel_rfl) ?_ _
  obtain ⟨r1, r2, r3, r4⟩ := hfin
  have hBB := r4 p (Nat.le_refl _)
  exact ⟨r2.from _, ⟨hBB, r3 (q + 1) (by omega) (by omega), r3 (q + 2) (by omega) (by omega)⟩, by rw [List.map_append]; exact r1, KB.out.trans hBB⟩
 case done =>
  rintro D ys W hD ⟨K, hK1, hK2, hys⟩ ⟨hI, hB⟩ hK
  have hgs : (ys.map fun x => chOfm l x.1) = chunks K l := by
   rw [← chOfm_all K l hK2, ← hys, List.map_map]
   rfl
  rw [hgs] at hI
  obtain ⟨fs, M, hfs⟩ := hI.mem (chunks_ok hK1 hr hm)
  rw [chunks_flat K l hK1] at M
  obtain ⟨_, _, _, -, -, -, -, -, hbq, -⟩ := hI
  have f5 := hbq.cell
  have HM := Lib.hid M
  have HH := Lib.hid hfs
  have HB := Lib.hid hB
  have HD := Lib.hid hD
  clear M hfs hB hgs hys hK1 hK2 hbq hO bQ bS bN B0 hA hD
  gi_wp2
  refine ⟨by simp, .inl ⟨_, _, rfl, run_takeDeferred hK, ?_⟩⟩
  refine ⟨_, results_tmp rfl _ _ _, p, fs, rfl, ?_, ?_, ?_⟩
  · exact HM.out.same fun b hb => World.putObj_heap_other fun e => by
     obtain ⟨cur, t, hc⟩ := HM.out.block b hb
     rw [e, hK] at hc
     cases hc
  · intro b hb
    rcases HH.out b hb with rfl | h <;> omega
  · rw [hpe]
    exact HB.out.trans (belowK_b (w := W0) (by omega) W D _ _ HD.out hK rfl rfl)
 case stop =>
  rintro D c pre W _ _ h _
  exact h.elim
end Go.Proofs.YtoglloafpnopaaaGreat
