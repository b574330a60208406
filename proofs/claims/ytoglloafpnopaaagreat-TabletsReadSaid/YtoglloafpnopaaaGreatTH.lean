/- strings.Builder beside other memory: which blocks a text more changes. slices.Chunk over cells, by fours. The walks of sums, the program's and the document's: what a text's four bytes are. -/
import Derived.Test.YtoglloafpnopaaaGreatTB
import Derived.Test.YtoglloafpnopaaaGreatTC
import Derived.Test.YtoglloafpnopaaaGreatRoundS
import Derived.Test.YtoglloafpnopaaaGreatTables0
import Derived.Test.YtoglloafpnopaaaGreatTabG
import Derived.RangeFuncNested
import Derived.RangeFuncBound
import Derived.RangeFuncCalls
import Derived.RangeFuncLeaves
import Derived.RangeFuncBox
import Derived.Shelf.Abstract
import Derived.Shelf.RegionOpen
import Derived.OwnWalkIn
import Derived.TacticsInMore
import Derived.LoopNIn
import Derived.LoopIn
import Derived.Laws.BitsAllLaws
import Derived.StillTailTactics
import Derived.Deep.RegionWith
set_option linter.unusedSimpArgs false
set_option linter.unusedVariables false
namespace Go.Proofs.YtoglloafpnopaaaGreat
set_option maxRecDepth 16000
open Go.RowKit Spoor
def BldF (b : Nat) (l : List UInt8) (fs : List Nat) (w : World) : Prop :=
 b ∈ fs ∧ (∀ x ∈ fs, x < w.heap.size) ∧ ∃ p v, (p = .pointer none ∨ p = .pointer (some ⟨b, 0, none⟩)) ∧ w.heap[b]? = some (.cells #[p, v] 75 (0, 0)) ∧ w.ownsRow 0 5 1 v l.length (Lib.byteCells l) ∧ ∀ k, v.ownBlock = some k → k ∈ fs ∧ k ≠ b
theorem byteCells_length (l : List UInt8) : (Lib.byteCells l).length = l.length := by simp [Lib.byteCells]
theorem BldF.same {b : Nat} {l : List UInt8} {fs : List Nat} {w w' : World} (h : BldF b l fs w) (hk : ∀ x ∈ fs, w'.heap[x]? = w.heap[x]?) (hs : w.heap.size ≤ w'.heap.size) : BldF b l fs w' := by
 obtain ⟨h1, h2, p, v, hp, h3, h4, h5⟩ := h
 refine ⟨h1, fun x hx => Nat.lt_of_lt_of_le (h2 x hx) hs, p, v, hp, (hk b h1).trans h3, ?_, h5⟩
 refine ⟨h4.1, ?_⟩
 rcases h4.2 with h | ⟨g, cap, cur, rfl, hb, hg, h6⟩
 · exact .inl h
 · exact .inr ⟨g, cap, cur, rfl, hb, (hk g (h5 g rfl).1).trans hg, h6⟩
theorem BldF.fr {b : Nat} {l : List UInt8} {fs S : List Nat} {w w' : World} (h : BldF b l fs w) (f : Fr S w w') (hd : ∀ x ∈ fs, x ∉ S) : BldF b l fs w' := by
 have h2 := h.2.1
 exact h.same (fun x hx => f.block x (h2 x hx) (hd x hx)) f.size
theorem BldF.later {b : Nat} {l : List UInt8} {fs : List Nat} {w w' : World} (h : BldF b l fs w) (hb : Below w.heap.size w w') : BldF b l fs w' := h.fr (S := []) (Fr.of_below hb) (by simp)
theorem BldF.fresh (w : World) : BldF w.heap.size [] [w.heap.size] (w.alloc (.cells #[.pointer none, .slice none 0 0] 75)) :=
 ⟨by simp, fun x hx => by rw [List.mem_singleton] at hx; subst hx; simp, _, _, .inl rfl, heap_alloc_new w _, World.ownsRow_nil _ _ _ _, fun k hk => by simp [Value.ownBlock] at hk⟩
theorem append_string_at {w : World} {v v' : Value} {w' : World} {n : Nat} {xs : List Value} {t u ty e : TypeId} {i : TypeInfo} (ht : Tryz.prog.underlying t = some (.slice e)) (hu : Tryz.prog.underlying u = some .string) (hi : Tryz.prog.info? e = some i) (hz : i.zero = some (.int .u8 0)) (hsize : i.size = 1) (hby : i.bytes = 1)
 (own : w.ownsRow 0 e 1 v n xs) (s : ByteArray) (h63 : n + s.size ≤ maxLen) (hbytes : n + s.size ≤ 140737488355328)
 (hr : (Builtin.append_ #[t, u] ty #[v, .string s]).run Tryz.prog w = .ok v' w') (h4 : v' = .slice none 0 0 ↔ v = .slice none 0 0 ∧ s.size = 0) : v'.ownBlock = v.ownBlock ∨ v'.ownBlock = some w.heap.size := by
 have hsmall : n + s.size ≤ 9223372036854775807 := by simp only [maxLen] at h63; omega
 rcases own.2 with ⟨rfl, rfl⟩ | ⟨g, cap, cur, rfl, hbg, hg, hnc, hcm, hcs, htake⟩
 · by_cases hm : s.size = 0
   · exact .inl (by rw [h4.2 ⟨rfl, hm⟩])
   · have h := run_append_nil_string (P := Tryz.prog) w t u ty e i (.int .u8 0) ht hu hi hz s (by omega) (by omega) (by rw [hby]; omega)
     rw [h] at hr
     injection hr with e1 e2
     rw [← e1]
     exact .inr rfl
 · by_cases hroom : n + s.size ≤ cap
   · have h := Lib.run_append_room_string (P := Tryz.prog) w t u ty e i ht hu hi hsize g n cap cur hg s hroom (by omega)
     rw [h] at hr
     injection hr with e1 e2
     rw [← e1]
     exact .inl rfl
   · have hxl : xs.length = n := by simpa using own.1
     have holds : ∀ j u, xs[j]? = some u → w.cell? ((⟨g, 0, none⟩ : Addr).add j) = some u := own.cells (g := g) rfl
     have h := Lib.run_append_grow_string (P := Tryz.prog) w t u ty e i (.int .u8 0) ht hu hi hz ⟨g, 0, none⟩ n cap xs (by rw [hsize]; simpa using hxl) holds s (by omega) (by omega) (by rw [hby]; exact growslice_fits (by omega) (by omega))
     rw [h] at hr
     injection hr with e1 e2
     rw [← e1]
     exact .inr rfl
theorem copyCheckF_any (b : Nat) (l : List UInt8) (fs : List Nat) (w : World) (h : BldF b l fs w) :
 Calls Tryz.prog 65 #[.pointer (some ⟨b, 0, none⟩)] w fun e w' => e = .returned (.tuple #[]) ∧ (∃ v, w'.heap[b]? = some (.cells #[.pointer (some ⟨b, 0, none⟩), v] 75 (0, 0)) ∧ w'.ownsRow 0 5 1 v l.length (Lib.byteCells l) ∧ ∀ k, v.ownBlock = some k → k ∈ fs ∧ k ≠ b) ∧ Fr fs w w' := by
 obtain ⟨h1, h2, p, v, hp, h3, h4, h5⟩ := h
 rcases hp with rfl | rfl
 · have hsh : w.shape? b = some (75, 2) := by simp [World.shape?, h3]
   refine (copyCheck_fresh b w (by rw [Lib.cell_of_heap h3]; rfl) hsh (Lib.frozen_of_heap h3 0)).mono ?_
   rintro e w' ⟨rfl, rfl⟩
   refine ⟨rfl, ⟨v, ?_, ?_, h5⟩, (Fr.refl fs w).set ⟨b, 0, none⟩ (.inl h1) _⟩
   · rw [heap_setCell_same w b 0 _ _ _ h3]
     rfl
   · refine ⟨h4.1, ?_⟩
     rcases h4.2 with h | ⟨g, cap, cur, rfl, hb, hg, h6⟩
     · exact .inl h
     · exact .inr ⟨g, cap, cur, rfl, hb, (Below.heap_setCell w ⟨b, 0, none⟩ _ g (h5 g rfl).2).trans hg, h6⟩
 · refine (copyCheck_used b w (by rw [Lib.cell_of_heap h3]; rfl)).mono ?_
   rintro e w' ⟨rfl, rfl⟩
   exact ⟨rfl, ⟨v, h3, h4, h5⟩, Fr.refl _ _⟩
set_option maxRecDepth 100000 in
theorem writeF_any (b : Nat) (l : List UInt8) (fs : List Nat) (s : List UInt8) (w : World) (h : BldF b l fs w) (hlen : l.length + s.length ≤ 140737488355328) :
 Calls Tryz.prog 32 #[.pointer (some ⟨b, 0, none⟩), .string ⟨s.toArray⟩] w fun e w' => e = .returned (.tuple #[.int .i64 s.length, .nilIface]) ∧ ∃ fs', BldF b (l ++ s) fs' w' ∧ (∀ x ∈ fs', x ∈ fs ∨ w.heap.size ≤ x) ∧ Fr fs w w' := by
 obtain ⟨i0, hi, hz0, hz1, hz2⟩ := info_parts info_u8
 have hss : (⟨s.toArray⟩ : ByteArray).size = s.length := by simp [ByteArray.size]
 have hB := h.1
 have hL := h.2.1
 have cc := copyCheckF_any b l fs w h
 have CC := Lib.hid cc
 clear cc h
 go_enter Tryz.func32, Tryz.ntmps32
 go_wp2_with fail
 refine CC.out.mono ?_
 rintro e w1 ⟨rfl, ⟨v, hbk, own, hne⟩, f1⟩
 have hlt : b < w1.heap.size := (Go.ltA hbk)
 obtain ⟨v', w2, run, own', gr, h4⟩ := Lib.run_append_own_string (P := Tryz.prog) w1 0 73 9 73 5 i0 Tryz.underlying73 Tryz.underlying9 hi hz0 hz1 hz2 v l.length (Lib.byteCells l) own ⟨s.toArray⟩ (by rw [hss]; unfold maxLen; omega) (by rw [hss]; omega) (Nat.zero_le _)
 have hat := append_string_at Tryz.underlying73 Tryz.underlying9 hi hz0 hz1 hz2 own ⟨s.toArray⟩ (by rw [hss]; unfold maxLen; omega) (by rw [hss]; omega) run h4
 have c0 : w1.cell? ⟨b, 0, none⟩ = some (.pointer (some ⟨b, 0, none⟩)) := by rw [Lib.cell_of_heap hbk]; rfl
 have c1 : w1.cell? ⟨b, 1, none⟩ = some v := by rw [Lib.cell_of_heap hbk]; rfl
 have hb2 : w2.heap[b]? = some (.cells #[.pointer (some ⟨b, 0, none⟩), v] 75 (0, 0)) := by
  rw [gr.block b hlt (fun e => (hne b e.symm).2 rfl)]
  exact hbk
 have d0 : w2.cell? ⟨b, 0, none⟩ = some (.pointer (some ⟨b, 0, none⟩)) := by rw [Lib.cell_of_heap hb2]; rfl
 have d1 : w2.cell? ⟨b, 1, none⟩ = some v := by rw [Lib.cell_of_heap hb2]; rfl
 have fz : w2.frozen? ⟨b, 1, none⟩ = false := Lib.frozen_of_heap hb2 1
 obtain ⟨ao, n', cap, rfl⟩ : ∃ ao n' cap, v' = .slice ao n' cap := by
  rcases own'.2 with ⟨hv, _⟩ | ⟨g, cap, cur, hv, _⟩
  · exact ⟨_, _, _, hv⟩
  · exact ⟨_, _, _, hv⟩
 have hxx : Lib.byteCells l ++ Lib.strCells ⟨s.toArray⟩ = Lib.byteCells (l ++ s) := by rw [byteCells_append]
 rw [hss, hxx] at own'
 have f2 : Fr fs w w2 := f1.grown gr (fun k hk => .inl (hne k hk).1)
 have own3 : (w2.setCell ⟨b, 1, none⟩ (.slice ao n' cap)).ownsRow 0 5 1 (.slice ao n' cap) (l ++ s).length (Lib.byteCells (l ++ s)) ∧ ∀ k, (Value.slice ao n' cap).ownBlock = some k → k ≠ b ∧ k < w2.heap.size ∧ (k ∈ fs ∨ w.heap.size ≤ k) := by
  have hk : ∀ k, (Value.slice ao n' cap).ownBlock = some k → k ≠ b ∧ k < w2.heap.size ∧ (k ∈ fs ∨ w.heap.size ≤ k) := by
   intro k hk
   refine ⟨?_, ?_, ?_⟩
   · rcases hat with e | e
     · exact (hne k (by rw [← e]; exact hk)).2
     · rw [hk] at e
       injection e with e
       omega
   · rcases own'.2 with ⟨hv, _⟩ | ⟨g, cap', cur, hv, _, hg, _⟩
     · rw [hv] at hk; simp [Value.ownBlock] at hk
     · rw [hv] at hk
       obtain rfl : g = k := by simpa [Value.ownBlock] using hk
       exact (Go.ltA hg)
   · rcases hat with e | e
     · exact .inl (hne k (by rw [← e]; exact hk)).1
     · rw [hk] at e
       injection e with e
       have := f1.size
       exact .inr (by omega)
  refine ⟨?_, hk⟩
  rw [List.length_append]
  refine ⟨own'.1, ?_⟩
  rcases own'.2 with h | ⟨g, cap', cur, hv, hb, hg, h6⟩
  · exact .inl h
  · exact .inr ⟨g, cap', cur, hv, hb, (Below.heap_setCell w2 ⟨b, 1, none⟩ _ g (hk g (by rw [hv]; rfl)).1).trans hg, h6⟩
 have hfin : ∃ fs', BldF b (l ++ s) fs' (w2.setCell ⟨b, 1, none⟩ (.slice ao n' cap)) ∧ (∀ x ∈ fs', x ∈ fs ∨ w.heap.size ≤ x) ∧ Fr fs w (w2.setCell ⟨b, 1, none⟩ (.slice ao n' cap)) := by
  have hbl : (w2.setCell ⟨b, 1, none⟩ (.slice ao n' cap)).heap[b]? = some (.cells #[.pointer (some ⟨b, 0, none⟩), .slice ao n' cap] 75 (0, 0)) := by
   rw [heap_setCell_same w2 b 1 _ _ _ hb2]
   rfl
  have hfr := f2.set ⟨b, 1, none⟩ (.inl hB) (.slice ao n' cap)
  rcases ho : (Value.slice ao n' cap).ownBlock with _ | g
  · refine ⟨[b], ⟨by simp, fun x hx => ?_, _, _, .inr rfl, hbl, own3.1, fun k hk => by rw [ho] at hk; cases hk⟩, fun x hx => ?_, hfr⟩
    · rw [List.mem_singleton] at hx
      subst hx
      simpa [World.setCell] using Nat.lt_of_lt_of_le hlt gr.size
    · rw [List.mem_singleton] at hx
      subst hx
      exact .inl hB
  · obtain ⟨g1, g2, g3⟩ := own3.2 g ho
    refine ⟨[b, g], ⟨by simp, fun x hx => ?_, _, _, .inr rfl, hbl, own3.1, fun k hk => ?_⟩, fun x hx => ?_, hfr⟩
    · rcases List.mem_cons.1 hx with rfl | hx
      · simpa [World.setCell] using Nat.lt_of_lt_of_le hlt gr.size
      · rw [List.mem_singleton] at hx
        subst hx
        simpa [World.setCell] using g2
    · rw [ho] at hk
      injection hk with hk
      subst hk
      exact ⟨by simp, g1⟩
    · rcases List.mem_cons.1 hx with rfl | hx
      · exact .inl hB
      · rw [List.mem_singleton] at hx
        subst hx
        exact g3
 have HF := Lib.hid hfin
 have RUN := Lib.hid run
 clear hfin own3 f2 hxx own' hat run h4 gr hb2 hbk own hne f1 CC hB hL
 go_wp2_with (at_builtin; refine wpList_append_runE _ rfl _ _ 73 9 rfl _ _ rfl rfl RUN.out ?_)
 go_ret2
 exact ⟨by simp [ByteArray.size], HF.out⟩
open Go.Shelf
attribute [local go_sem] Oper.semAt_some
def chV (b o len i : Nat) : Value := .slice (some ⟨b, o + i * 4 * 3, none⟩) (min 4 (len - i * 4)) (min 4 (len - i * 4))
abbrev Ch (len : Nat) := { i : Nat // i * 4 < len }
def KpC (n₀ B1 B2 : Nat) (W W' : World) : Prop := Below n₀ W W' ∧ W'.heap[B1]? = W.heap[B1]? ∧ W'.heap[B2]? = W.heap[B2]?
theorem KpC.refl (n₀ B1 B2 : Nat) (W : World) : KpC n₀ B1 B2 W W := ⟨Below.refl _ _, rfl, rfl⟩
theorem KpC.trans {n₀ B1 B2 : Nat} {A B C : World} (h : KpC n₀ B1 B2 A B) (k : KpC n₀ B1 B2 B C) : KpC n₀ B1 B2 A C := ⟨h.1.trans k.1, k.2.1.trans h.2.1, k.2.2.trans h.2.2⟩
theorem KpC.book {n₀ B1 B2 : Nat} {w : World} (hn : n₀ ≤ w.heap.size) (h1 : B1 < w.heap.size) (h2 : B2 < w.heap.size) (W : World) (l : Nat) (o o' : Obj) (hl : w.heap.size ≤ l) (h : W.heap[l]? = some o) (hc : o.isCells = false) (hw : o.isWalk = false) : KpC n₀ B1 B2 W (W.putObj l o') :=
 ⟨belowK_b hn W l o o' hl h hc hw, World.putObj_heap_other (by omega), World.putObj_heap_other (by omega)⟩
theorem KpC.drew {n₀ B1 B2 : Nat} {A B : World} (h : KpC n₀ B1 B2 A B) : KpC n₀ B1 B2 A B.drew := ⟨Below.drew h.1, h.2.1, h.2.2⟩
theorem grownBy_drew (w : World) : w.grownBy w.drew none := ⟨rfl, rfl, rfl, Nat.le_refl _, fun _ _ _ => rfl⟩
set_option maxRecDepth 100000 in
set_option maxHeartbeats 4000000 in
theorem chunk1_in (n : Nat) (hn : 1 ≤ n) (l B1 B2 n₀ b o len cap : Nat) (A : Option Addr) (hA : 0 < len → A = some ⟨b, o, none⟩) (hlen : len ≤ 1000000) (hlc : len ≤ cap) (hcap : cap ≤ maxLen) (J Jx : List (Ch len) → World → Prop) (hJa : ∀ s W, J s W → J s W.drew)
 (hY : ∀ pre x W, J pre W → pre.length < len → YieldAt Fence.wide (n - 1) Tryz.prog l #[chV b o len x.1] W fun e W' =>
   (e = .returned (.bool true) ∧ J (pre ++ [x]) W' ∧ KpC n₀ B1 B2 W W') ∨ (e = .returned (.bool false) ∧ Jx (pre ++ [x]) W'))
 (W : World) (hB1 : Boxed W B1 22 (.slice A len cap)) (hB2 : Boxed W B2 3 (.int .i64 4)) (h0 : J [] W) :
 CallsIn Fence.wide n Tryz.prog 88 #[.func (.yield l) #[] #[], .pointer (some ⟨B1, 0, none⟩), .pointer (some ⟨B2, 0, none⟩)] W fun e W' => (∃ v, e = .returned v) ∧
  ((∃ ys : List (Ch len), (∃ K, len ≤ K * 4 ∧ K * 4 < len + 4 ∧ ys.map (·.1) = List.range K) ∧ J ys W') ∨ (∃ pre, True ∧ Jx pre W')) := by
 refine callsIn_of_wp Tryz.func88 rfl trivial ?_ rfl
 simp only [Tryz.ntmps88, List.size_toArray, List.length_cons, List.length_nil, Nat.reduceAdd, Nat.reduceSub, Array.replicate_succ, Array.replicate_zero, List.push_toArray, List.append_toArray, List.nil_append, List.cons_append]
 unfold maxLen at hcap
 gi_wp2
 gi_loopw [4] (fun i wr => ∃ k : Nat, k * 4 < len + 4 ∧ i = .int .i64 (k * 4 : Nat) ∧ (∃ pre : List (Ch len), pre.map (·.1) = List.range k ∧ J pre wr) ∧ KpC n₀ B1 B2 W wr)
  (fun i _ => len + 4 - (intOf i).toNat)
 case atStart => exact ⟨0, by omega, rfl, ⟨[], rfl, h0⟩, KpC.refl _ _ _ _⟩
 case round =>
  obtain ⟨k, hk, rfl, ⟨pre, hpre, hJs⟩, hnx⟩ := hrel
  have hb1 : Boxed wr B1 22 (.slice A len cap) := hnx.2.1.trans hB1
  have hb2 : Boxed wr B2 3 (.int .i64 4) := hnx.2.2.trans hB2
  have c1 := hb1.cell
  have c2 := hb2.cell
  have hpl : pre.length = k := by have := congrArg List.length hpre; simpa using this
  by_cases hlt : k * 4 < len
  · obtain rfl := hA (by omega)
    obtain ⟨fn, tmps, assign, body, hy, hR⟩ := hY pre ⟨k, hlt⟩ wr.drew (hJa _ _ hJs) (by omega)
    dsimp only [chV] at hy
    have HN := Lib.hid hnx
    have HP := Lib.hid hpre
    obtain ⟨m, hm⟩ : ∃ m, min 4 (len - k * 4) = m := ⟨_, rfl⟩
    rw [hm] at hy
    have hmi : min (4 : Int) ((len - k * 4 : Nat) : Int) = (m : Int) := by omega
    have HY := Lib.hid hy
    have HR := Lib.hid hR
    have HB := Lib.hid (show Boxed wr.drew B2 3 (.int .i64 4) from hb2)
    have hk0 : wrap64 ((k : Int) * 4 + 4) = (k : Int) * 4 + 4 := by unfold wrap64; omega
    clear hJs hpre hY hJa h0 hnx hb1 hb2 hB1 hB2 hy hR
    have hk1 : (((k * 4 : Nat) : Int) < (len : Int)) := by omega
    have hk2 : (0 : Int) ≤ (k * 4 : Nat) := by omega
    have hk3 : ((k * 4 : Nat) : Int) ≤ len := by omega
    gi_wp2
    gi_region
    all_goals
     have hk4 : (k : Int) * 4 + m ≤ cap := by omega
     have hk5 : wrap64 ((k : Int) * 4 + m) = (k : Int) * 4 + m := by unfold wrap64; omega
     have hk6 : (k : Int) * 4 ≤ (k : Int) * 4 + m := by omega
     have hk7 : ((k : Int) * 4).toNat = k * 4 := by omega
     have hk8 : ((k : Int) * 4 + m).toNat = k * 4 + m := by omega
     have hk9 : k * 4 + m - k * 4 = m := by omega
     have hy := HY.out
     gi_wp2
     refine HR.out.mono ?_
     rintro e W3 (⟨rfl, hJ3, hk3⟩ | ⟨rfl, hJx3⟩)
     · have c3 := (show Boxed W3 B2 3 (.int .i64 4) from hk3.2.2.trans HB.out).cell
       gi_wp2
       go_roundw
       case rel => exact ⟨k + 1, by omega, by simp; omega, ⟨_, by simp [HP.out, List.range_succ], hJ3⟩, HN.out.drew.trans hk3⟩
       case measure => simp [intOf]; omega
     · gi_wp2
       refine bodyPost_ret (results_none rfl _ _ _) rfl ?_
       exact ⟨⟨_, rfl⟩, .inr ⟨_, trivial, hJx3⟩⟩
  · have HJ := Lib.hid hJs
    have HP := Lib.hid hpre
    clear hJs hpre hY hJa h0 hnx hb1 hb2 hB1 hB2
    have hk' : ¬ (((k * 4 : Nat) : Int) < (len : Int)) := by omega
    gi_wp2
    go_end0
    exact ⟨⟨_, rfl⟩, .inl ⟨pre, ⟨k, by omega, by omega, HP.out⟩, HJ.out⟩⟩
set_option maxHeartbeats 1000000 in
theorem chunk_in (n : Nat) (A : Option Addr) (len cap : Nat) (w : World) :
 CallsIn Fence.wide n Tryz.prog 63 #[.slice A len cap, .int .i64 4] w fun e w' => e = .returned (.func (.func 88) #[] #[.pointer (some ⟨w.heap.size, 0, none⟩), .pointer (some ⟨w.heap.size + 1, 0, none⟩)]) ∧ w' = (w.alloc (.cells #[.slice A len cap] 22)).alloc (.cells #[.int .i64 4] 3) := by
 refine callsIn_of_wp Tryz.func63 rfl trivial ?_ rfl
 simp only [Tryz.ntmps63, List.size_toArray, List.length_cons, List.length_nil, Nat.reduceAdd, Nat.reduceSub, Array.replicate_succ, Array.replicate_zero, List.push_toArray, List.append_toArray, List.nil_append, List.cons_append]
 gi_wp2
 go_ret
 exact ⟨rfl, rfl⟩
theorem chunk_stops (n : Nat) (hn : 1 ≤ n) (B1 B2 n₀ b o len cap : Nat) (A : Option Addr) (hA : 0 < len → A = some ⟨b, o, none⟩) (hlen : len ≤ 1000000) (hlc : len ≤ cap) (hcap : cap ≤ maxLen) (w : World) (hB1 : Boxed w B1 22 (.slice A len cap)) (hB2 : Boxed w B2 3 (.int .i64 4)) :
 SeqStopsK Fence.wide n Tryz.prog 88 #[.pointer (some ⟨B1, 0, none⟩), .pointer (some ⟨B2, 0, none⟩)] (fun x : Ch len => #[chV b o len x.1]) (KpC n₀ B1 B2)
  (fun ys => ∃ K, len ≤ K * 4 ∧ K * 4 < len + 4 ∧ ys.map (·.1) = List.range K) (fun _ => True) len w := fun l J Jx W hW hJ _ hY h0 =>
 chunk1_in n hn l B1 B2 n₀ b o len cap A hA hlen hlc hcap J Jx (fun s W hs => hJ s W _ none hs (grownBy_drew W) (by simp)) hY W ((hW.block B1 hB1.lt).trans hB1) ((hW.block B2 hB2.lt).trans hB2) h0
def parO (st : Nat × Nat) : Obj := .cells #[.int .i64 st.1, .int .i64 st.2] 194
theorem of_one (w : World) : Calls Tryz.prog 118 #[.int .u32 1] w fun e w' => e = .returned (.agg #[.int .i64 1, .int .i64 0]) ∧ Below w.heap.size w w' := by
 have nb := (Below.refl w.heap.size w).alloc (Nat.le_refl _) (.cells #[.int .i64 1, .int .i64 0] 194)
 have hb : (wrap64 (bits BinOp.and IntKind.u32 1 65535)).tmod 65521 = 1 := by decide +kernel
 have y0 : (w.alloc (.cells #[.int .i64 1, .int .i64 0] 194)).cell? ⟨w.heap.size, 0, none⟩ = some (.int .i64 1) := by rw [World.cell?_alloc_at _ _ _ _ (by simp)]; rfl
 have y1 : (w.alloc (.cells #[.int .i64 1, .int .i64 0] 194)).cell? ⟨w.heap.size, 1, none⟩ = some (.int .i64 0) := by rw [World.cell?_alloc_at _ _ _ _ (by simp)]; rfl
 go_enter Tryz.func118, Tryz.ntmps118
 go_wp2_with fail
 generalize w.alloc _ = w9 at *
 refine bodyPost_ret (v := .agg #[.int .i64 1, .int .i64 0]) (by simp [results, Tryz.results118, go_sem, y0, y1]) rfl ⟨rfl, nb⟩
theorem add_any (P B : Nat) (a b : Nat) (c : UInt8) (w : World) (h : w.heap[P]? = some (parO (a, b))) (ha : a < 65521) (hb : b < 65521) (hB : B ≤ P) :
 Calls Tryz.prog 120 #[.pointer (some ⟨P, 0, none⟩), .int .u8 c.toNat] w fun e w' => e = .returned (.tuple #[]) ∧ w'.heap[P]? = some (parO (adStep (a, b) c)) ∧ Below B w w' := by
 have hc := c.toNat_lt
 obtain ⟨A, hA⟩ : ∃ A : Nat, (a + c.toNat) % 65521 = A := ⟨_, rfl⟩
 obtain ⟨D, hD⟩ : ∃ D : Nat, (b + A) % 65521 = D := ⟨_, rfl⟩
 have hA2 : ((a : Int) + (c.toNat : Int)) % 65521 = (A : Int) := by omega
 have hD2 : ((b : Int) + (A : Int)) % 65521 = (D : Int) := by omega
 have hAl : A < 65521 := by omega
 have hD3 : (IntKind.i64.wrap ((b : Int) + (A : Int))).tmod 65521 = (D : Int) := by
  rw [show IntKind.i64.wrap ((b : Int) + (A : Int)) = (b : Int) + (A : Int) by rw [IntKind.wrap_i64]; omega, Int.tmod_eq_emod_of_nonneg (by omega)]
  exact hD2
 have hst : adStep (a, b) c = (A, D) := by unfold adStep; simp only [hA, hD]
 rw [hst]
 have c0 : w.cell? ⟨P, 0, none⟩ = some (.int .i64 a) := by unfold parO at h; simp [World.cell?, h]
 have c1 : w.cell? ⟨P, 1, none⟩ = some (.int .i64 b) := by unfold parO at h; simp [World.cell?, h]
 have f0 : w.frozen? ⟨P, 0, none⟩ = false := by unfold parO at h; simp [World.frozen?, h]
 have f1 : w.frozen? ⟨P, 1, none⟩ = false := by unfold parO at h; simp [World.frozen?, h]
 have hfin : ((w.setCell ⟨P, 0, none⟩ (.int .i64 A)).setCell ⟨P, 1, none⟩ (.int .i64 D)).heap[P]? = some (parO (A, D)) := by
  unfold parO at h
  have h1 := heap_setCell_same w P 0 _ _ (.int .i64 (A : Int)) h
  have h2 := heap_setCell_same _ P 1 _ _ (.int .i64 (D : Int)) h1
  rw [h2]
  rfl
 have HF := Lib.hid hfin
 have hbl := ((Below.refl B w).setCell (p := ⟨P, 0, none⟩) hB (.int .i64 A)).setCell (p := ⟨P, 1, none⟩) hB (.int .i64 D)
 have HL := Lib.hid hbl
 clear h hfin hbl hst hA hD
 go_enter Tryz.func120, Tryz.ntmps120
 go_wp2_with fail
 go_region_with fail
 all_goals
  go_wp2_with fail
  go_end0
  exact ⟨rfl, HF.out, HL.out.drew⟩
set_option maxRecDepth 100000 in
theorem eachS_any (P : Nat) (s : List UInt8) (w : World) (h : w.heap[P]? = some (parO (1, 0))) (hs : s.length ≤ 140737488351232) :
 Calls Tryz.prog 119 #[.string ⟨s.toArray⟩, .func (.func 120) #[.pointer (some ⟨P, 0, none⟩)] #[]] w fun e w' => e = .returned (.tuple #[]) ∧ w'.heap[P]? = some (parO (adler (1, 0) s)) ∧ Below P w w' := by
 obtain ⟨n, hn⟩ : ∃ n, s.length = n := ⟨_, rfl⟩
 have HN := Lib.hid hn
 have H := Lib.hid h
 rw [hn] at hs
 clear h hn
 go_enter Tryz.func119, Tryz.ntmps119
 go_wp2_with fail
 rw [HN.out]
 go_loopw [7] (fun i wr => ∃ k : Nat, i = .int .i64 k ∧ k ≤ n ∧ Hid (wr.heap[P]? = some (parO (adler (1, 0) (s.take k))) ∧ Below P w wr)) (fun i _ => n - (intOf i).toNat)
 case atStart => exact ⟨0, rfl, by omega, Lib.hid ⟨H.out, Below.refl _ _⟩⟩
 case round =>
  obtain ⟨k, rfl, hk, HQ⟩ := hrel
  by_cases hlt : k < n
  · have hkl : k < s.length := by rw [HN.out]; exact hlt
    have i1 := fun W => at_of s k hkl W
    have hlt2 := adler_lt (s.take k) (1, 0) ⟨by decide, by decide⟩
    have ac := add_any P P (adler (1, 0) (s.take k)).1 (adler (1, 0) (s.take k)).2 (s.getD k 0) wr HQ.out.1 hlt2.1 hlt2.2 (Nat.le_refl _)
    have hnext : adStep (adler (1, 0) (s.take k)) (s.getD k 0) = adler (1, 0) (s.take (k + 1)) := by
     rw [take_getD s k hkl, adler_snoc]
    obtain ⟨c, hc⟩ : ∃ c, s.getD k 0 = c := ⟨_, rfl⟩
    rw [hc] at i1 ac hnext
    have AC := Lib.hid ac
    have HX := Lib.hid hnext
    clear ac hnext hlt2 hkl hc
    go_wp2_with fail
    refine AC.out.mono ?_
    rintro e w1 ⟨rfl, h1, b1⟩
    rw [show (adStep ((adler (1, 0) (s.take k)).1, (adler (1, 0) (s.take k)).2) c) = adler (1, 0) (s.take (k + 1)) from HX.out] at h1
    have HY := Lib.hid (And.intro h1 (HQ.out.2.trans b1))
    clear h1 b1 AC HX HQ i1
    go_wp2_with fail
    go_roundw
    case rel => exact ⟨k + 1, rfl, by omega, HY⟩
    case measure => simp [intOf]; omega
  · obtain rfl : k = n := by omega
    have HF := Lib.hid (show wr.heap[P]? = some (parO (adler (1, 0) s)) ∧ Below P w wr by have := HQ.out; rwa [← HN.out, List.take_length] at this)
    clear HQ
    go_wp2_with fail
    go_end0
    exact ⟨rfl, HF.out⟩
theorem or_u32 (b a : Nat) (hb : b < 65521) (ha : a < 65521) : bits BinOp.or IntKind.u32 ((b : Int) * 65536) (a : Int) = ((b * 65536 + a : Nat) : Int) := by
 have hx : (b * 65536) ||| a < 2 ^ 32 := Nat.or_lt_two_pow (by omega) (by omega)
 have h1 : (BitVec.ofInt 32 ((b * 65536 : Nat) : Int)).toNat = b * 65536 := by
  rw [BitVec.ofInt_natCast, BitVec.toNat_ofNat]; exact Nat.mod_eq_of_lt (by omega)
 have h2 : (BitVec.ofInt 32 (a : Int)).toNat = a := by
  rw [BitVec.ofInt_natCast, BitVec.toNat_ofNat]; exact Nat.mod_eq_of_lt (by omega)
 rw [show (b : Int) * 65536 = ((b * 65536 : Nat) : Int) by omega]
 show IntKind.u32.wrap ((BitVec.ofInt 32 ((b * 65536 : Nat) : Int) ||| BitVec.ofInt 32 (a : Int)).toNat : Int) = _
 rw [BitVec.toNat_or, h1, h2, nat_join 16 _ _ (by omega) (by omega), IntKind.wrap_u32']
 omega
theorem sumP_any (P : Nat) (a b : Nat) (w : World) (h : w.heap[P]? = some (parO (a, b))) (ha : a < 65521) (hb : b < 65521) :
 Calls Tryz.prog 121 #[.pointer (some ⟨P, 0, none⟩)] w fun e w' => e = .returned (.int .u32 ((b * 65536 + a : Nat) : Int)) ∧ Below w.heap.size w w' := by
 have c0 : w.cell? ⟨P, 0, none⟩ = some (.int .i64 a) := by unfold parO at h; simp [World.cell?, h]
 have c1 : w.cell? ⟨P, 1, none⟩ = some (.int .i64 b) := by unfold parO at h; simp [World.cell?, h]
 have ho := or_u32 b a hb ha
 have w1 : IntKind.u32.wrap (b : Int) = (b : Int) := by rw [IntKind.wrap_u32']; omega
 have w2 : IntKind.u32.wrap ((b : Int) * 65536) = (b : Int) * 65536 := by rw [IntKind.wrap_u32']; omega
 have w3 : IntKind.u32.wrap (a : Int) = (a : Int) := by rw [IntKind.wrap_u32']; omega
 generalize ((b * 65536 + a : Nat) : Int) = S at *
 clear h
 go_enter Tryz.func121, Tryz.ntmps121
 go_wp2_with fail
 go_region_with fail
 all_goals
  go_wp2_with fail
  go_ret
  exact ⟨rfl, (Below.refl _ _).drew⟩
theorem more_any (s : List UInt8) (w : World) (hs : s.length ≤ 140737488351232) :
 Calls Tryz.prog 90 #[.int .u32 1, .string ⟨s.toArray⟩] w fun e w' => e = .returned (.int .u32 (sumN s : Nat)) ∧ Below w.heap.size w w' := by
 have hlt := adler_lt s (1, 0) ⟨by decide, by decide⟩
 have HL := Lib.hid hlt
 clear hlt
 go_enter Tryz.func90, Tryz.ntmps90
 go_wp2_with fail
 refine (of_one w).mono ?_
 rintro e w1 ⟨rfl, b1⟩
 have nb := (Below.refl w1.heap.size w1).alloc (Nat.le_refl _) (parO (1, 0))
 have h0 : (w1.alloc (parO (1, 0))).heap[w1.heap.size]? = some (parO (1, 0)) := heap_alloc_new w1 _
 have ec := eachS_any w1.heap.size s (w1.alloc (parO (1, 0))) h0 hs
 have EC := Lib.hid ec
 have HB := Lib.hid (b1.trans (nb.mono b1.size))
 have HS := Lib.hid b1.size
 clear ec nb h0 b1
 unfold parO at EC HB
 go_wp2_with fail
 refine EC.out.mono ?_
 rintro e w2 ⟨rfl, h2, b2⟩
 have sc := sumP_any w1.heap.size (adler (1, 0) s).1 (adler (1, 0) s).2 w2 h2 HL.out.1 HL.out.2
 have SC := Lib.hid sc
 have HB2 := Lib.hid (HB.out.trans (b2.mono HS.out))
 clear sc h2 b2 EC
 go_wp2_with fail
 refine SC.out.mono ?_
 rintro e w3 ⟨rfl, b3⟩
 have B3 := btP HB2.out b3
 clear b3 SC
 go_wp2_with fail
 go_ret
 exact ⟨rfl, B3⟩
theorem sumN_any (s : List UInt8) (w : World) (hs : s.length ≤ 140737488351232) :
 Calls Tryz.prog 69 #[.string ⟨s.toArray⟩] w fun e w' => e = .returned (.int .u32 (sumN s : Nat)) ∧ Below w.heap.size w w' := by
 go_enter Tryz.func69, Tryz.ntmps69
 go_wp2_with fail
 refine (more_any s w hs).mono ?_
 rintro e w1 ⟨rfl, b1⟩
 go_wp2_with fail
 go_ret
 exact ⟨rfl, b1⟩
theorem run_append_byte {base : Nat} {v : Value} {l : List UInt8} {w : World} (own : w.ownsRow base 5 1 v l.length (row l)) (hb : base ≤ w.heap.size) (g : Nat) (c : UInt8) (hg : w.heap[g]? = some (.cells #[.int .u8 c.toNat] 5 (0, 0))) (hsz : l.length ≤ 100000) :
 ∃ v' w', (Builtin.append_ #[73, 73] 73 #[v, .slice (some ⟨g, 0, none⟩) 1 1]).run Tryz.prog w = .ok v' w' ∧ w'.ownsRow base 5 1 v' (l ++ [c]).length (row (l ++ [c])) ∧ Below base w w' := by
 obtain ⟨j0, gi, gz0, gz1, gz2⟩ := info_one info_u8
 obtain ⟨v', w', hr, r1, r2⟩ := run_append_every2 (P := Tryz.prog) w 73 73 73 base 5 5 j0 _ 1 1 Tryz.underlying73 Tryz.underlying73 gi gz0 gz1 gz2 rfl (by decide) v l.length (row l) own (some ⟨g, 0, none⟩) 1 1 [.int .u8 c.toNat] rfl
  (fun _ => ⟨_, rfl, fun j u hj => by
    cases j with
    | zero =>
      simp at hj
      subst hj
      simp [World.cell?, hg, Addr.add]
    | succ j => simp at hj⟩) (fun u hu => by simp at hu; subst hu; rfl) (by unfold maxLen; omega) (by omega) hb
 refine ⟨v', w', hr, ?_, ?_⟩
 · rw [List.length_append]
   have : row (l ++ [c]) = row l ++ [.int .u8 c.toNat] := by simp [row]
   rw [this]
   exact r1
 · refine (Below.refl base w).grown r2 hb fun k hk => ?_
   rcases own.2 with ⟨rfl, _⟩ | ⟨g, c, cur, rfl, hg, _⟩
   · simp [Value.ownBlock] at hk
   · have : g = k := by simpa [Value.ownBlock] using hk
     omega
def byteOf (n k : Nat) : UInt8 := UInt8.ofNat (n / 2 ^ (24 - 8 * k) % 256)
def bytesTo (n k : Nat) : List UInt8 := (List.range k).map (byteOf n)
theorem bytesTo_succ (n k : Nat) : bytesTo n (k + 1) = bytesTo n k ++ [byteOf n k] := by simp [bytesTo, List.range_succ]
theorem bytesTo_four (n : Nat) (h : n < 4294967296) : bytesTo n 4 = sum4 n := by
 have e : bytesTo n 4 = [byteOf n 0, byteOf n 1, byteOf n 2, byteOf n 3] := rfl
 rw [e]
 unfold sum4 byteOf
 have h1 : n / 2 ^ (24 - 8 * 0) % 256 = n / 16777216 := by
  show n / 16777216 % 256 = _
  omega
 rw [h1]
 simp
theorem bytes_any (n : Nat) (w : World) (h : n < 4294967296) :
 Calls Tryz.prog 68 #[.int .u32 n] w fun e w' => e = .returned (.string ⟨(sum4 n).toArray⟩) ∧ Below w.heap.size w w' := by
 have h4 := Lib.hid (bytesTo_four n h)
 go_enter Tryz.func68, Tryz.ntmps68
 go_wp2_with fail
 go_loopw [3, 4] (fun v i wr => ∃ k : Nat, k ≤ 4 ∧ i = .int .i64 (24 - 8 * (k : Int)) ∧ Hid (wr.ownsRow w.heap.size 5 1 v (bytesTo n k).length (row (bytesTo n k)) ∧ Below w.heap.size w wr)) (fun _ i _ => (intOf i + 8).toNat)
 case atStart => exact ⟨0, by omega, rfl, Lib.hid ⟨World.ownsRow_nil _ _ _ _, Below.refl _ _⟩⟩
 case round =>
  obtain ⟨k, hk, rfl, HQ⟩ := hrel
  by_cases hlt : k < 4
  · have e1 : 8 * (k : Int) ≤ 24 := by omega
    obtain ⟨c, hc⟩ : ∃ c, byteOf n k = c := ⟨_, rfl⟩
    have hc2 : (n : Int) / 2 ^ (24 - 8 * k) % 256 = (c.toNat : Int) := by
     rw [← hc]
     unfold byteOf
     rw [show (n : Int) / 2 ^ (24 - 8 * k) % 256 = ((n / 2 ^ (24 - 8 * k) % 256 : Nat) : Int) by simp]
     have hm : n / 2 ^ (24 - 8 * k) % 256 < 256 := Nat.mod_lt _ (by decide)
     simp
    have hbl := bytesTo_succ n k
    rw [hc] at hbl
    have nb := (Below.refl wr.heap.size wr).alloc (Nat.le_refl _) (.cells #[.int .u8 c.toNat] 5)
    have hbs := HQ.out.2.size
    obtain ⟨v', w', run, own, b2⟩ := run_append_byte (own_lat HQ.out.1 nb) (Nat.le_trans hbs nb.size) wr.heap.size c (heap_alloc_new wr _) (by simp [bytesTo]; omega)
    rw [← hbl] at own
    have HX := Lib.hid (And.intro own ((HQ.out.2.trans (nb.mono hbs)).trans b2))
    have RUN := Lib.hid run
    clear run own b2 nb hbs hbl hc HQ
    go_wp2_with (at_builtin; refine wpList_append_runE _ rfl _ _ 73 73 rfl _ _ rfl rfl RUN.out ?_)
    go_roundw
    case rel => exact ⟨k + 1, by omega, by go_num, HX⟩
    case measure => simp [intOf]; omega
  · obtain rfl : k = 4 := by omega
    have hcv : ∃ A m cap, u3 = .slice A m cap ∧ (convert 73 9 (.slice A m cap)).run Tryz.prog wr = .ok (.string ⟨(sum4 n).toArray⟩) wr := by
     have own := HQ.out.1
     rw [h4.out] at own
     rcases own.2 with ⟨_, h0⟩ | ⟨g, cap, cur, rfl, _⟩
     · cases h0
     · exact ⟨_, _, cap, rfl, convert_row wr Tryz.underlying73 Tryz.underlying5 Tryz.underlying9 own⟩
    obtain ⟨A, m, cap, rfl, hcv⟩ := hcv
    have HB := Lib.hid HQ.out.2
    clear HQ
    go_wp2_with fail
    go_ret
    exact ⟨rfl, HB.out⟩
theorem sumB_any (s : List UInt8) (w : World) (hs : s.length ≤ 140737488351232) :
 Calls Tryz.prog 35 #[.string ⟨s.toArray⟩] w fun e w' => e = .returned (.string ⟨(sumB s).toArray⟩) ∧ Below w.heap.size w w' := by
 have hl := sumN_lt s
 have cc := fun W => bytes_any (sumN s) W hl
 have CC := Lib.hid cc
 have SC := Lib.hid (sumN_any s w hs)
 unfold sumB
 clear cc
 generalize sumN s = n at *
 go_enter Tryz.func35, Tryz.ntmps35
 go_wp2_with fail
 refine SC.out.mono ?_
 rintro e w1 ⟨rfl, b1⟩
 go_wp2_with fail
 refine (CC.out _).mono ?_
 rintro e w2 ⟨rfl, b2⟩
 go_wp2_with fail
 go_ret
 exact ⟨rfl, btP b1 b2⟩
end Go.Proofs.YtoglloafpnopaaaGreat
