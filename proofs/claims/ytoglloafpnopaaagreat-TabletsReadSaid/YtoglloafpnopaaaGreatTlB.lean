/- tablets' has and cut. tablets' Range. -/
import Derived.Test.YtoglloafpnopaaaGreatTK
import Derived.Test.YtoglloafpnopaaaGreatMA
import Derived.Test.YtoglloafpnopaaaGreatMN
import Derived.Test.YtoglloafpnopaaaGreatMgA
import Derived.Test.YtoglloafpnopaaaGreatMgF
set_option linter.unusedSimpArgs false
set_option linter.unusedVariables false
namespace Go.Proofs.YtoglloafpnopaaaGreat
set_option maxRecDepth 16000
open Go.RowKit Spoor
def tabVal (F T : List UInt8) (M TA : Option Addr) (n cap : Nat) : Value := .agg #[.string ⟨F.toArray⟩, .string ⟨T.toArray⟩, .pointer M, .slice TA n cap]
theorem tab_box (F T : List UInt8) (M TA : Option Addr) (n cap : Nat) (w : World) : ∃ W q, w.alloc (.cells #[.string ⟨F.toArray⟩, .string ⟨T.toArray⟩, .pointer M, .slice TA n cap] 31) = W ∧ w.heap.size = q ∧ W.heap[q]? = some (.cells #[.string ⟨F.toArray⟩, .string ⟨T.toArray⟩, .pointer M, .slice TA n cap] 31 (0, 0)) ∧ Below w.heap.size w W ∧
 W.cell? ⟨q, 0, none⟩ = some (.string ⟨F.toArray⟩) ∧ W.cell? ⟨q, 1, none⟩ = some (.string ⟨T.toArray⟩) ∧ W.cell? ⟨q, 2, none⟩ = some (.pointer M) ∧ W.cell? ⟨q, 3, none⟩ = some (.slice TA n cap) ∧ W.frozen? ⟨q, 2, none⟩ = false := by
 have h := heap_alloc_new w (.cells #[.string ⟨F.toArray⟩, .string ⟨T.toArray⟩, .pointer M, .slice TA n cap] 31)
 have nb := (Below.refl w.heap.size w).alloc (Nat.le_refl _) (.cells #[.string ⟨F.toArray⟩, .string ⟨T.toArray⟩, .pointer M, .slice TA n cap] 31)
 generalize w.alloc (.cells #[.string ⟨F.toArray⟩, .string ⟨T.toArray⟩, .pointer M, .slice TA n cap] 31) = W at h nb ⊢
 obtain ⟨q, hq⟩ : ∃ q, w.heap.size = q := ⟨_, rfl⟩
 rw [hq] at h
 refine ⟨W, q, rfl, hq, h, nb, ?_⟩
 simp [World.cell?, World.frozen?, h]
theorem tabHas (F T key : List UInt8) (M TA : Option Addr) (n cap : Nat) (w : World) :
 Calls Tryz.prog 52 #[tabVal F T M TA n cap, .string ⟨key.toArray⟩] w fun e w' => e = .returned (.bool (inTab F T key)) ∧ Below w.heap.size w w' := by
 obtain ⟨W, q, hW, hq, -, nb, c0, c1, -⟩ := tab_box F T M TA n cap w
 unfold tabVal inTab
 have HB := Lib.hid nb
 clear nb
 cases h1 : Op.bytesLess key F with
 | true =>
   go_enter Tryz.func52, Tryz.ntmps52
   go_wp2_with fail
   go_ret
   exact ⟨rfl, HB.out⟩
 | false =>
   by_cases hT : T = []
   · subst hT
     go_enter Tryz.func52, Tryz.ntmps52
     go_wp2_with fail
     go_ret
     exact ⟨by simp, HB.out⟩
   · have e1 : (T == ([] : List UInt8)) = false := by simpa using hT
     cases h2 : Op.bytesLess key T with
     | true =>
       go_enter Tryz.func52, Tryz.ntmps52
       go_wp2_with fail
       go_ret
       exact ⟨by simp, HB.out⟩
     | false =>
       go_enter Tryz.func52, Tryz.ntmps52
       go_wp2_with fail
       go_ret
       exact ⟨by simp [hT], HB.out⟩
theorem max_str (x y : List UInt8) (W : World) : (Builtin.max_ #[9, 9] 9 #[.string ⟨x.toArray⟩, .string ⟨y.toArray⟩]).run Tryz.prog W = .ok (.string ⟨(cutA y x).toArray⟩) W := by
 unfold cutA
 simp [Builtin.max_, Builtin.max2, Op.stringOp]
 cases Op.bytesLess x y <;> simp [asBool]
theorem tabCut (F T x y : List UInt8) (M TA : Option Addr) (n cap : Nat) (w : World) :
 Calls Tryz.prog 48 #[tabVal F T M TA n cap, .string ⟨x.toArray⟩, .string ⟨y.toArray⟩] w fun e w' => e = .returned (.tuple #[.string ⟨(cutA F x).toArray⟩, .string ⟨(cutB T y).toArray⟩, .bool (cutOk (cutA F x) (cutB T y))]) ∧ Below w.heap.size w w' := by
 obtain ⟨W, q, hW, hq, -, nb, c0, c1, -⟩ := tab_box F T M TA n cap w
 have HB := Lib.hid nb
 have hmx := fun W => max_str x F W
 have key : ∀ (a b : List UInt8), cutA F x = a → cutB T y = b → Calls Tryz.prog 48 #[tabVal F T M TA n cap, .string ⟨x.toArray⟩, .string ⟨y.toArray⟩] w fun e w' => e = .returned (.tuple #[.string ⟨a.toArray⟩, .string ⟨b.toArray⟩, .bool (cutOk a b)]) ∧ Below w.heap.size w w' := by
  intro a b ha hb
  rw [ha] at hmx
  clear ha nb
  unfold tabVal cutOk
  unfold cutB at hb
  by_cases h1 : y = []
  · rw [if_pos h1] at hb
    subst h1 hb
    by_cases h2 : T = []
    · subst h2
      go_enter Tryz.func48, Tryz.ntmps48
      go_wp2_with fail
      refine bodyPost_ret (v := .tuple #[.string ⟨a.toArray⟩, .string ⟨[].toArray⟩, .bool true]) (by simp [results, Tryz.results48, go_sem, *]) rfl ?_
      exact ⟨by simp, HB.out⟩
    · have e1 : (T == ([] : List UInt8)) = false := by simpa using h2
      cases h3 : Op.bytesLess a T with
      | true =>
        go_enter Tryz.func48, Tryz.ntmps48
        go_wp2_with fail
        refine bodyPost_ret (v := .tuple #[.string ⟨a.toArray⟩, .string ⟨T.toArray⟩, .bool true]) (by simp [results, Tryz.results48, go_sem, *]) rfl ?_
        exact ⟨by simp, HB.out⟩
      | false =>
        go_enter Tryz.func48, Tryz.ntmps48
        go_wp2_with fail
        refine bodyPost_ret (v := .tuple #[.string ⟨a.toArray⟩, .string ⟨T.toArray⟩, .bool false]) (by simp [results, Tryz.results48, go_sem, *]) rfl ?_
        exact ⟨by simp [h2], HB.out⟩
  · have e0 : (y == ([] : List UInt8)) = false := by simpa using h1
    rw [if_neg h1] at hb
    by_cases h2 : T = []
    · rw [if_neg fun e => e.1 h2] at hb
      subst h2 hb
      cases h3 : Op.bytesLess a y with
      | true =>
        go_enter Tryz.func48, Tryz.ntmps48
        go_wp2_with fail
        refine bodyPost_ret (v := .tuple #[.string ⟨a.toArray⟩, .string ⟨y.toArray⟩, .bool true]) (by simp [results, Tryz.results48, go_sem, *]) rfl ?_
        exact ⟨by simp, HB.out⟩
      | false =>
        go_enter Tryz.func48, Tryz.ntmps48
        go_wp2_with fail
        refine bodyPost_ret (v := .tuple #[.string ⟨a.toArray⟩, .string ⟨y.toArray⟩, .bool false]) (by simp [results, Tryz.results48, go_sem, *]) rfl ?_
        exact ⟨by simp [h1], HB.out⟩
    · have e1 : (T == ([] : List UInt8)) = false := by simpa using h2
      cases h4 : Op.bytesLess T y with
      | true =>
        rw [if_pos ⟨h2, h4⟩] at hb
        subst hb
        cases h3 : Op.bytesLess a T with
        | true =>
          go_enter Tryz.func48, Tryz.ntmps48
          go_wp2_with fail
          refine bodyPost_ret (v := .tuple #[.string ⟨a.toArray⟩, .string ⟨T.toArray⟩, .bool true]) (by simp [results, Tryz.results48, go_sem, *]) rfl ?_
          exact ⟨by simp, HB.out⟩
        | false =>
          go_enter Tryz.func48, Tryz.ntmps48
          go_wp2_with fail
          refine bodyPost_ret (v := .tuple #[.string ⟨a.toArray⟩, .string ⟨T.toArray⟩, .bool false]) (by simp [results, Tryz.results48, go_sem, *]) rfl ?_
          exact ⟨by simp [h2], HB.out⟩
      | false =>
        rw [if_neg fun e => by rw [h4] at e; cases e.2] at hb
        subst hb
        cases h3 : Op.bytesLess a y with
        | true =>
          go_enter Tryz.func48, Tryz.ntmps48
          go_wp2_with fail
          refine bodyPost_ret (v := .tuple #[.string ⟨a.toArray⟩, .string ⟨y.toArray⟩, .bool true]) (by simp [results, Tryz.results48, go_sem, *]) rfl ?_
          exact ⟨by simp, HB.out⟩
        | false =>
          go_enter Tryz.func48, Tryz.ntmps48
          go_wp2_with fail
          refine bodyPost_ret (v := .tuple #[.string ⟨a.toArray⟩, .string ⟨y.toArray⟩, .bool false]) (by simp [results, Tryz.results48, go_sem, *]) rfl ?_
          exact ⟨by simp [h1], HB.out⟩
 exact key _ _ rfl rfl
def MemPtr (M : Option Addr) (L : List Ce) (W : World) : Prop := (M = none ∧ L = []) ∨ ∃ p fs, M = some ⟨p, 0, none⟩ ∧ Mem p L fs W
def TabPtr (P : Option Addr) (r : List Ce) (W : World) : Prop := (P = none ∧ r = []) ∨ ∃ t gs, P = some ⟨t, 0, none⟩ ∧ TabAt t gs W ∧ gs.flatten = r ∧ (∀ g ∈ gs, g ≠ []) ∧ gs.length ≤ 100000
def TabsAt (A : Option Addr) (n cap : Nat) (Ts : List (List Ce)) (W : World) : Prop := Ts.length = n ∧ n ≤ cap ∧ cap ≤ maxLen ∧ ∀ k, k < n → ∃ g o P, A = some ⟨g, o, none⟩ ∧ g < W.heap.size ∧ W.cell? ⟨g, o + k, none⟩ = some (.pointer P) ∧ TabPtr P (Ts.getD k []) W
def RowOk (r : List Ce) : Prop := r.length ≤ 5000 ∧ (∀ c ∈ r, FitsC c) ∧ sortedB r = true
theorem MemPtr.later {M : Option Addr} {L : List Ce} {W W' : World} (h : MemPtr M L W) (hb : Below W.heap.size W W') : MemPtr M L W' := by
 rcases h with h | ⟨p, fs, e, h⟩
 · exact .inl h
 · exact .inr ⟨p, fs, e, h.later hb⟩
theorem TabPtr.later {P : Option Addr} {r : List Ce} {W W' : World} (h : TabPtr P r W) (hb : Below W.heap.size W W') : TabPtr P r W' := by
 rcases h with h | ⟨t, gs, e, h, h2⟩
 · exact .inl h
 · exact .inr ⟨t, gs, e, h.later hb, h2⟩
theorem TabsAt.later {A : Option Addr} {n cap : Nat} {Ts : List (List Ce)} {W W' : World} (h : TabsAt A n cap Ts W) (hb : Below W.heap.size W W') : TabsAt A n cap Ts W' := by
 obtain ⟨h1, h2, h3, h4⟩ := h
 refine ⟨h1, h2, h3, fun k hk => ?_⟩
 obtain ⟨g, o, P, e, hg, hc, hp⟩ := h4 k hk
 exact ⟨g, o, P, e, Nat.lt_of_lt_of_le hg hb.size, (hb.cell (p := ⟨g, o + k, none⟩) hg).trans hc, hp.later hb⟩
theorem RowOk.rise {r : List Ce} (h : RowOk r) : Rise r := (sorted_rise.1 h.2.2).1
theorem RowOk.nil : RowOk [] := ⟨by simp, by simp, rfl⟩
theorem RowOk.range {r : List Ce} (h : RowOk r) (x y : List UInt8) : RowOk (rangeC r x y) := by
 have hs := sorted_rise.1 h.2.2
 refine ⟨Nat.le_trans (List.length_filter_le _ _) h.1, fun c hc => h.2.1 c (List.mem_filter.1 hc).1, sorted_rise.2 ⟨rise_filter hs.1 _, fun c hc => hs.2 c (List.mem_filter.1 hc).1⟩⟩
theorem rangeMNil_any (x y : List UInt8) (W : World) : Calls Tryz.prog 49 #[.pointer none, .string ⟨x.toArray⟩, .string ⟨y.toArray⟩] W fun e w' => e = .returned (.slice none 0 0) ∧ Below W.heap.size W w' := by
 go_enter Tryz.func49, Tryz.ntmps49
 go_wp2_with fail
 go_ret
 exact ⟨rfl, Below.refl _ _⟩
def GotR (r : List Ce) (w : World) (e : Ending) (w' : World) : Prop := Below w.heap.size w w' ∧ ∃ v, e = .returned v ∧ w'.ownsRow w.heap.size 38 3 v r.length (rowOf r)
theorem memRange_any (M : Option Addr) (L : List Ce) (x y : List UInt8) (W : World) (h : MemPtr M L W) (hL : RowOk L) :
 Calls Tryz.prog 49 #[.pointer M, .string ⟨x.toArray⟩, .string ⟨y.toArray⟩] W (GotR (rangeC L x y) W) := by
 rcases h with ⟨rfl, rfl⟩ | ⟨p, fs, rfl, h⟩
 · refine (rangeMNil_any x y W).mono ?_
   rintro e w' ⟨rfl, hb⟩
   exact ⟨hb, _, rfl, World.ownsRow_nil _ _ _ _⟩
 · exact rangeM_any p L fs x y W h (by have := hL.1; omega)
theorem tabRange_any (P : Option Addr) (r : List Ce) (x y : List UInt8) (W : World) (h : TabPtr P r W) (hL : RowOk r) :
 Calls Tryz.prog 50 #[.pointer P, .string ⟨x.toArray⟩, .string ⟨y.toArray⟩] W (GotR (rangeC r x y) W) := by
 rcases h with ⟨rfl, rfl⟩ | ⟨t, gs, rfl, h, rfl, h2, h3⟩
 · refine (rangeNil_any x y W).mono ?_
   rintro e w' ⟨rfl, hb⟩
   exact ⟨hb, _, rfl, World.ownsRow_nil _ _ _ _⟩
 · exact rangeT_any t gs x y W h hL.rise h2 h3 (by have := hL.1; omega)
theorem info_sl : (Tryz.prog.info? 22).map (fun i => (i.zero, i.size, i.bytes)) = some (some (.slice none 0 0), 1, 24) := by kernel_rfl
theorem SlC.same {v : Value} {l : List Ce} {W W' : World} (h : SlC v l W) (hs : W.heap.size ≤ W'.heap.size) (key : ∀ b, v.ownBlock = some b → W'.heap[b]? = W.heap[b]?) : SlC v l W' := by
 refine ⟨?_, fun b e => ?_⟩
 · obtain ⟨A, cap, rfl, h1, h2, h3⟩ := h.1
   refine ⟨A, cap, rfl, h1, h2, fun hl => ?_⟩
   obtain ⟨b, o2, rfl, hrow⟩ := h3 hl
   refine ⟨b, o2, rfl, Nat.lt_of_lt_of_le hrow.1 hs, fun i hi j u hj => ?_⟩
   rw [World.cell?_of_block (w := W) (key b rfl)]
   exact hrow.2 i hi j u hj
 · obtain ⟨cur, hc⟩ := h.2 b e
   exact ⟨cur, (key b e).trans hc⟩
theorem slC_own {base : Nat} {v : Value} {l : List Ce} {W : World} (h : W.ownsRow base 38 3 v l.length (rowOf l)) : SlC v l W := by
 refine ⟨slAt_own h, fun b e => ?_⟩
 rcases h.2 with ⟨rfl, _⟩ | ⟨g, cap, cur, rfl, _, hgb, _⟩
 · simp [Value.ownBlock] at e
 · have : g = b := by simpa [Value.ownBlock] using e
   exact ⟨cur, by rw [← this]; exact hgb⟩
theorem rows_append {base : Nat} {v : Value} {A : Option Addr} {n c : Nat} {vals : List Value} {W : World} (own : W.ownsRow base 22 1 v vals.length vals) (hb : base ≤ W.heap.size) (hn : vals.length ≤ 1000) (X : Nat)
 (hX : W.cell? ⟨X, 0, none⟩ = some (.slice A n c)) :
 ∃ v' w', (Builtin.append_ #[23, 23] 23 #[v, .slice (some ⟨X, 0, none⟩) 1 1]).run Tryz.prog W = .ok v' w' ∧ w'.ownsRow base 22 1 v' (vals ++ [Value.slice A n c]).length (vals ++ [Value.slice A n c]) ∧ Below base W w' ∧ (∀ u l, SlC u l W → SlC u l w') ∧ (∃ g c', v' = .slice (some ⟨g, 0, none⟩) (vals.length + 1) c') := by
 obtain ⟨i, hi, hz0, hz1, hz2⟩ := info_one info_sl
 obtain ⟨v', w', hrun, r1, r2, r3⟩ := run_append_own (P := Tryz.prog) W base 23 23 22 i _ 1 24 Tryz.underlying23 hi hz0 hz1 hz2 rfl (by decide) v vals.length vals own ⟨X, 0, none⟩ 1 1 [.slice A n c] rfl
  (fun j u hj => by
    match j, hj with
    | 0, hj => simp at hj; subst hj; exact hX
    | j + 1, hj => simp at hj) (by simp [Value.oneCell']) (by unfold maxLen; omega) (by omega) hb
 refine ⟨v', w', hrun, by rw [List.length_append]; exact r1, ?_, fun u l hu => hu.same r2.size fun b e => ?_, ownsRow_succ r1⟩
 · refine (Below.refl base W).grown r2 hb fun k hk => ?_
   rcases own.2 with ⟨rfl, _⟩ | ⟨g, c, cur, rfl, hg, _⟩
   · simp [Value.ownBlock] at hk
   · have : g = k := by simpa [Value.ownBlock] using hk
     omega
 · obtain ⟨cur, hc⟩ := hu.2 b e
   refine r2.block b (Go.ltA hc) fun e2 => ?_
   rcases own.2 with ⟨rfl, _⟩ | ⟨g, c, cur2, rfl, _, hgb, _⟩
   · simp [Value.ownBlock] at e2
   · have e3 : b = g := by simpa [Value.ownBlock] using e2
     rw [← e3, hc] at hgb
     simp only [Option.some.injEq, Obj.cells.injEq] at hgb
     exact absurd hgb.2.1 (by decide)
def RowsGat (base : Nat) (v : Value) (Rs : List (List Ce)) (W : World) : Prop := ∃ vals, W.ownsRow base 22 1 v vals.length vals ∧ vals.length = Rs.length ∧ ∀ j, j < Rs.length → SlC (vals.getD j undef) (Rs.getD j []) W
theorem RowsGat.later {base : Nat} {v : Value} {Rs : List (List Ce)} {W W' : World} (h : RowsGat base v Rs W) (hb : Below W.heap.size W W') : RowsGat base v Rs W' := by
 obtain ⟨vals, h1, h2, h3⟩ := h
 exact ⟨vals, own_lat h1 hb, h2, fun j hj => (h3 j hj).later hb⟩
theorem RowsGat.rows {base : Nat} {v : Value} {Rs : List (List Ce)} {W : World} (h : RowsGat base v Rs W) : RowsIn v Rs W := by
 obtain ⟨vals, h1, h2, h3⟩ := h
 have hl := h1.1
 rcases h1.2 with ⟨rfl, e⟩ | ⟨g, cap, cur, rfl, hg, hgb, hn, hm, hs, ht⟩
 · exact ⟨none, 0, by rw [← h2, e], by omega, by unfold maxLen; omega, fun k hk => by omega⟩
 · refine ⟨_, cap, by rw [← h2], by omega, hm, fun k hk => ?_⟩
   have hlt := (Go.ltA hgb)
   refine ⟨g, 0, vals.getD k undef, rfl, hlt, ?_, (h3 k hk).1⟩
   have hc := (show W.ownsRow base 22 1 (.slice (some ⟨g, 0, none⟩) vals.length cap) vals.length vals from h1).cellAt k (by omega)
   rw [Nat.zero_add, hc]
   have : k < vals.length := by omega
   simp [List.getD, this]
theorem mayM_rows {Rs : List (List Ce)} (hl : Rs.length ≤ 12) (h : ∀ r ∈ Rs, RowOk r) : MayM Rs := by
 refine ⟨by omega, fun r hr => ⟨by have := (h r hr).1; omega, (h r hr).2.1, (h r hr).2.2⟩, ?_⟩
 have key : ∀ (Rs : List (List Ce)), (∀ r ∈ Rs, RowOk r) → (Rs.map (·.length)).sum ≤ Rs.length * 5000 := by
  intro Rs
  induction Rs with
  | nil => intro _; simp
  | cons a Rs ih =>
    intro h
    have h1 := (h a List.mem_cons_self).1
    have h2 := ih fun r hr => h r (List.mem_cons_of_mem _ hr)
    rw [List.map_cons, List.sum_cons, List.length_cons]
    omega
 have := key Rs h
 omega
theorem RowsGat.one {w0 : World} {base : Nat} {A : Option Addr} {n c : Nat} {r : List Ce} (hb : base ≤ w0.heap.size) (hs : SlC (.slice A n c) r w0) : RowsGat base (.slice (some ⟨w0.heap.size, 0, none⟩) 1 1) [r] (w0.alloc (.cells #[.slice A n c] 22)) := by
 refine ⟨[.slice A n c], World.ownsRow_lit w0 #[.slice A n c] 1 hb (by unfold maxLen; omega) rfl, rfl, fun j hj => ?_⟩
 have : j = 0 := by simpa using hj
 subst this
 exact hs.later ((Below.refl _ _).alloc (Nat.le_refl _) _)
theorem RowsGat.append {base : Nat} {v : Value} {Rs : List (List Ce)} {A : Option Addr} {n c : Nat} {r : List Ce} {W : World} (h : RowsGat base v Rs W) (hb : base ≤ W.heap.size) (hn : Rs.length ≤ 1000) (hs : SlC (.slice A n c) r W) :
 ∃ v' w', (Builtin.append_ #[23, 23] 23 #[v, .slice (some ⟨W.heap.size, 0, none⟩) 1 1]).run Tryz.prog (W.alloc (.cells #[.slice A n c] 22)) = .ok v' w' ∧ RowsGat base v' (Rs ++ [r]) w' ∧ Below base W w' ∧ (∃ g c', v' = .slice (some ⟨g, 0, none⟩) (Rs.length + 1) c') := by
 have nb := (Below.refl W.heap.size W).alloc (Nat.le_refl _) (.cells #[.slice A n c] 22)
 have hx := heap_alloc_new W (.cells #[.slice A n c] 22)
 obtain ⟨vals, h1, h2, h3⟩ := h.later nb
 have hs2 := hs.later nb
 generalize W.alloc (.cells #[.slice A n c] 22) = W2 at nb hx h1 h3 hs2 ⊢
 obtain ⟨v', w', hrun, r1, r2, r3, r4⟩ := rows_append (A := A) (n := n) (c := c) h1 (Nat.le_trans hb nb.size) (by omega) W.heap.size (by simp [World.cell?, hx])
 refine ⟨v', w', hrun, ⟨_, r1, by simp [h2], fun j hj => ?_⟩, (nb.mono hb).trans r2, by rw [← h2]; exact r4⟩
 rw [List.length_append, List.length_singleton] at hj
 by_cases e : j < Rs.length
 · have e1 : (vals ++ [Value.slice A n c]).getD j undef = vals.getD j undef := by simp [List.getD, List.getElem?_append_left (show j < vals.length by omega)]
   have e2 : (Rs ++ [r]).getD j [] = Rs.getD j [] := by simp [List.getD, List.getElem?_append_left e]
   rw [e1, e2]
   exact r3 _ _ (h3 j e)
 · obtain rfl : j = Rs.length := by omega
   have e1 : (vals ++ [Value.slice A n c]).getD Rs.length undef = .slice A n c := by rw [← h2]; simp [List.getD]
   have e2 : (Rs ++ [r]).getD Rs.length [] = r := by simp [List.getD]
   rw [e1, e2]
   exact r3 _ _ hs2
theorem newest_rows (v : Value) (Rs : List (List Ce)) (w : World) (h : RowsIn v Rs w) (hl : Rs.length ≤ 12) (hR : ∀ r ∈ Rs, RowOk r) :
 Calls Tryz.prog 51 #[v] w fun e w' => Below w.heap.size w w' ∧ ∃ u, e = .returned (.tuple #[u, .int .i64 0]) ∧ w'.ownsRow w.heap.size 38 3 u (newR Rs).length (rowOf (newR Rs)) :=
 (newestM_any v Rs w h (mayM_rows hl hR)).mono fun e w' ⟨u, pre, h1, h2, h3, h4⟩ => by
   rw [new_eq (fun r hr => (hR r hr).rise) h2] at h3
   exact ⟨h4, u, h1, h3⟩
set_option maxRecDepth 100000 in
set_option maxHeartbeats 4000000 in
theorem tabRange (F T x y : List UInt8) (M TA : Option Addr) (n cap : Nat) (L : List Ce) (Ts : List (List Ce)) (w : World) (hM : MemPtr M L w) (hT : TabsAt TA n cap Ts w) (hn : n ≤ 10) (hR : ∀ r ∈ L :: Ts, RowOk r) :
 Calls Tryz.prog 19 #[tabVal F T M TA n cap, .string ⟨x.toArray⟩, .string ⟨y.toArray⟩] w fun e w' => Below w.heap.size w w' ∧ ∃ u, e = .returned (.tuple #[u, .int .i64 0]) ∧ w'.ownsRow w.heap.size 38 3 u (tabR F T (L :: Ts) x y).length (rowOf (tabR F T (L :: Ts) x y)) := by
 obtain ⟨W, q, hW, hq, hqb, nb, c0, c1, c2, c3, -⟩ := tab_box F T M TA n cap w
 have HE0 := Lib.hid (fun (h : cutOk (cutA F x) (cutB T y) = false) => tabR_none (R := L :: Ts) x y h)
 have HE1 := Lib.hid (tabR_cut (From := F) (To := T) (R := L :: Ts) (fun r hr => (hR r hr).rise) x y)
 obtain ⟨res, hres⟩ : ∃ res, tabR F T (L :: Ts) x y = res := ⟨_, rfl⟩
 rw [hres] at HE0 HE1 ⊢
 have CC := Lib.hid (tabCut F T x y M TA n cap W)
 obtain ⟨a, ha⟩ : ∃ a, cutA F x = a := ⟨_, rfl⟩
 obtain ⟨b, hb⟩ : ∃ b, cutB T y = b := ⟨_, rfl⟩
 rw [ha, hb] at HE0 HE1 CC
 have HH := Lib.hid (And.intro (hM.later nb) (And.intro hT (And.intro hR nb)))
 have HQ := Lib.hid hqb
 unfold tabVal at CC ⊢
 clear hres ha hb hM hT hR nb hqb
 go_enter Tryz.func19, Tryz.ntmps19
 go_wp2_with fail
 refine CC.out.mono ?_
 rintro e w1 ⟨rfl, b1⟩
 cases hok : cutOk a b with
 | false =>
   have HB := Lib.hid (HH.out.2.2.2.trans (b1.mono HH.out.2.2.2.size))
   have HR := Lib.hid (HE0.out hok)
   clear b1
   go_wp2_with fail
   refine bodyPost_ret (v := .tuple #[.slice none 0 0, .int .i64 0]) (by simp [results, Tryz.results19, go_sem, *]) rfl ?_
   refine ⟨HB.out, _, rfl, ?_⟩
   rw [HR.out]
   exact World.ownsRow_nil _ _ _ _
 | true =>
   have hq1 := (b1.block q (Go.ltA HQ.out)).trans HQ.out
   have d2 : w1.cell? ⟨q, 2, none⟩ = some (.pointer M) := by rw [cell_of_row w1 q _ _ _ _ hq1]; rfl
   have RM := Lib.hid (memRange_any M L a b w1 (HH.out.1.later b1) (HH.out.2.2.1 L List.mem_cons_self))
   have HB := Lib.hid (And.intro (HH.out.2.2.2.trans (b1.mono HH.out.2.2.2.size)) hq1)
   clear b1 hq1 hok
   go_wp2_with fail
   refine RM.out.mono ?_
   rintro e w2 ⟨b2, v, rfl, own⟩
   have hq2 := (b2.block q (Go.ltA HB.out.2)).trans HB.out.2
   have s2 := slC_own own
   obtain ⟨A2, cc2, rfl⟩ := own_slice own
   have B2 := HB.out.1.trans (b2.mono HB.out.1.size)
   have nb3 := (Below.refl w2.heap.size w2).alloc (Nat.le_refl _) (.cells #[.slice A2 (rangeC L a b).length cc2] 22)
   have G0 := RowsGat.one (w0 := w2) (base := w.heap.size) B2.size s2
   have hq3 := (nb3.block q (Go.ltA hq2)).trans hq2
   obtain ⟨w3, hw3⟩ : ∃ w3, w2.alloc (.cells #[.slice A2 (rangeC L a b).length cc2] 22) = w3 := ⟨_, rfl⟩
   rw [hw3] at nb3 G0 hq3
   have d3 : w3.cell? ⟨q, 3, none⟩ = some (.slice TA n cap) := by rw [cell_of_row w3 q _ _ _ _ hq3]; rfl
   have HG := Lib.hid (And.intro G0 (B2.trans (nb3.mono B2.size)))
   obtain ⟨g2, hg2⟩ : ∃ g2, w2.heap.size = g2 := ⟨_, rfl⟩
   rw [hg2] at HG
   clear b2 own hq2 s2 B2 nb3 G0 hq3 HB d2
   go_wp2_with fail
   go_loopw [33, 11] (fun iv v wr => ∃ k : Nat, k ≤ n ∧ iv = .int .i64 k ∧ Hid (RowsGat w.heap.size v (((L :: Ts).take (k + 1)).map fun r => rangeC r a b) wr ∧ Below w.heap.size w wr)) (fun iv _ _ => n - (intOf iv).toNat)
   case atStart => exact ⟨0, by omega, rfl, HG⟩
   case round =>
    obtain ⟨k, hk, rfl, HI⟩ := hrel
    by_cases hkn : k < n
    · obtain ⟨h1, h2, h3, h4⟩ := HH.out.2.1.later HI.out.2
      obtain ⟨g, o, P, rfl, hg, hc, hp⟩ := h4 k hkn
      have hm : Ts.getD k [] ∈ L :: Ts := by
       have : k < Ts.length := by omega
       rw [show Ts.getD k [] = Ts[k] by simp [List.getD, this]]
       exact List.mem_cons_of_mem _ (List.getElem_mem _)
      have RT := Lib.hid (tabRange_any P (Ts.getD k []) a b wr hp (HH.out.2.2.1 _ hm))
      have htk : ((L :: Ts).take (k + 1 + 1)).map (fun r => rangeC r a b) = ((L :: Ts).take (k + 1)).map (fun r => rangeC r a b) ++ [rangeC (Ts.getD k []) a b] := by
       rw [List.take_add_one, List.map_append]
       have : k < Ts.length := by omega
       simp [List.getD, this]
      have HTK := Lib.hid htk
      have hki : (k : Int) < (n : Int) := by omega
      clear h1 h2 h3 h4 hp hm htk
      go_wp2_with fail
      refine RT.out.mono ?_
      rintro e w4 ⟨b4, v4, rfl, own⟩
      have s4 := slC_own own
      obtain ⟨A4, c4, rfl⟩ := own_slice own
      have B4 := HI.out.2.trans (b4.mono HI.out.2.size)
      obtain ⟨v5, w5, run5, G5, B5, g5, c5, e5⟩ := (HI.out.1.later b4).append B4.size (by rw [List.length_map, List.length_take]; omega) s4
      rw [← HTK.out] at G5
      have R5 := Lib.hid run5
      have HE := Lib.hid (And.intro G5 (B4.trans B5))
      clear b4 own s4 B4 run5 G5 B5 e5
      go_wp2_with (at_builtin; refine wpList_append_runE _ rfl _ _ 23 23 rfl _ _ rfl rfl R5.out ?_)
      go_roundw
      case rel => exact ⟨k + 1, by omega, by simp <;> omega, Lib.hid HE.out⟩
      case measure => simp [intOf]; omega
    · obtain rfl : k = n := by omega
      have hl := HH.out.2.1.1
      have htk : ((L :: Ts).take (k + 1)).map (fun r => rangeC r a b) = (L :: Ts).map fun r => rangeC r a b := by rw [List.take_of_length_le (by rw [List.length_cons]; omega)]
      have G := HI.out.1
      rw [htk] at G
      have CN := newest_rows _ _ wr G.rows (by rw [List.length_map, List.length_cons]; omega) (fun r hr => by
       obtain ⟨s, hs, rfl⟩ := List.mem_map.1 hr
       exact (HH.out.2.2.1 s hs).range a b)
      rw [HE1.out] at CN
      have CNN := Lib.hid CN
      clear CN G htk hl
      go_wp2_with fail
      refine CNN.out.mono ?_
      rintro e w6 ⟨b6, v6, rfl, own⟩
      have HE := Lib.hid (And.intro (HI.out.2.trans (b6.mono HI.out.2.size)) (own.mono HI.out.2.size))
      obtain ⟨A6, c6, rfl⟩ := own_slice own
      clear b6 own
      go_wp2_with fail
      refine bodyPost_ret (v := .tuple #[.slice A6 res.length c6, .int .i64 0]) (by simp [results, Tryz.results19, go_sem, *]) rfl ?_
      exact ⟨HE.out.1, _, rfl, HE.out.2⟩
end Go.Proofs.YtoglloafpnopaaaGreat
