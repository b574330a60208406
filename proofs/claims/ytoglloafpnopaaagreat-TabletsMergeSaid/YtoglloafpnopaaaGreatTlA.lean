/- tablets' has and cut. -/
import Derived.Test.YtoglloafpnopaaaGreatMA
import Derived.Test.YtoglloafpnopaaaGreatMgA
set_option linter.unusedSimpArgs false
set_option linter.unusedVariables false
namespace Go.Proofs.YtoglloafpnopaaaGreat
set_option maxRecDepth 16000
open Go.RowKit Spoor
set_option linter.unusedVariables false

/-- a tablet's value -/
def tabVal (F T : List UInt8) (M TA : Option Addr) (n cap : Nat) : Value := .agg #[.string ⟨F.toArray⟩, .string ⟨T.toArray⟩, .pointer M, .slice TA n cap]
/-- a tablet laid in a block of its own -/
theorem tab_box (F T : List UInt8) (M TA : Option Addr) (n cap : Nat) (w : World) : ∃ W q, w.alloc (.cells #[.string ⟨F.toArray⟩, .string ⟨T.toArray⟩, .pointer M, .slice TA n cap] 31) = W ∧ w.heap.size = q ∧ W.heap[q]? = some (.cells #[.string ⟨F.toArray⟩, .string ⟨T.toArray⟩, .pointer M, .slice TA n cap] 31 (0, 0)) ∧ Below w.heap.size w W ∧
 W.cell? ⟨q, 0, none⟩ = some (.string ⟨F.toArray⟩) ∧ W.cell? ⟨q, 1, none⟩ = some (.string ⟨T.toArray⟩) ∧ W.cell? ⟨q, 2, none⟩ = some (.pointer M) ∧ W.cell? ⟨q, 3, none⟩ = some (.slice TA n cap) ∧ W.frozen? ⟨q, 2, none⟩ = false := by
 have h := heap_alloc_new w (.cells #[.string ⟨F.toArray⟩, .string ⟨T.toArray⟩, .pointer M, .slice TA n cap] 31)
 have nb := (Below.refl w.heap.size w).alloc (Nat.le_refl _) (.cells #[.string ⟨F.toArray⟩, .string ⟨T.toArray⟩, .pointer M, .slice TA n cap] 31)
 generalize w.alloc (.cells #[.string ⟨F.toArray⟩, .string ⟨T.toArray⟩, .pointer M, .slice TA n cap] 31) = W at h nb ⊢
 obtain ⟨q, hq⟩ : ∃ q, w.heap.size = q := ⟨_, rfl⟩
 rw [hq] at h
 refine ⟨W, q, rfl, hq, h, nb, ?_⟩
 simp [World.cell?, World.frozen?, h]
theorem tabHas (F T key : List UInt8) (M TA : Option Addr) (n cap : Nat) (w : World) :
 Calls Tryz.prog 52 #[tabVal F T M TA n cap, .string ⟨key.toArray⟩] w fun e w' => e = .returned (.bool (inTab F T key)) ∧ Below w.heap.size w w' := by
 obtain ⟨W, q, hW, hq, -, nb, c0, c1, -⟩ := tab_box F T M TA n cap w
 unfold tabVal inTab
 have HB := Lib.hid nb
 clear nb
 cases h1 : Op.bytesLess key F with
 | true =>
   go_enter Tryz.func52, Tryz.ntmps52
   go_wp2_with fail
   go_ret
   exact ⟨rfl, HB.out⟩
 | false =>
   by_cases hT : T = []
   · subst hT
     go_enter Tryz.func52, Tryz.ntmps52
     go_wp2_with fail
     go_ret
     exact ⟨by simp, HB.out⟩
   · have e1 : (T == ([] : List UInt8)) = false := by simpa using hT
     cases h2 : Op.bytesLess key T with
     | true =>
       go_enter Tryz.func52, Tryz.ntmps52
       go_wp2_with fail
       go_ret
       exact ⟨by simp, HB.out⟩
     | false =>
       go_enter Tryz.func52, Tryz.ntmps52
       go_wp2_with fail
       go_ret
       exact ⟨by simp [hT], HB.out⟩
theorem max_str (x y : List UInt8) (W : World) : (Builtin.max_ #[9, 9] 9 #[.string ⟨x.toArray⟩, .string ⟨y.toArray⟩]).run Tryz.prog W = .ok (.string ⟨(cutA y x).toArray⟩) W := by
 unfold cutA
 simp [Builtin.max_, Builtin.max2, Op.stringOp]
 cases Op.bytesLess x y <;> simp [asBool]
theorem tabCut (F T x y : List UInt8) (M TA : Option Addr) (n cap : Nat) (w : World) :
 Calls Tryz.prog 48 #[tabVal F T M TA n cap, .string ⟨x.toArray⟩, .string ⟨y.toArray⟩] w fun e w' => e = .returned (.tuple #[.string ⟨(cutA F x).toArray⟩, .string ⟨(cutB T y).toArray⟩, .bool (cutOk (cutA F x) (cutB T y))]) ∧ Below w.heap.size w w' := by
 obtain ⟨W, q, hW, hq, -, nb, c0, c1, -⟩ := tab_box F T M TA n cap w
 have HB := Lib.hid nb
 have hmx := fun W => max_str x F W
 have key : ∀ (a b : List UInt8), cutA F x = a → cutB T y = b → Calls Tryz.prog 48 #[tabVal F T M TA n cap, .string ⟨x.toArray⟩, .string ⟨y.toArray⟩] w fun e w' => e = .returned (.tuple #[.string ⟨a.toArray⟩, .string ⟨b.toArray⟩, .bool (cutOk a b)]) ∧ Below w.heap.size w w' := by
  intro a b ha hb
  rw [ha] at hmx
  clear ha nb
  unfold tabVal cutOk
  unfold cutB at hb
  by_cases h1 : y = []
  · rw [if_pos h1] at hb
    subst h1 hb
    by_cases h2 : T = []
    · subst h2
      go_enter Tryz.func48, Tryz.ntmps48
      go_wp2_with fail
      refine bodyPost_ret (v := .tuple #[.string ⟨a.toArray⟩, .string ⟨[].toArray⟩, .bool true]) (by simp [results, Tryz.results48, go_sem, *]) rfl ?_
      exact ⟨by simp, HB.out⟩
    · have e1 : (T == ([] : List UInt8)) = false := by simpa using h2
      cases h3 : Op.bytesLess a T with
      | true =>
        go_enter Tryz.func48, Tryz.ntmps48
        go_wp2_with fail
        refine bodyPost_ret (v := .tuple #[.string ⟨a.toArray⟩, .string ⟨T.toArray⟩, .bool true]) (by simp [results, Tryz.results48, go_sem, *]) rfl ?_
        exact ⟨by simp, HB.out⟩
      | false =>
        go_enter Tryz.func48, Tryz.ntmps48
        go_wp2_with fail
        refine bodyPost_ret (v := .tuple #[.string ⟨a.toArray⟩, .string ⟨T.toArray⟩, .bool false]) (by simp [results, Tryz.results48, go_sem, *]) rfl ?_
        exact ⟨by simp [h2], HB.out⟩
  · have e0 : (y == ([] : List UInt8)) = false := by simpa using h1
    rw [if_neg h1] at hb
    by_cases h2 : T = []
    · rw [if_neg fun e => e.1 h2] at hb
      subst h2 hb
      cases h3 : Op.bytesLess a y with
      | true =>
        go_enter Tryz.func48, Tryz.ntmps48
        go_wp2_with fail
        refine bodyPost_ret (v := .tuple #[.string ⟨a.toArray⟩, .string ⟨y.toArray⟩, .bool true]) (by simp [results, Tryz.results48, go_sem, *]) rfl ?_
        exact ⟨by simp, HB.out⟩
      | false =>
        go_enter Tryz.func48, Tryz.ntmps48
        go_wp2_with fail
        refine bodyPost_ret (v := .tuple #[.string ⟨a.toArray⟩, .string ⟨y.toArray⟩, .bool false]) (by simp [results, Tryz.results48, go_sem, *]) rfl ?_
        exact ⟨by simp [h1], HB.out⟩
    · have e1 : (T == ([] : List UInt8)) = false := by simpa using h2
      cases h4 : Op.bytesLess T y with
      | true =>
        rw [if_pos ⟨h2, h4⟩] at hb
        subst hb
        cases h3 : Op.bytesLess a T with
        | true =>
          go_enter Tryz.func48, Tryz.ntmps48
          go_wp2_with fail
          refine bodyPost_ret (v := .tuple #[.string ⟨a.toArray⟩, .string ⟨T.toArray⟩, .bool true]) (by simp [results, Tryz.results48, go_sem, *]) rfl ?_
          exact ⟨by simp, HB.out⟩
        | false =>
          go_enter Tryz.func48, Tryz.ntmps48
          go_wp2_with fail
          refine bodyPost_ret (v := .tuple #[.string ⟨a.toArray⟩, .string ⟨T.toArray⟩, .bool false]) (by simp [results, Tryz.results48, go_sem, *]) rfl ?_
          exact ⟨by simp [h2], HB.out⟩
      | false =>
        rw [if_neg fun e => by rw [h4] at e; cases e.2] at hb
        subst hb
        cases h3 : Op.bytesLess a y with
        | true =>
          go_enter Tryz.func48, Tryz.ntmps48
          go_wp2_with fail
          refine bodyPost_ret (v := .tuple #[.string ⟨a.toArray⟩, .string ⟨y.toArray⟩, .bool true]) (by simp [results, Tryz.results48, go_sem, *]) rfl ?_
          exact ⟨by simp, HB.out⟩
        | false =>
          go_enter Tryz.func48, Tryz.ntmps48
          go_wp2_with fail
          refine bodyPost_ret (v := .tuple #[.string ⟨a.toArray⟩, .string ⟨y.toArray⟩, .bool false]) (by simp [results, Tryz.results48, go_sem, *]) rfl ?_
          exact ⟨by simp [h1], HB.out⟩
 exact key _ _ rfl rfl
end Go.Proofs.YtoglloafpnopaaaGreat
