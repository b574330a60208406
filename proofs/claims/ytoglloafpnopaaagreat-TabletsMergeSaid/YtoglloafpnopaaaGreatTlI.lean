/- tablets' Merge, nothing dropped. -/
import Derived.Test.YtoglloafpnopaaaGreatTlH
set_option linter.unusedSimpArgs false
set_option linter.unusedVariables false
namespace Go.Proofs.YtoglloafpnopaaaGreat
set_option maxRecDepth 16000
open Go.RowKit Spoor
set_option linter.unusedVariables false
set_option linter.unusedSimpArgs false

theorem tabR_full (F T : List UInt8) (R : List (List Ce)) : tabR F T R F T = tabR F T R [] [] := by
 unfold tabR
 congr 1
 funext c
 rw [within_all]
 cases within F T c <;> rfl
/-- a tablet without memory -/
theorem tab_nomem (F T : List UInt8) (M TA : Option Addr) (n cap : Nat) (w : World) : ∃ W q W1, w.alloc (.cells #[.string ⟨F.toArray⟩, .string ⟨T.toArray⟩, .pointer M, .slice TA n cap] 31) = W ∧ w.heap.size = q ∧ W.cell? ⟨q, 2, none⟩ = some (.pointer M) ∧ W.frozen? ⟨q, 2, none⟩ = false ∧ W.setCell ⟨q, 2, none⟩ (.pointer none) = W1 ∧
 W1.cell? ⟨q, 0, none⟩ = some (.string ⟨F.toArray⟩) ∧ W1.cell? ⟨q, 1, none⟩ = some (.string ⟨T.toArray⟩) ∧ W1.cell? ⟨q, 2, none⟩ = some (.pointer none) ∧ W1.cell? ⟨q, 3, none⟩ = some (.slice TA n cap) ∧ Below w.heap.size w W1 := by
 obtain ⟨W, q, hW, hq, hqb, nb, c0, c1, c2, c3, cf⟩ := tab_box F T M TA n cap w
 have h1 : (W.setCell ⟨q, 2, none⟩ (.pointer none)).heap[q]? = some (.cells #[.string ⟨F.toArray⟩, .string ⟨T.toArray⟩, .pointer none, .slice TA n cap] 31 (0, 0)) := by rw [heap_setCell_same W q 2 _ _ _ hqb]; rfl
 refine ⟨W, q, _, hW, hq, c2, cf, rfl, ?_, ?_, ?_, ?_, below_set nb (by omega) 2 _⟩ <;> (rw [cell_of_row _ q _ _ _ _ h1]; rfl)
theorem nil_nil (W : World) : (binOp .eql 42 Value.nilFunc Value.nilFunc).run Tryz.prog W = .ok (.bool true) W := by rfl
set_option maxRecDepth 100000 in
set_option maxHeartbeats 4000000 in
theorem tabMergeNil (F T : List UInt8) (M TA : Option Addr) (n cap : Nat) (Ts : List (List Ce)) (w : World) (hT : TabsAt TA n cap Ts w) (hn : n ≤ 10) (hR : ∀ r ∈ Ts, RowOk r) :
 Calls Tryz.prog 13 #[tabVal F T M TA n cap, Value.nilFunc] w fun e w' => Below w.heap.size w w' ∧ ∃ u, e = .returned (.tuple #[u, .int .i64 0]) ∧ w'.ownsRow w.heap.size 38 3 u (tabR F T ([] :: Ts) [] []).length (rowOf (tabR F T ([] :: Ts) [] [])) := by
 obtain ⟨W, q, W1, hW, hq, c2, cf, hW1, d0, d1, d2, d3, B1⟩ := tab_nomem F T M TA n cap w
 have CR := tabRange F T F T none TA n cap [] Ts W1 (.inl ⟨rfl, rfl⟩) (hT.later B1) hn (fun r hr => by
  rcases List.mem_cons.1 hr with rfl | hr
  · exact RowOk.nil
  · exact hR r hr)
 rw [tabR_full] at CR
 have CRH := Lib.hid CR
 have HB := Lib.hid B1
 have hnl := nil_nil
 obtain ⟨res, hres⟩ : ∃ res, tabR F T ([] :: Ts) [] [] = res := ⟨_, rfl⟩
 rw [hres] at CRH ⊢
 unfold tabVal at CRH ⊢
 clear CR hT hR B1 hres
 go_enter Tryz.func13, Tryz.ntmps13
 go_wp2_with fail
 refine CRH.out.mono ?_
 rintro e w2 ⟨b2, u, rfl, own⟩
 have HE := Lib.hid (And.intro (HB.out.trans (b2.mono HB.out.size)) (own.mono HB.out.size))
 obtain ⟨A, c, rfl⟩ := own_slice own
 clear b2 own
 go_wp2_with fail
 refine bodyPost_ret (v := .tuple #[.slice A res.length c, .int .i64 0]) (by simp [results, Tryz.results13, go_sem, *]) rfl ?_
 exact ⟨HE.out.1, _, rfl, HE.out.2⟩
end Go.Proofs.YtoglloafpnopaaaGreat
