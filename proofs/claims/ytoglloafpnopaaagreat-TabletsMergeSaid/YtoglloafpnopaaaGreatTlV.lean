/- tablets' Merge with a drop. -/
import Derived.Test.YtoglloafpnopaaaGreatTlT
set_option linter.unusedSimpArgs false
set_option linter.unusedVariables false
namespace Go.Proofs.YtoglloafpnopaaaGreat
set_option maxRecDepth 16000
open Go.RowKit Spoor
set_option linter.unusedVariables false
set_option linter.unusedSimpArgs false

theorem fn_nilOdd (W : World) : (binOp .eql 42 (.func (.func 15) #[] #[]) Value.nilFunc).run Tryz.prog W = .ok (.bool false) W := by rfl
set_option maxRecDepth 100000 in
set_option maxHeartbeats 4000000 in
theorem tabMergeOdd (F T : List UInt8) (M TA : Option Addr) (n cap : Nat) (Ts : List (List Ce)) (w : World) (hT : TabsAt TA n cap Ts w) (hn : n ≤ 10) (hR : ∀ r ∈ Ts, RowOk r) (hbig : (tabR F T ([] :: Ts) [] []).length ≤ 100000) :
 Calls Tryz.prog 13 #[tabVal F T M TA n cap, .func (.func 15) #[] #[]] w fun e w' => Below w.heap.size w w' ∧ ∃ u, e = .returned (.tuple #[u, .int .i64 0]) ∧ SlAt u ((tabR F T ([] :: Ts) [] []).filter fun c => !oddC c) w' := by
 obtain ⟨W, q, W1, hW, hq, c2, cf, hW1, d0, d1, d2, d3, B1⟩ := tab_nomem F T M TA n cap w
 have CR := tabRange F T F T none TA n cap [] Ts W1 (.inl ⟨rfl, rfl⟩) (hT.later B1) hn (fun r hr => by
  rcases List.mem_cons.1 hr with rfl | hr
  · exact RowOk.nil
  · exact hR r hr)
 rw [tabR_full] at CR
 have CRH := Lib.hid CR
 have HB := Lib.hid B1
 have hnl := fn_nilOdd
 obtain ⟨res, hres⟩ : ∃ res, tabR F T ([] :: Ts) [] [] = res := ⟨_, rfl⟩
 rw [hres] at CRH hbig ⊢
 have HBG := Lib.hid hbig
 unfold tabVal at CRH ⊢
 clear CR hT hR B1 hres hbig
 go_enter Tryz.func13, Tryz.ntmps13
 go_wp2_with fail
 refine CRH.out.mono ?_
 rintro e w2 ⟨b2, u, rfl, own⟩
 have CD := Lib.hid (deleteOdd_any u res W1.heap.size w2 own b2.size HBG.out)
 have HE := Lib.hid (And.intro HB.out b2)
 obtain ⟨A, c, rfl⟩ := own_slice own
 clear b2 own CRH
 go_wp2_with fail
 refine CD.out.mono ?_
 rintro e w3 ⟨b3, v, rfl, sv⟩
 obtain ⟨A3, c3, rfl⟩ : ∃ A c, v = .slice A (res.filter fun c => !oddC c).length c := by obtain ⟨A, c, e, -⟩ := sv; exact ⟨A, c, e⟩
 have HF := Lib.hid (And.intro (HE.out.1.trans ((HE.out.2.trans b3).mono HE.out.1.size)) sv)
 clear b3 sv CD
 go_wp2_with fail
 refine bodyPost_ret (v := .tuple #[.slice A3 (res.filter fun c => !oddC c).length c3, .int .i64 0]) (by simp [results, Tryz.results13, go_sem, *]) rfl ?_
 exact ⟨HF.out.1, _, rfl, HF.out.2⟩
theorem fn_nilEven (W : World) : (binOp .eql 42 (.func (.func 14) #[] #[]) Value.nilFunc).run Tryz.prog W = .ok (.bool false) W := by rfl
set_option maxRecDepth 100000 in
set_option maxHeartbeats 4000000 in
theorem tabMergeEven (F T : List UInt8) (M TA : Option Addr) (n cap : Nat) (Ts : List (List Ce)) (w : World) (hT : TabsAt TA n cap Ts w) (hn : n ≤ 10) (hR : ∀ r ∈ Ts, RowOk r) (hbig : (tabR F T ([] :: Ts) [] []).length ≤ 100000) :
 Calls Tryz.prog 13 #[tabVal F T M TA n cap, .func (.func 14) #[] #[]] w fun e w' => Below w.heap.size w w' ∧ ∃ u, e = .returned (.tuple #[u, .int .i64 0]) ∧ SlAt u ((tabR F T ([] :: Ts) [] []).filter fun c => !evenC c) w' := by
 obtain ⟨W, q, W1, hW, hq, c2, cf, hW1, d0, d1, d2, d3, B1⟩ := tab_nomem F T M TA n cap w
 have CR := tabRange F T F T none TA n cap [] Ts W1 (.inl ⟨rfl, rfl⟩) (hT.later B1) hn (fun r hr => by
  rcases List.mem_cons.1 hr with rfl | hr
  · exact RowOk.nil
  · exact hR r hr)
 rw [tabR_full] at CR
 have CRH := Lib.hid CR
 have HB := Lib.hid B1
 have hnl := fn_nilEven
 obtain ⟨res, hres⟩ : ∃ res, tabR F T ([] :: Ts) [] [] = res := ⟨_, rfl⟩
 rw [hres] at CRH hbig ⊢
 have HBG := Lib.hid hbig
 unfold tabVal at CRH ⊢
 clear CR hT hR B1 hres hbig
 go_enter Tryz.func13, Tryz.ntmps13
 go_wp2_with fail
 refine CRH.out.mono ?_
 rintro e w2 ⟨b2, u, rfl, own⟩
 have CD := Lib.hid (deleteEven_any u res W1.heap.size w2 own b2.size HBG.out)
 have HE := Lib.hid (And.intro HB.out b2)
 obtain ⟨A, c, rfl⟩ := own_slice own
 clear b2 own CRH
 go_wp2_with fail
 refine CD.out.mono ?_
 rintro e w3 ⟨b3, v, rfl, sv⟩
 obtain ⟨A3, c3, rfl⟩ : ∃ A c, v = .slice A (res.filter fun c => !evenC c).length c := by obtain ⟨A, c, e, -⟩ := sv; exact ⟨A, c, e⟩
 have HF := Lib.hid (And.intro (HE.out.1.trans ((HE.out.2.trans b3).mono HE.out.1.size)) sv)
 clear b3 sv CD
 go_wp2_with fail
 refine bodyPost_ret (v := .tuple #[.slice A3 (res.filter fun c => !evenC c).length c3, .int .i64 0]) (by simp [results, Tryz.results13, go_sem, *]) rfl ?_
 exact ⟨HF.out.1, _, rfl, HF.out.2⟩
end Go.Proofs.YtoglloafpnopaaaGreat
