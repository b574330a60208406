/- slices.Clone of cells; a page that is parted. -/
import Derived.Test.YtpcapifjbhaeeaaMemF
import Derived.Lib.SliceRun
import Derived.Deep.RegionWith
namespace Go.Proofs.Ytpcapifjbhaeeaa
set_option maxRecDepth 16000
open Go.RowKit Spoor
set_option linter.unusedVariables false

theorem row_all {b o : Nat} {l : List Ce} {w : World} (h : RowAt b o l w) : ∀ j u, (rowOf l)[j]? = some u → w.cell? ((⟨b, o, none⟩ : Addr).add j) = some u := by
  have := row_part (lo := 0) (hi := l.length) h (Nat.zero_le _) (Nat.le_refl _)
  simpa using this
set_option maxHeartbeats 4000000 in
theorem cloneP_any (b o n cap : Nat) (l : List Ce) (w : World) (hl : l.length = n) (h0 : 0 < n) (hbig : n ≤ 100000) (hr : RowAt b o l w) :
    Calls Try.prog 50 #[.slice (some ⟨b, o, none⟩) n cap] w fun e w' => Below w.heap.size w w' ∧ ∃ b' cap', e = .returned (.slice (some ⟨b', 0, none⟩) n cap') ∧ w.heap.size ≤ b' ∧ PageAt (.slice (some ⟨b', 0, none⟩) n cap') l b' w' := by
  have hXl : (rowOf l).length = n * 3 := by rw [rowOf_length, hl]
  obtain ⟨j0, gi, gz0, gz1, gz2⟩ := info_one info_ce
  have b1 := (Below.refl w.heap.size w).alloc (Nat.le_refl _) (.cells #[] 33)
  have hr1 := hr.later b1 hr.1
  obtain ⟨W, hW⟩ : ∃ W, w.alloc (.cells #[] 33) = W := ⟨_, rfl⟩
  have hWs : W.heap.size = w.heap.size + 1 := by rw [← hW]; simp
  rw [hW] at b1 hr1
  have hge := grownCap_ge W n 0 33
  have hle := grownCap_le_maxLen W n 0 33 (by unfold maxLen; omega)
  have hrun : ∀ ty, (Builtin.append_ #[60, 60] ty #[.slice (some ⟨w.heap.size, 0, none⟩) 0 0, .slice (some ⟨b, o, none⟩) n cap]).run Try.prog W = .ok (.slice (some ⟨W.heap.size, 0, none⟩) n (grownCap W n 0 33)) (W.drew.alloc (.cells ((rowOf l).toArray ++ Builtin.zeroCells ((.agg #[.string ⟨#[]⟩, .int .i64 0, .string ⟨#[]⟩]) : Value).cells (grownCap W n 0 33 - n)) 33)) := fun ty => by
    have := run_append_grow (P := Try.prog) W 60 ty 33 j0 _ Try.underlying60 gi gz0 ⟨w.heap.size, 0, none⟩ 0 0 [] (by simp) (by simp) ⟨b, o, none⟩ n cap (rowOf l) (by rw [gz1]; exact hXl) (row_all hr1) (by omega) (by omega) (by rw [gz2]; exact growslice_fits (by omega) (by omega))
    simpa using this
  obtain ⟨G, hG⟩ : ∃ G, grownCap W n 0 33 = G := ⟨_, rfl⟩
  rw [hG] at hrun hge hle
  obtain ⟨R, hRR⟩ : ∃ R, (rowOf l).toArray ++ Builtin.zeroCells ((.agg #[.string ⟨#[]⟩, .int .i64 0, .string ⟨#[]⟩]) : Value).cells (G - n) = R := ⟨_, rfl⟩
  rw [hRR] at hrun
  have hRs : R.size = G * 3 := by
    rw [← hRR, Array.size_append, size_zeroCells, List.size_toArray, hXl]
    show n * 3 + (G - n) * 3 = _
    omega
  have hfin : PageAt (.slice (some ⟨W.heap.size, 0, none⟩) n G) l W.heap.size (W.drew.alloc (.cells R 33)) := by
    refine ⟨G, R, by rw [hl], by rw [hl]; exact hge, hle, heap_alloc_new W.drew _, by omega, ?_⟩
    rw [hl, ← hRR, Array.toList_append, List.toList_toArray, List.take_left' hXl]
  have bfin : Below w.heap.size w (W.drew.alloc (.cells R 33)) := b1.drew.alloc b1.size _
  rw [hWs] at hfin hrun
  have HF := Lib.hid (And.intro hfin bfin)
  have HRUN := Lib.hid hrun
  have hW2 := hW
  clear hfin bfin hrun hRR hRs hXl hr hr1 b1 gi gz0 gz1 gz2 hG hge hle
  subst hW
  clear hW2 hWs
  have heq : ∀ W, (binOp .eql 60 (.slice (some ⟨b, o, none⟩) n cap) (.slice none 0 0)).run Try.prog W = .ok (.bool false) W := fun W => Lib.run_eql_slice_nil W 60 33 (some ⟨b, o, none⟩) n cap 0 0 Try.underlying60
  go_enter Try.func50, Try.ntmps50
  go_wp2_with (refine wpList_append_runE _ rfl _ _ 60 60 rfl _ _ rfl rfl (HRUN.out _) ?_)
  go_ret
  exact ⟨HF.out.2, w.heap.size + 1, G, rfl, Nat.le_succ _, HF.out.1⟩
set_option maxHeartbeats 4000000 in
theorem cloneC_any (b o n cap : Nat) (l : List Ce) (w : World) (hl : l.length = n) (h0 : 0 < n) (hbig : n ≤ 100000) (hr : RowAt b o l w) :
    Calls Try.prog 53 #[.slice (some ⟨b, o, none⟩) n cap] w fun e w' => Below w.heap.size w w' ∧ ∃ b' cap', e = .returned (.slice (some ⟨b', 0, none⟩) n cap') ∧ w.heap.size ≤ b' ∧ PageAt (.slice (some ⟨b', 0, none⟩) n cap') l b' w' := by
  have hXl : (rowOf l).length = n * 3 := by rw [rowOf_length, hl]
  obtain ⟨j0, gi, gz0, gz1, gz2⟩ := info_one info_ce
  have b1 := (Below.refl w.heap.size w).alloc (Nat.le_refl _) (.cells #[] 33)
  have hr1 := hr.later b1 hr.1
  obtain ⟨W, hW⟩ : ∃ W, w.alloc (.cells #[] 33) = W := ⟨_, rfl⟩
  have hWs : W.heap.size = w.heap.size + 1 := by rw [← hW]; simp
  rw [hW] at b1 hr1
  have hge := grownCap_ge W n 0 33
  have hle := grownCap_le_maxLen W n 0 33 (by unfold maxLen; omega)
  have hrun : ∀ ty, (Builtin.append_ #[22, 22] ty #[.slice (some ⟨w.heap.size, 0, none⟩) 0 0, .slice (some ⟨b, o, none⟩) n cap]).run Try.prog W = .ok (.slice (some ⟨W.heap.size, 0, none⟩) n (grownCap W n 0 33)) (W.drew.alloc (.cells ((rowOf l).toArray ++ Builtin.zeroCells ((.agg #[.string ⟨#[]⟩, .int .i64 0, .string ⟨#[]⟩]) : Value).cells (grownCap W n 0 33 - n)) 33)) := fun ty => by
    have := run_append_grow (P := Try.prog) W 22 ty 33 j0 _ Try.underlying22 gi gz0 ⟨w.heap.size, 0, none⟩ 0 0 [] (by simp) (by simp) ⟨b, o, none⟩ n cap (rowOf l) (by rw [gz1]; exact hXl) (row_all hr1) (by omega) (by omega) (by rw [gz2]; exact growslice_fits (by omega) (by omega))
    simpa using this
  obtain ⟨G, hG⟩ : ∃ G, grownCap W n 0 33 = G := ⟨_, rfl⟩
  rw [hG] at hrun hge hle
  obtain ⟨R, hRR⟩ : ∃ R, (rowOf l).toArray ++ Builtin.zeroCells ((.agg #[.string ⟨#[]⟩, .int .i64 0, .string ⟨#[]⟩]) : Value).cells (G - n) = R := ⟨_, rfl⟩
  rw [hRR] at hrun
  have hRs : R.size = G * 3 := by
    rw [← hRR, Array.size_append, size_zeroCells, List.size_toArray, hXl]
    show n * 3 + (G - n) * 3 = _
    omega
  have hfin : PageAt (.slice (some ⟨W.heap.size, 0, none⟩) n G) l W.heap.size (W.drew.alloc (.cells R 33)) := by
    refine ⟨G, R, by rw [hl], by rw [hl]; exact hge, hle, heap_alloc_new W.drew _, by omega, ?_⟩
    rw [hl, ← hRR, Array.toList_append, List.toList_toArray, List.take_left' hXl]
  have bfin : Below w.heap.size w (W.drew.alloc (.cells R 33)) := b1.drew.alloc b1.size _
  rw [hWs] at hfin hrun
  have HF := Lib.hid (And.intro hfin bfin)
  have HRUN := Lib.hid hrun
  have hW2 := hW
  clear hfin bfin hrun hRR hRs hXl hr hr1 b1 gi gz0 gz1 gz2 hG hge hle
  subst hW
  clear hW2 hWs
  have heq : ∀ W, (binOp .eql 22 (.slice (some ⟨b, o, none⟩) n cap) (.slice none 0 0)).run Try.prog W = .ok (.bool false) W := fun W => Lib.run_eql_slice_nil W 22 33 (some ⟨b, o, none⟩) n cap 0 0 Try.underlying22
  go_enter Try.func53, Try.ntmps53
  go_wp2_with (refine wpList_append_runE _ rfl _ _ 22 22 rfl _ _ rfl rfl (HRUN.out _) ?_)
  go_ret
  exact ⟨HF.out.2, w.heap.size + 1, G, rfl, Nat.le_succ _, HF.out.1⟩
set_option maxHeartbeats 4000000 in
theorem parted_any (b n cap : Nat) (l : List Ce) (w : World) (hl : l.length = n) (h0 : 2 ≤ n) (hbig : n ≤ 100000) (hnc : n ≤ cap) (hcap : cap ≤ maxLen) (hp : PageAt (.slice (some ⟨b, 0, none⟩) n cap) l b w) :
    Calls Try.prog 33 #[.slice (some ⟨b, 0, none⟩) n cap] w fun e w' => Below w.heap.size w w' ∧ ∃ g b2 cap2, e = .returned (.slice (some ⟨g, 0, none⟩) 2 2) ∧ w.heap.size ≤ g ∧ w.heap.size ≤ b2 ∧ w'.heap[g]? = some (.cells #[.slice (some ⟨b, 0, none⟩) (n / 2 : Nat) (n / 2 : Nat), .slice (some ⟨b2, 0, none⟩) (n - n / 2) cap2] 60 (0, 0)) ∧
      PageAt (.slice (some ⟨b2, 0, none⟩) (n - n / 2) cap2) (l.drop (n / 2)) b2 w' := by
  have hrow := hp.row.2
  have hrd : RowAt b (n / 2 * 3) (l.drop (n / 2)) w := by
    refine ⟨hrow.1, fun i hi j u hj => ?_⟩
    rw [List.length_drop] at hi
    have hg : (l.drop (n / 2)).getD i Ce.zero = l.getD (n / 2 + i) Ce.zero := by simp [List.getD, List.getElem?_drop]
    rw [hg] at hj
    have := hrow.2 (n / 2 + i) (by omega) j u hj
    rw [show n / 2 * 3 + i * 3 + j = 0 + (n / 2 + i) * 3 + j by omega]
    exact this
  have hdl : (l.drop (n / 2)).length = n - n / 2 := by rw [List.length_drop, hl]
  obtain ⟨h, hh⟩ : ∃ h, n / 2 = h := ⟨_, rfl⟩
  have hh2 : ((n : Int) / 2) = (h : Int) := by omega
  rw [hh] at hrd hdl
  rw [hh]
  have h1 : 0 < h := by omega
  have h2 : h < n := by omega
  have cc := fun W (hb : Below w.heap.size w W) => cloneP_any b (h * 3) (n - h) (cap - h) (l.drop h) W hdl (by omega) (by omega) (hrd.later hb hrd.1)
  have CC := Lib.hid cc
  clear cc hrd hrow hp hdl hh hl
  unfold maxLen at hcap
  have e1 : (0 : Int) ≤ h := by omega
  have e2 : (h : Int) ≤ n := by omega
  have e3 : (h : Int) ≤ cap := by omega
  have e4 : ¬ (cap = h) := by omega
  have e5 : (h : Int).toNat = h := by omega
  go_enter Try.func33, Try.ntmps33
  go_wp2_with fail

  go_region_with ((go_at_call 50; refine (CC.out _ (Below.drew (Below.refl _ _))).mono ?_; rintro e w1 ⟨hb, b', cap', rfl, hs, hP⟩))
  all_goals
    have B := (Below.drew (Below.refl w.heap.size w)).trans (hb : Below w.heap.size w.drew w1)
    have hnew := heap_alloc_new w1 (.cells #[.slice (some ⟨b, 0, none⟩) h h, .slice (some ⟨b', 0, none⟩) (n - h) cap'] 60)
    have hP2 := hP.same (Below.heap_alloc w1 (.cells #[.slice (some ⟨b, 0, none⟩) h h, .slice (some ⟨b', 0, none⟩) (n - h) cap'] 60) b' hP.lt)
    have B2 := B.alloc B.size (.cells #[.slice (some ⟨b, 0, none⟩) h h, .slice (some ⟨b', 0, none⟩) (n - h) cap'] 60)
    have HF := Lib.hid (And.intro hnew (And.intro hP2 B2))
    have HS := Lib.hid (And.intro B.size (show w.heap.size ≤ b' from hs))
    clear hnew hP2 B2 hb hP hs B CC
    go_wp2_with fail
    go_ret
    exact ⟨HF.out.2.2, w1.heap.size, b', cap', rfl, HS.out.1, HS.out.2, HF.out.1, HF.out.2.1⟩
end Go.Proofs.Ytpcapifjbhaeeaa
