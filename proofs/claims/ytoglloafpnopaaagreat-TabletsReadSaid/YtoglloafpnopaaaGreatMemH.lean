/- slices.Clone of cells; a page that is parted. slices.Replace of one page by two. -/
import Derived.Test.YtoglloafpnopaaaGreatTabG
import Derived.Test.YtoglloafpnopaaaGreatMemF
import Derived.Lib.SliceRun
import Derived.Deep.RegionWith
set_option linter.unusedSimpArgs false
set_option linter.unusedVariables false
namespace Go.Proofs.YtoglloafpnopaaaGreat
set_option maxRecDepth 16000
open Go.RowKit Spoor
theorem info_pg : (Tryz.prog.info? 134).map (fun i => (i.zero, i.size, i.bytes)) = some (some (.slice none 0 0), 1, 24) := by kernel_rfl
theorem two_src {vg : Nat} {u1 u2 : Value} {w : World} (h : w.heap[vg]? = some (.cells #[u1, u2] 134 (0, 0))) : ∀ j u, [u1, u2][j]? = some u → w.cell? ((⟨vg, 0, none⟩ : Addr).add j) = some u := by
 intro j u hj
 rw [Addr.add_lit, World.cell?]
 simp only [h]
 match j, hj with
 | 0, hj => simp at hj; subst hj; rfl
 | 1, hj => simp at hj; subst hj; rfl
set_option maxHeartbeats 4000000 in
theorem replaceD (g n C k : Nat) (hk : k + 1 < n) (cur : Array Value) (vg : Nat) (u1 u2 : Value) (w : World) (hbig : n ≤ 100000) (hnC : n + 1 ≤ C) (hC : C ≤ maxLen)
 (hg : w.heap[g]? = some (.cells cur 134 (0, 0))) (hs : cur.size = C) (hv : w.heap[vg]? = some (.cells #[u1, u2] 134 (0, 0))) (h1 : u1.oneCell' = true) (h2 : u2.oneCell' = true) (hone : ∀ u ∈ cur.toList.take n, u.oneCell' = true) (hvg : vg ≠ g) :
 Calls Tryz.prog 86 #[.slice (some ⟨g, 0, none⟩) n C, .int .i64 k, .int .i64 ((k : Int) + 1), .slice (some ⟨vg, 0, none⟩) 2 2] w fun e w' =>
  ∃ g' C' cur', e = .returned (.slice (some ⟨g', 0, none⟩) (n + 1) C') ∧ n + 1 ≤ C' ∧ C' ≤ maxLen ∧ w'.heap[g']? = some (.cells cur' 134 (0, 0)) ∧ cur'.size = C' ∧ cur'.toList.take (n + 1) = cur.toList.take k ++ ([u1, u2] ++ (cur.toList.take n).drop (k + 1)) ∧ (g' = g ∨ w.heap.size ≤ g') ∧ Fr [g] w w' := by
 have hgl := (Go.ltA hg)
 have hvl := (Go.ltA hv)
 obtain ⟨j0, gi, gz0, gz1, gz2⟩ := info_one info_pg
 have hinfo : (Tryz.prog.info? 134).map (·.size) = some 1 := by rw [gi]; simp [gz1]
 have hszof : ∀ w, (Go.sizeOf 134).run Tryz.prog w = .ok 1 w := fun w => by simp [Go.sizeOf, typeInfo, gi, gz1]
 have hlen : cur.toList.length = cur.size := Array.length_toList
 have hone2 : ∀ u ∈ [u1, u2], u.oneCell' = true := by simp [h1, h2]
 obtain ⟨V, hV⟩ : ∃ V, cur.toList.take n = V := ⟨_, rfl⟩
 have hR := row_rest hV
 have hVl : V.length = n := by rw [← hV, List.length_take]; omega
 have hVk : cur.toList.take k = V.take k := by rw [← hV, List.take_take, Nat.min_eq_left (by omega)]
 rw [hV] at hone ⊢
 rw [hVk]
 have hdl : (V.drop (k + 1)).length = n - (k + 1) := by rw [List.length_drop, hVl]
 have hdone : ∀ u ∈ V.drop (k + 1), u.oneCell' = true := fun u hu => hone u (List.mem_of_mem_drop hu)
 have hov : ∀ la ca, (callFunc 114 #[.slice (some ⟨g, k + 2, none⟩) la ca, .slice (some ⟨vg, 0, none⟩) 2 2]).run Tryz.prog w.drew = .ok (.value (.bool false)) w.drew := fun la ca => by
  rw [run_callFunc_extern Tryz.func114 (by kernel_rfl) (by kernel_rfl) (by kernel_rfl) (e := Extern.SlicesOverlaps.overlaps #[107, 107] #[4]) (by kernel_rfl),
   Lib.run_overlaps_apart w.drew 107 4 134 Tryz.underlying107 1 hszof ⟨g, k + 2, none⟩ ⟨vg, 0, none⟩ la ca 2 2 (fun e => hvg e.symm) 134 134 cur.size 2 (by simp [World.shape?, show w.drew.heap[g]? = _ from hg]) (by simp [World.shape?, show w.drew.heap[vg]? = _ from hv]) (by omega) (by simp [World.frozen?, show w.drew.heap[g]? = _ from hg]) (by simp [World.frozen?, show w.drew.heap[g]? = _ from hg])]
  rfl
 obtain ⟨R1, hR1⟩ : ∃ R1, cur.toList.take (k + 2) ++ V.drop (k + 1) ++ cur.toList.drop (k + 2 + (n - (k + 1))) = R1 := ⟨_, rfl⟩
 have hR1l : R1.length = C := by
  rw [← hR1, List.length_append, List.length_append, List.length_take, hdl, List.length_drop, hlen]; omega
 have hR1k : R1.take k = V.take k := by
  rw [← hR1, List.append_assoc, List.take_append_of_le_length (by rw [List.length_take]; omega), List.take_take, Nat.min_eq_left (by omega), hVk]
 have hR1d : R1.drop (k + 2) = V.drop (k + 1) ++ cur.toList.drop (k + 2 + (n - (k + 1))) := by
  rw [← hR1, List.append_assoc, List.drop_append_of_le_length (by rw [List.length_take]; omega), List.drop_eq_nil_of_le (by rw [List.length_take]; omega), List.nil_append]
 have hcp1 : ∀ ty dc sc, (Builtin.copy_ #[107, 107] ty #[.slice (some ⟨g, k + 2, none⟩) (n - (k + 1)) dc, .slice (some ⟨g, k + 1, none⟩) (n - (k + 1)) sc]).run Tryz.prog w.drew.drew = .ok (goInt ((n - (k + 1) : Nat))) (w.drew.drew.setRow g R1.toArray) := fun ty dc sc => by
  have := run_copy_rowK (P := Tryz.prog) w.drew.drew 107 107 ty 134 1 g (k + 2) (n - (k + 1)) dc ⟨g, k + 1, none⟩ (n - (k + 1)) sc (n - (k + 1)) cur 134 (V.drop (k + 1)) Tryz.underlying107 hinfo hg (by simp only [Nat.min_def]; split <;> omega) (by rw [hdl]; omega) (row_src hg (fun j u hj => by
   rw [List.getElem?_drop] at hj
   rw [← Array.getElem?_toList, hR, List.getElem?_append_left (List.getElem?_eq_some_iff.1 hj).1]
   exact hj)) (by rw [hdl]; omega) hdone
  rw [this, hdl, hR1]
 have hg1 : (w.drew.drew.setRow g R1.toArray).heap[g]? = some (.cells R1.toArray 134 (0, 0)) := setRow_heap w.drew.drew g cur _ _ _ hg
 have hv1 : (w.drew.drew.setRow g R1.toArray).heap[vg]? = some (.cells #[u1, u2] 134 (0, 0)) := (setRow_other w.drew.drew g vg _ hvg).trans hv
 have f1 : Fr [g] w (w.drew.drew.setRow g R1.toArray) := setRow_fr (drew_fr (drew_fr (Fr.refl _ _))) hgl
 obtain ⟨W1, hW1⟩ : ∃ W1, w.drew.drew.setRow g R1.toArray = W1 := ⟨_, rfl⟩
 rw [hW1] at hcp1 hg1 hv1 f1
 obtain ⟨R2, hR2⟩ : ∃ R2, R1.take k ++ [u1, u2] ++ R1.drop (k + 2) = R2 := ⟨_, rfl⟩
 have hcp2 : ∀ ty dc, (Builtin.copy_ #[107, 107] ty #[.slice (some ⟨g, k, none⟩) (n + 1 - k) dc, .slice (some ⟨vg, 0, none⟩) 2 2]).run Tryz.prog W1 = .ok (goInt 2) (W1.setRow g R2.toArray) := fun ty dc => by
  have := run_copy_rowK (P := Tryz.prog) W1 107 107 ty 134 1 g k (n + 1 - k) dc ⟨vg, 0, none⟩ 2 2 2 R1.toArray 134 [u1, u2] Tryz.underlying107 hinfo hg1 (by simp only [Nat.min_def]; split <;> omega) rfl (two_src hv1) (by rw [List.size_toArray]; simp; omega) hone2
  rw [List.toList_toArray] at this
  rw [← hR2]
  exact this
 have hfin : (W1.setRow g R2.toArray).heap[g]? = some (.cells R2.toArray 134 (0, 0)) := setRow_heap W1 g _ _ _ _ hg1
 have hf2 : R2.toArray.size = C := by
  rw [List.size_toArray, ← hR2, List.length_append, List.length_append, List.length_take, List.length_drop, hR1l]
  simp
  omega
 have hf3 : R2.toArray.toList.take (n + 1) = V.take k ++ ([u1, u2] ++ V.drop (k + 1)) := by
  rw [List.toList_toArray, ← hR2, hR1k, hR1d, show V.take k ++ [u1, u2] ++ (V.drop (k + 1) ++ cur.toList.drop (k + 2 + (n - (k + 1)))) = (V.take k ++ ([u1, u2] ++ V.drop (k + 1))) ++ cur.toList.drop (k + 2 + (n - (k + 1))) by simp]
  rw [List.take_left' (by rw [List.length_append, List.length_append, List.length_take, hdl, hVl]; simp; omega)]
 have ffin : Fr [g] w (W1.setRow g R2.toArray) := setRow_fr f1 hgl
 have HF := Lib.hid (And.intro hfin (And.intro hf2 (And.intro hf3 ffin)))
 have HCP1 := Lib.hid hcp1
 have HCP2 := Lib.hid hcp2
 have HC := Lib.hid hC
 clear hcp1 hcp2 hfin hf2 hf3 ffin hR2 hW1 f1 hg1 hv1 hR1d hR1k hR1l hR1 hdone hdl hV hVk hVl hR hone hone2 hlen hszof hinfo gi gz0 gz1 gz2 hv hg h1 h2 hs
 unfold maxLen at hC
 have e1 : IntKind.i64.wrap ((k : Int) + 2) = (k : Int) + 2 := by rw [IntKind.wrap_i64]; omega
 have e2 : (0 : Int) ≤ (k : Int) + 2 := by omega
 have e3 : ((k : Int) + 2).toNat = k + 2 := by omega
 have e4 : (0 : Int) ≤ (k : Int) + 1 := by omega
 have e5 : ((k : Int) + 1).toNat = k + 1 := by omega
 have e6 : ¬ (C = k) := by omega
 have e7 : ¬ (C = k + 1) := by omega
 have e8 : ¬ (C = k + 2) := by omega
 have e9 : k ≤ C := by omega
 have e10 : (k : Int) + 1 ≤ (n : Int) := by omega
 have e11 : (k : Int) + 2 ≤ (n : Int) + 1 := by omega
 have e12 : (k : Int) ≤ (n : Int) + 1 := by omega
 have e13 : (k : Int) + 2 + ((n - (k + 1) : Nat) : Int) = (n : Int) + 1 := by omega
 have e14 : IntKind.i64.wrap ((n : Int) + 1) = (n : Int) + 1 := by rw [IntKind.wrap_i64]; omega
 go_enter Tryz.func86, Tryz.ntmps86
 go_wp2_with fail
 go_region_law fail
 go_wp2_with fail
 go_region_law (refine step_copy_run _ rfl _ _ 107 107 rfl (.slice (some ⟨g, k + 2, none⟩) (n - (k + 1)) (C - (k + 2))) (.slice (some ⟨g, k + 1, none⟩) (n - (k + 1)) (C - (k + 1))) (by simp [Act.eval, Act.put]) (by simp [Act.eval, Act.put]) (HCP1.out _ _ _) ?_)
 go_wp2_with (refine wpList_copy_run _ rfl _ _ 107 107 rfl _ _ rfl rfl (HCP2.out _ _) ?_)
 go_ret
 exact ⟨g, C, R2.toArray, rfl, hnC, HC.out, HF.out.1, HF.out.2.1, HF.out.2.2.1, .inl rfl, HF.out.2.2.2⟩
set_option maxHeartbeats 4000000 in
theorem replaceA (g n C k : Nat) (hk : k + 1 = n) (cur : Array Value) (vg : Nat) (u1 u2 : Value) (w : World) (hbig : n ≤ 100000) (hnC : n + 1 ≤ C) (hC : C ≤ maxLen)
 (hg : w.heap[g]? = some (.cells cur 134 (0, 0))) (hs : cur.size = C) (hv : w.heap[vg]? = some (.cells #[u1, u2] 134 (0, 0))) (h1 : u1.oneCell' = true) (h2 : u2.oneCell' = true) (hone : ∀ u ∈ cur.toList.take n, u.oneCell' = true) (hvg : vg ≠ g) :
 Calls Tryz.prog 86 #[.slice (some ⟨g, 0, none⟩) n C, .int .i64 k, .int .i64 ((k : Int) + 1), .slice (some ⟨vg, 0, none⟩) 2 2] w fun e w' =>
  ∃ g' C' cur', e = .returned (.slice (some ⟨g', 0, none⟩) (n + 1) C') ∧ n + 1 ≤ C' ∧ C' ≤ maxLen ∧ w'.heap[g']? = some (.cells cur' 134 (0, 0)) ∧ cur'.size = C' ∧ cur'.toList.take (n + 1) = cur.toList.take k ++ ([u1, u2] ++ (cur.toList.take n).drop (k + 1)) ∧ (g' = g ∨ w.heap.size ≤ g') ∧ Fr [g] w w' := by
 have hgl := (Go.ltA hg)
 have hvl := (Go.ltA hv)
 obtain ⟨j0, gi, gz0, gz1, gz2⟩ := info_one info_pg
 have hinfo : (Tryz.prog.info? 134).map (·.size) = some 1 := by rw [gi]; simp [gz1]
 have hszof : ∀ w, (Go.sizeOf 134).run Tryz.prog w = .ok 1 w := fun w => by simp [Go.sizeOf, typeInfo, gi, gz1]
 have hlen : cur.toList.length = cur.size := Array.length_toList
 have hone2 : ∀ u ∈ [u1, u2], u.oneCell' = true := by simp [h1, h2]
 obtain ⟨V, hV⟩ : ∃ V, cur.toList.take n = V := ⟨_, rfl⟩
 have hR := row_rest hV
 have hVl : V.length = n := by rw [← hV, List.length_take]; omega
 have hVk : cur.toList.take k = V.take k := by rw [← hV, List.take_take, Nat.min_eq_left (by omega)]
 rw [hV] at hone ⊢
 rw [hVk]
 have hdl : V.drop (k + 1) = [] := List.drop_eq_nil_of_le (by omega)
 have hrun : ∀ ty, (Builtin.append_ #[107, 107] ty #[.slice (some ⟨g, 0, none⟩) k C, .slice (some ⟨vg, 0, none⟩) 2 2]).run Tryz.prog w = .ok (.slice (some ⟨g, 0, none⟩) (k + 2) C) (w.setRow g (cur.toList.take k ++ [u1, u2] ++ cur.toList.drop (k + 2)).toArray) := fun ty => by
  have := run_append_room (P := Tryz.prog) w 107 ty 134 j0 Tryz.underlying107 gi g k C cur hg ⟨vg, 0, none⟩ 2 2 [u1, u2] (by rw [gz1]; rfl) (two_src hv) hone2 (by omega) (by rw [gz1]; simp; omega)
  rw [gz1, Nat.mul_one] at this
  exact this
 obtain ⟨R2, hR2⟩ : ∃ R2, cur.toList.take k ++ [u1, u2] ++ cur.toList.drop (k + 2) = R2 := ⟨_, rfl⟩
 rw [hR2] at hrun
 have hfin : (w.setRow g R2.toArray).heap[g]? = some (.cells R2.toArray 134 (0, 0)) := setRow_heap w g _ _ _ _ hg
 have hf2 : R2.toArray.size = C := by
  rw [List.size_toArray, ← hR2, List.length_append, List.length_append, List.length_take, List.length_drop, hlen]
  simp
  omega
 have hf3 : R2.toArray.toList.take (n + 1) = V.take k ++ ([u1, u2] ++ V.drop (k + 1)) := by
  rw [List.toList_toArray, ← hR2, hVk, hdl, List.append_nil]
  rw [List.take_left' (by rw [List.length_append, List.length_take, hVl]; simp; omega)]
 have ffin : Fr [g] w (w.setRow g R2.toArray) := setRow_fr (Fr.refl _ _) hgl
 have HF := Lib.hid (And.intro hfin (And.intro hf2 (And.intro hf3 ffin)))
 have HRUN := Lib.hid hrun
 have HC := Lib.hid hC
 have HK := Lib.hid hk
 clear hrun hfin hf2 hf3 ffin hR2 hdl hV hVk hVl hR hone hone2 hlen hszof hinfo gi gz0 gz1 gz2 hv hg h1 h2 hs
 unfold maxLen at hC
 have e1 : IntKind.i64.wrap ((k : Int) + 2) = (k : Int) + 2 := by rw [IntKind.wrap_i64]; omega
 have e2 : (0 : Int) ≤ (k : Int) + 2 := by omega
 have e3 : ((k : Int) + 2).toNat = k + 2 := by omega
 have e4 : (0 : Int) ≤ (k : Int) + 1 := by omega
 have e5 : ((k : Int) + 1).toNat = k + 1 := by omega
 have e6 : ¬ (C = k) := by omega
 have e9 : k ≤ C := by omega
 have e10 : (n : Int) = (k : Int) + 1 := by omega
 have e15 : k + 2 = n + 1 := by omega
 subst hk
 clear e15 e10
 go_enter Tryz.func86, Tryz.ntmps86
 go_wp2_with (refine wpList_append_runE _ rfl _ _ 107 107 rfl _ _ rfl rfl (HRUN.out _) ?_)
 go_ret
 exact ⟨g, C, rfl, hnC, HC.out, R2.toArray, HF.out.1, HF.out.2.1, HF.out.2.2.1, .inl rfl, HF.out.2.2.2⟩
set_option maxHeartbeats 4000000 in
theorem replaceB (g n k : Nat) (hk : k + 1 = n) (cur : Array Value) (vg : Nat) (u1 u2 : Value) (w : World) (hbig : n ≤ 100000) 
 (hg : w.heap[g]? = some (.cells cur 134 (0, 0))) (hs : cur.size = n) (hv : w.heap[vg]? = some (.cells #[u1, u2] 134 (0, 0))) (h1 : u1.oneCell' = true) (h2 : u2.oneCell' = true) (hone : ∀ u ∈ cur.toList.take n, u.oneCell' = true) (hvg : vg ≠ g) :
 Calls Tryz.prog 86 #[.slice (some ⟨g, 0, none⟩) n n, .int .i64 k, .int .i64 ((k : Int) + 1), .slice (some ⟨vg, 0, none⟩) 2 2] w fun e w' =>
  ∃ g' C' cur', e = .returned (.slice (some ⟨g', 0, none⟩) (n + 1) C') ∧ n + 1 ≤ C' ∧ C' ≤ maxLen ∧ w'.heap[g']? = some (.cells cur' 134 (0, 0)) ∧ cur'.size = C' ∧ cur'.toList.take (n + 1) = cur.toList.take k ++ ([u1, u2] ++ (cur.toList.take n).drop (k + 1)) ∧ (g' = g ∨ w.heap.size ≤ g') ∧ Fr [g] w w' := by
 have hgl := (Go.ltA hg)
 have hvl := (Go.ltA hv)
 obtain ⟨j0, gi, gz0, gz1, gz2⟩ := info_one info_pg
 have hinfo : (Tryz.prog.info? 134).map (·.size) = some 1 := by rw [gi]; simp [gz1]
 have hszof : ∀ w, (Go.sizeOf 134).run Tryz.prog w = .ok 1 w := fun w => by simp [Go.sizeOf, typeInfo, gi, gz1]
 have hlen : cur.toList.length = cur.size := Array.length_toList
 have hone2 : ∀ u ∈ [u1, u2], u.oneCell' = true := by simp [h1, h2]
 obtain ⟨V, hV⟩ : ∃ V, cur.toList.take n = V := ⟨_, rfl⟩
 have hR := row_rest hV
 have hVl : V.length = n := by rw [← hV, List.length_take]; omega
 have hVk : cur.toList.take k = V.take k := by rw [← hV, List.take_take, Nat.min_eq_left (by omega)]
 rw [hV] at hone ⊢
 rw [hVk]
 have hdl : V.drop (k + 1) = [] := List.drop_eq_nil_of_le (by omega)
 have hge := grownCap_ge w (k + 2) n 134
 have hle := grownCap_le_maxLen w (k + 2) n 134 (by unfold maxLen; omega)
 have htl : (V.take k).length = k := by rw [List.length_take]; omega
 have hrun : ∀ ty, (Builtin.append_ #[107, 107] ty #[.slice (some ⟨g, 0, none⟩) k n, .slice (some ⟨vg, 0, none⟩) 2 2]).run Tryz.prog w = .ok (.slice (some ⟨w.heap.size, 0, none⟩) (k + 2) (grownCap w (k + 2) n 134)) (w.drew.alloc (.cells ((V.take k).toArray ++ [u1, u2].toArray ++ Builtin.zeroCells (Value.slice none 0 0).cells (grownCap w (k + 2) n 134 - (k + 2))) 134)) := fun ty =>
  run_append_grow (P := Tryz.prog) w 107 ty 134 j0 _ Tryz.underlying107 gi gz0 ⟨g, 0, none⟩ k n (V.take k) (by rw [gz1, htl, Nat.mul_one]) (row_src hg (fun j u hj => by
   rw [List.getElem?_take] at hj
   split at hj
   · rw [Nat.zero_add, ← Array.getElem?_toList, hR, List.getElem?_append_left (List.getElem?_eq_some_iff.1 hj).1]
     exact hj
   · cases hj)) ⟨vg, 0, none⟩ 2 2 [u1, u2] (by rw [gz1]; rfl) (two_src hv) (by omega) (by omega) (by rw [gz2]; exact growslice_fits (by omega) (by omega))
 obtain ⟨G, hG⟩ : ∃ G, grownCap w (k + 2) n 134 = G := ⟨_, rfl⟩
 rw [hG] at hrun hge hle
 obtain ⟨R2, hR2⟩ : ∃ R2, (V.take k).toArray ++ [u1, u2].toArray ++ Builtin.zeroCells (Value.slice none 0 0).cells (G - (k + 2)) = R2 := ⟨_, rfl⟩
 rw [hR2] at hrun
 have hfin : (w.drew.alloc (.cells R2 134)).heap[w.heap.size]? = some (.cells R2 134 (0, 0)) := heap_alloc_new w.drew _
 have hf2 : R2.size = G := by
  rw [← hR2, Array.size_append, Array.size_append, size_zeroCells, List.size_toArray, htl]
  show k + 2 + (G - (k + 2)) * 1 = G
  omega
 have hf3 : R2.toList.take (n + 1) = V.take k ++ ([u1, u2] ++ V.drop (k + 1)) := by
  rw [← hR2, hdl, List.append_nil, Array.toList_append, Array.toList_append, List.toList_toArray, List.toList_toArray]
  rw [List.take_left' (by rw [List.length_append, htl]; simp; omega)]
 have ffin : Fr [g] w (w.drew.alloc (.cells R2 134)) := (drew_fr (Fr.refl _ _)).alloc _
 have HF := Lib.hid (And.intro hfin (And.intro hf2 (And.intro hf3 ffin)))
 have HRUN := Lib.hid hrun
 have HL := Lib.hid hle
 have HGE := Lib.hid (show n + 1 ≤ G by omega)
 clear hrun hfin hf2 hf3 ffin hR2 htl hdl hV hVk hVl hR hone hone2 hlen hszof hinfo gi gz0 gz1 gz2 hv hg h1 h2 hs hG hge hle
 have e1 : IntKind.i64.wrap ((k : Int) + 2) = (k : Int) + 2 := by rw [IntKind.wrap_i64]; omega
 have e2 : (0 : Int) ≤ (k : Int) + 2 := by omega
 have e3 : ((k : Int) + 2).toNat = k + 2 := by omega
 have e4 : (0 : Int) ≤ (k : Int) + 1 := by omega
 have e5 : ((k : Int) + 1).toNat = k + 1 := by omega
 subst hk
 go_enter Tryz.func86, Tryz.ntmps86
 go_wp2_with (refine wpList_append_runE _ rfl _ _ 107 107 rfl _ _ rfl rfl (HRUN.out _) ?_)
 go_ret
 exact ⟨w.heap.size, G, R2, rfl, HGE.out, HL.out, HF.out.1, HF.out.2.1, HF.out.2.2.1, .inr (Nat.le_refl _), HF.out.2.2.2⟩
set_option maxHeartbeats 4000000 in
theorem replaceC (g n k : Nat) (hk : k + 1 < n) (cur : Array Value) (vg : Nat) (u1 u2 : Value) (w : World) (hbig : n ≤ 100000) 
 (hg : w.heap[g]? = some (.cells cur 134 (0, 0))) (hs : cur.size = n) (hv : w.heap[vg]? = some (.cells #[u1, u2] 134 (0, 0))) (h1 : u1.oneCell' = true) (h2 : u2.oneCell' = true) (hone : ∀ u ∈ cur.toList.take n, u.oneCell' = true) (hvg : vg ≠ g) :
 Calls Tryz.prog 86 #[.slice (some ⟨g, 0, none⟩) n n, .int .i64 k, .int .i64 ((k : Int) + 1), .slice (some ⟨vg, 0, none⟩) 2 2] w fun e w' =>
  ∃ g' C' cur', e = .returned (.slice (some ⟨g', 0, none⟩) (n + 1) C') ∧ n + 1 ≤ C' ∧ C' ≤ maxLen ∧ w'.heap[g']? = some (.cells cur' 134 (0, 0)) ∧ cur'.size = C' ∧ cur'.toList.take (n + 1) = cur.toList.take k ++ ([u1, u2] ++ (cur.toList.take n).drop (k + 1)) ∧ (g' = g ∨ w.heap.size ≤ g') ∧ Fr [g] w w' := by
 have hgl := (Go.ltA hg)
 have hvl := (Go.ltA hv)
 obtain ⟨j0, gi, gz0, gz1, gz2⟩ := info_one info_pg
 have hinfo : (Tryz.prog.info? 134).map (·.size) = some 1 := by rw [gi]; simp [gz1]
 have hszof : ∀ w, (Go.sizeOf 134).run Tryz.prog w = .ok 1 w := fun w => by simp [Go.sizeOf, typeInfo, gi, gz1]
 have hlen : cur.toList.length = cur.size := Array.length_toList
 have hone2 : ∀ u ∈ [u1, u2], u.oneCell' = true := by simp [h1, h2]
 obtain ⟨V, hV⟩ : ∃ V, cur.toList.take n = V := ⟨_, rfl⟩
 have hR := row_rest hV
 have hVl : V.length = n := by rw [← hV, List.length_take]; omega
 have hVk : cur.toList.take k = V.take k := by rw [← hV, List.take_take, Nat.min_eq_left (by omega)]
 rw [hV] at hone ⊢
 rw [hVk]
 have hdl : (V.drop (k + 1)).length = n - (k + 1) := by rw [List.length_drop, hVl]
 have hdone : ∀ u ∈ V.drop (k + 1), u.oneCell' = true := fun u hu => hone u (List.mem_of_mem_drop hu)
 have hge := grownCap_ge w.drew (n + 1) n 134
 have hle := grownCap_le_maxLen w.drew (n + 1) n 134 (by unfold maxLen; omega)
 have htl : (V.take k).length = k := by rw [List.length_take]; omega
 have hkk : (n : Int) + 1 - (k : Int) = ((n + 1 - k : Nat) : Int) := by omega
 have hik : k + (n + 1 - k) = n + 1 := by omega
 have hrz : ∀ ty, (Builtin.append_ #[107, 3] ty #[.slice (some ⟨g, 0, none⟩) k n, .int .i64 ((n : Int) + 1 - (k : Int))]).run Tryz.prog w.drew = .ok (.slice (some ⟨w.heap.size, 0, none⟩) (n + 1) (grownCap w.drew (n + 1) n 134)) (w.drew.drew.alloc (.cells ((V.take k).toArray ++ Builtin.zeroCells (Value.slice none 0 0).cells (n + 1 - k) ++ Builtin.zeroCells (Value.slice none 0 0).cells (grownCap w.drew (n + 1) n 134 - (n + 1))) 134)) := fun ty => by
  have hold : (Builtin.firstCells j0.size k (.slice (some ⟨g, 0, none⟩) k n)).run Tryz.prog w.drew.drew = .ok (V.take k).toArray w.drew.drew := by
   rw [gz1]
   exact run_firstCells_some w.drew.drew 1 k ⟨g, 0, none⟩ k n (V.take k) (by rw [htl]; omega) (row_src (w := w.drew.drew) hg (fun j u hj => by
    rw [List.getElem?_take] at hj
    split at hj
    · rw [Nat.zero_add, ← Array.getElem?_toList, hR, List.getElem?_append_left (List.getElem?_eq_some_iff.1 hj).1]
      exact hj
    · cases hj))
  have h := Lib.run_append_grow_zeros (P := Tryz.prog) w.drew 107 3 ty 134 j0 _ .i64 .i64 Tryz.underlying107 Tryz.underlying3 gi gz0 (some ⟨g, 0, none⟩) k n (V.take k) hold (n + 1 - k) (by omega) (by omega) (by omega) (by omega) (by rw [gz2]; omega) (by rw [gz2, hik]; exact growslice_fits (by omega) (by omega))
  rw [hik] at h
  rw [hkk]
  exact h
 obtain ⟨G, hG⟩ : ∃ G, grownCap w.drew (n + 1) n 134 = G := ⟨_, rfl⟩
 rw [hG] at hrz hge hle
 obtain ⟨R, hRR⟩ : ∃ R : Array Value, (V.take k).toArray ++ Builtin.zeroCells (Value.slice none 0 0).cells (n + 1 - k) ++ Builtin.zeroCells (Value.slice none 0 0).cells (G - (n + 1)) = R := ⟨_, rfl⟩
 rw [hRR] at hrz
 have hRs : R.size = G := by
  rw [← hRR, Array.size_append, Array.size_append, size_zeroCells, size_zeroCells, List.size_toArray, htl]
  show k + (n + 1 - k) * 1 + (G - (n + 1)) * 1 = _
  omega
 have hRt : R.toList.take k = V.take k := by
  rw [← hRR, Array.toList_append, Array.toList_append, List.toList_toArray, List.append_assoc, List.take_left' htl]
 have hRl : R.toList.length = G := by rw [Array.length_toList, hRs]
 obtain ⟨W1, hW1⟩ : ∃ W1, w.drew.alloc (.cells R 134) = W1 := ⟨_, rfl⟩
 have hWd : w.drew.drew.alloc (.cells R 134) = W1.drew := by rw [← hW1]; rfl
 rw [hWd] at hrz
 have hg1 : W1.drew.heap[w.heap.size]? = some (.cells R 134 (0, 0)) := by rw [← hWd]; exact heap_alloc_new w.drew.drew _
 have hold1 : ∀ k, k < w.heap.size → W1.drew.heap[k]? = w.heap[k]? := fun k hk => by rw [← hWd]; exact Below.heap_alloc w.drew.drew _ k hk
 have f1 : Fr [g] w W1.drew := by rw [← hWd]; exact (drew_fr (drew_fr (Fr.refl _ _))).alloc _
 have hv1 : W1.drew.heap[vg]? = some (.cells #[u1, u2] 134 (0, 0)) := (hold1 vg hvl).trans hv
 have hb1 : W1.drew.heap[g]? = some (.cells cur 134 (0, 0)) := (hold1 g hgl).trans hg
 clear hW1 hWd hold1
 obtain ⟨W2, hW2⟩ : ∃ W2, W1.drew = W2 := ⟨_, rfl⟩
 rw [hW2] at hrz hg1 f1 hv1 hb1
 have hcpA : ∀ ty dc, (Builtin.copy_ #[107, 107] ty #[.slice (some ⟨w.heap.size, k, none⟩) (n + 1 - k) dc, .slice (some ⟨vg, 0, none⟩) 2 2]).run Tryz.prog W2 = .ok (goInt 2) (W2.setRow w.heap.size (R.toList.take k ++ [u1, u2] ++ R.toList.drop (k + 2)).toArray) := fun ty dc =>
  run_copy_rowK (P := Tryz.prog) W2 107 107 ty 134 1 w.heap.size k (n + 1 - k) dc ⟨vg, 0, none⟩ 2 2 2 R 134 [u1, u2] Tryz.underlying107 hinfo hg1 (by simp only [Nat.min_def]; split <;> omega) rfl (two_src hv1) (by simp; omega) hone2
 obtain ⟨R1, hR1⟩ : ∃ R1, R.toList.take k ++ [u1, u2] ++ R.toList.drop (k + 2) = R1 := ⟨_, rfl⟩
 rw [hR1] at hcpA
 have hR1l : R1.length = G := by
  rw [← hR1, List.length_append, List.length_append, List.length_take, List.length_drop, hRl]; simp; omega
 have hR1t : R1.take (k + 2) = V.take k ++ [u1, u2] := by
  rw [← hR1, hRt, List.take_left' (by rw [List.length_append, htl]; rfl)]
 have hg2 : (W2.setRow w.heap.size R1.toArray).drew.heap[w.heap.size]? = some (.cells R1.toArray 134 (0, 0)) := setRow_heap W2 _ _ _ _ _ hg1
 have hb2 : (W2.setRow w.heap.size R1.toArray).drew.heap[g]? = some (.cells cur 134 (0, 0)) := (setRow_other W2 w.heap.size g _ (by omega)).trans hb1
 have f2 : Fr [g] w (W2.setRow w.heap.size R1.toArray).drew := by
  refine drew_fr ⟨f1.os, f1.tape, f1.output, by have := f1.size; simpa using this, fun k hk hm => (setRow_other W2 _ k _ (by omega)).trans (f1.block k hk hm)⟩
 obtain ⟨W3, hW3⟩ : ∃ W3, (W2.setRow w.heap.size R1.toArray).drew = W3 := ⟨_, rfl⟩
 rw [hW3] at hg2 hb2 f2
 have hcpB : ∀ ty dc sc, (Builtin.copy_ #[107, 107] ty #[.slice (some ⟨w.heap.size, k + 2, none⟩) (n - (k + 1)) dc, .slice (some ⟨g, k + 1, none⟩) (n - (k + 1)) sc]).run Tryz.prog W3 = .ok (goInt ((n - (k + 1) : Nat))) (W3.setRow w.heap.size (R1.take (k + 2) ++ V.drop (k + 1) ++ R1.drop (k + 2 + (n - (k + 1)))).toArray) := fun ty dc sc => by
  have := run_copy_rowK (P := Tryz.prog) W3 107 107 ty 134 1 w.heap.size (k + 2) (n - (k + 1)) dc ⟨g, k + 1, none⟩ (n - (k + 1)) sc (n - (k + 1)) R1.toArray 134 (V.drop (k + 1)) Tryz.underlying107 hinfo hg2 (by simp only [Nat.min_def]; split <;> omega) (by rw [hdl]; omega) (row_src hb2 (fun j u hj => by
   rw [List.getElem?_drop] at hj
   rw [← Array.getElem?_toList, hR, List.getElem?_append_left (List.getElem?_eq_some_iff.1 hj).1]
   exact hj)) (by rw [hdl, List.size_toArray]; omega) hdone
  rw [this, hdl, List.toList_toArray]
 obtain ⟨R2, hR2⟩ : ∃ R2, R1.take (k + 2) ++ V.drop (k + 1) ++ R1.drop (k + 2 + (n - (k + 1))) = R2 := ⟨_, rfl⟩
 rw [hR2] at hcpB
 have hfin : (W3.setRow w.heap.size R2.toArray).heap[w.heap.size]? = some (.cells R2.toArray 134 (0, 0)) := setRow_heap W3 _ _ _ _ _ hg2
 have hf2 : R2.toArray.size = G := by
  rw [List.size_toArray, ← hR2, List.length_append, List.length_append, List.length_take, hdl, List.length_drop, hR1l]
  omega
 have hf3 : R2.toArray.toList.take (n + 1) = V.take k ++ ([u1, u2] ++ V.drop (k + 1)) := by
  rw [List.toList_toArray, ← hR2, hR1t, show (V.take k ++ [u1, u2]) ++ V.drop (k + 1) = V.take k ++ ([u1, u2] ++ V.drop (k + 1)) by simp]
  rw [List.take_left' (by rw [List.length_append, List.length_append, htl, hdl]; simp; omega)]
 have ffin : Fr [g] w (W3.setRow w.heap.size R2.toArray) := ⟨f2.os, f2.tape, f2.output, by have := f2.size; simpa using this, fun k hk hm => (setRow_other W3 _ k _ (by omega)).trans (f2.block k hk hm)⟩
 have HF := Lib.hid (And.intro hfin (And.intro hf2 (And.intro hf3 ffin)))
 have HL := Lib.hid hle
 have HGE := Lib.hid hge
 have f1' : ¬ (G = k) := by omega
 have f2' : ¬ (G = k + 2) := by omega
 clear hfin hf2 hf3 ffin hR2 hR1 hR1l hR1t hRl hRt hRs hRR hdone hdl htl hkk hik hV hVk hVl hR hone hone2 hlen hszof hinfo gi gz0 gz1 gz2 hv hg h1 h2 hs hb1 hb2 hg1 hg2 hv1 f1 f2 hG
 have HRZ := Lib.hid hrz
 have HCPA := Lib.hid hcpA
 have HCPB := Lib.hid hcpB
 subst hW2
 subst hW3
 clear hrz hcpA hcpB
 unfold maxLen at hle
 have e1 : IntKind.i64.wrap ((k : Int) + 2) = (k : Int) + 2 := by rw [IntKind.wrap_i64]; omega
 have e2 : (0 : Int) ≤ (k : Int) + 2 := by omega
 have e3 : ((k : Int) + 2).toNat = k + 2 := by omega
 have e4 : (0 : Int) ≤ (k : Int) + 1 := by omega
 have e5 : ((k : Int) + 1).toNat = k + 1 := by omega
 have e6 : ¬ (n = k) := by omega
 have e7 : ¬ (n = k + 1) := by omega
 have e9 : k ≤ n := by omega
 have e10 : (k : Int) + 1 ≤ (n : Int) := by omega
 have e11 : (k : Int) + 2 ≤ (n : Int) + 1 := by omega
 have e12 : (k : Int) ≤ (n : Int) + 1 := by omega
 have e13 : (k : Int) + 2 + ((n - (k + 1) : Nat) : Int) = (n : Int) + 1 := by omega
 have e14 : IntKind.i64.wrap ((n : Int) + 1) = (n : Int) + 1 := by rw [IntKind.wrap_i64]; omega
 go_enter Tryz.func86, Tryz.ntmps86
 go_wp2_with fail
 go_region_law fail
 go_wp2_with (first
  | (refine wpList_append_runE _ rfl _ _ 107 3 rfl _ _ rfl rfl (HRZ.out _) ?_)
  | (refine wpList_copy_run _ rfl _ _ 107 107 rfl _ _ rfl rfl (HCPA.out _ _) ?_))
 go_region_law (refine step_copy_run _ rfl _ _ 107 107 rfl (.slice (some ⟨w.heap.size, k + 2, none⟩) (n - (k + 1)) (G - (k + 2))) (.slice (some ⟨g, k + 1, none⟩) (n - (k + 1)) (n - (k + 1))) (by simp [Act.eval, Act.put]) (by simp [Act.eval, Act.put]) (HCPB.out _ _ _) ?_)
 go_wp2_with fail
 go_ret
 exact ⟨w.heap.size, G, R2.toArray, rfl, HGE.out, HL.out, HF.out.1, HF.out.2.1, HF.out.2.2.1, .inr (Nat.le_refl _), HF.out.2.2.2⟩
theorem replace_any (g n C k : Nat) (hk : k < n) (cur : Array Value) (vg : Nat) (u1 u2 : Value) (w : World) (hbig : n ≤ 100000) (hnC : n ≤ C) (hC : C ≤ maxLen)
 (hg : w.heap[g]? = some (.cells cur 134 (0, 0))) (hs : cur.size = C) (hv : w.heap[vg]? = some (.cells #[u1, u2] 134 (0, 0))) (h1 : u1.oneCell' = true) (h2 : u2.oneCell' = true) (hone : ∀ u ∈ cur.toList.take n, u.oneCell' = true) (hvg : vg ≠ g) :
 Calls Tryz.prog 86 #[.slice (some ⟨g, 0, none⟩) n C, .int .i64 k, .int .i64 ((k : Int) + 1), .slice (some ⟨vg, 0, none⟩) 2 2] w fun e w' =>
  ∃ g' C' cur', e = .returned (.slice (some ⟨g', 0, none⟩) (n + 1) C') ∧ n + 1 ≤ C' ∧ C' ≤ maxLen ∧ w'.heap[g']? = some (.cells cur' 134 (0, 0)) ∧ cur'.size = C' ∧ cur'.toList.take (n + 1) = cur.toList.take k ++ ([u1, u2] ++ (cur.toList.take n).drop (k + 1)) ∧ (g' = g ∨ w.heap.size ≤ g') ∧ Fr [g] w w' := by
 by_cases h : k + 1 < n
 · by_cases hr : n + 1 ≤ C
   · exact replaceD g n C k h cur vg u1 u2 w hbig hr hC hg hs hv h1 h2 hone hvg
   · obtain rfl : C = n := by omega
     exact replaceC g C k h cur vg u1 u2 w hbig hg hs hv h1 h2 hone hvg
 · by_cases hr : n + 1 ≤ C
   · exact replaceA g n C k (by omega) cur vg u1 u2 w hbig hr hC hg hs hv h1 h2 hone hvg
   · obtain rfl : C = n := by omega
     exact replaceB g C k (by omega) cur vg u1 u2 w hbig hg hs hv h1 h2 hone hvg
end Go.Proofs.YtoglloafpnopaaaGreat
