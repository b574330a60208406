/- slices.Insert of one cell into a page. -/
import Derived.Test.YtoglloafpnopaaaGreatTF
import Derived.Test.YtoglloafpnopaaaGreatMA
set_option linter.unusedSimpArgs false
set_option linter.unusedVariables false
namespace Spoor
open Go Go.Proofs.YtoglloafpnopaaaGreat
theorem rowOf_take : ∀ (l : List Ce) (i : Nat), rowOf (l.take i) = (rowOf l).take (i * 3)
 | [], i => by simp [rowOf]
 | c :: l, 0 => by simp [rowOf]
 | c :: l, i + 1 => by
   have e : rowOf (c :: l) = ceRow c ++ rowOf l := by simp [rowOf]
   have e2 : rowOf ((c :: l).take (i + 1)) = ceRow c ++ rowOf (l.take i) := by simp [rowOf]
   have hl : (ceRow c).length = 3 := rfl
   rw [e, e2, rowOf_take l i, List.take_append, List.take_of_length_le (show (ceRow c).length ≤ (i + 1) * 3 by omega), show (i + 1) * 3 - (ceRow c).length = i * 3 by omega]
theorem rowOf_drop : ∀ (l : List Ce) (i : Nat), rowOf (l.drop i) = (rowOf l).drop (i * 3)
 | [], i => by simp [rowOf]
 | c :: l, 0 => by simp
 | c :: l, i + 1 => by
   have e : rowOf (c :: l) = ceRow c ++ rowOf l := by simp [rowOf]
   have hl : (ceRow c).length = 3 := rfl
   rw [e, List.drop_succ_cons, rowOf_drop l i, List.drop_append, List.drop_eq_nil_of_le (show (ceRow c).length ≤ (i + 1) * 3 by omega), List.nil_append, show (i + 1) * 3 - (ceRow c).length = i * 3 by omega]
theorem rowOf_in (l : List Ce) (i : Nat) (c : Ce) : rowOf (l.take i ++ c :: l.drop i) = (rowOf l).take (i * 3) ++ (ceRow c ++ (rowOf l).drop (i * 3)) := by
 have e : rowOf (l.take i ++ c :: l.drop i) = rowOf (l.take i) ++ (ceRow c ++ rowOf (l.drop i)) := by simp [rowOf]
 rw [e, rowOf_take, rowOf_drop]
theorem in_length (l : List Ce) (i : Nat) (c : Ce) (h : i ≤ l.length) : (l.take i ++ c :: l.drop i).length = l.length + 1 := by
 rw [List.length_append, List.length_cons, List.length_take, List.length_drop]; omega
end Spoor
namespace Go.Proofs.YtoglloafpnopaaaGreat
set_option maxRecDepth 16000
open Go.RowKit Spoor
theorem ceAt_src {vb : Nat} {c : Ce} {w : World} (h : CeAt vb c w) : ∀ j u, (ceRow c)[j]? = some u → w.cell? ((⟨vb, 0, none⟩ : Addr).add j) = some u := by
 intro j u hj
 rw [Addr.add_lit]
 obtain ⟨h0, h1, h2⟩ := h.cell
 match j, hj with
 | 0, hj => simp [ceRow] at hj; subst hj; exact h0
 | 1, hj => simp [ceRow] at hj; subst hj; exact h1
 | 2, hj => simp [ceRow] at hj; subst hj; exact h2
theorem row_src {b : Nat} {cur : Array Value} {e : TypeId} {w : World} (h : w.heap[b]? = some (.cells cur e (0, 0))) {o : Nat} {xs : List Value} (hx : ∀ j u, xs[j]? = some u → cur[o + j]? = some u) : ∀ j u, xs[j]? = some u → w.cell? ((⟨b, o, none⟩ : Addr).add j) = some u := by
 intro j u hj
 rw [Addr.add_lit, World.cell?]
 simp only [h]
 exact hx j u hj
theorem setRow_fr {w w1 : World} {b : Nat} {cur : Array Value} (h : Fr [b] w w1) (hb : b < w.heap.size) : Fr [b] w (w1.setRow b cur) :=
 ⟨h.os, h.tape, h.output, by have := h.size; simpa using this, fun k hk hm => (setRow_other w1 b k cur (fun e => hm (by simp [e]))).trans (h.block k hk hm)⟩
theorem drew_fr {S : List Nat} {w w1 : World} (h : Fr S w w1) : Fr S w w1.drew := ⟨h.os, h.tape, h.output, h.size, h.block⟩
set_option maxHeartbeats 4000000 in
theorem insertA (b n cap i : Nat) (cur : Array Value) (l : List Ce) (c : Ce) (vb : Nat) (w : World) (hl : l.length = n) (hi : i < n) (hnc : n + 1 ≤ cap) (hbig : n ≤ 1000) (hcap : cap ≤ maxLen)
 (hb : w.heap[b]? = some (.cells cur 38 (0, 0))) (hsz : cap * 3 ≤ cur.size) (hcur : cur.toList.take (n * 3) = rowOf l) (hv : CeAt vb c w) (hvb : vb ≠ b) :
 Calls Tryz.prog 85 #[.slice (some ⟨b, 0, none⟩) n cap, .int .i64 i, .slice (some ⟨vb, 0, none⟩) 1 1] w fun e w' =>
  ∃ b' cap', e = .returned (.slice (some ⟨b', 0, none⟩) (n + 1) cap') ∧ PageAt (.slice (some ⟨b', 0, none⟩) (n + 1) cap') (l.take i ++ c :: l.drop i) b' w' ∧ (b' = b ∨ w.heap.size ≤ b') ∧ Fr [b] w w' := by
 have hbl := (Go.ltA hb)
 have hvl := hv.lt
 have hXl : (rowOf l).length = n * 3 := by rw [rowOf_length, hl]
 have hR := row_rest hcur
 have hin := rowOf_in l i c
 have hlen := in_length l i c (by omega)
 rw [hl] at hlen
 obtain ⟨X, hX⟩ : ∃ X, rowOf l = X := ⟨_, rfl⟩
 rw [hX] at hcur hXl hR hin
 have hdl : (X.drop (i * 3)).length = (n - i) * 3 := by rw [List.length_drop, hXl]; omega
 have hone : ∀ u ∈ X.drop (i * 3), u.oneCell' = true := fun u hu => by
  have := List.mem_of_mem_drop hu
  rw [← hX] at this
  exact rowOf_one l u this
 have hinfo : (Tryz.prog.info? 38).map (·.size) = some 3 := by
  obtain ⟨j0, gi, gz0, gz1, gz2⟩ := info_one info_ce
  rw [gi]; simp [gz1]
 have hszof : ∀ w, (Go.sizeOf 38).run Tryz.prog w = .ok 3 w := fun w => by
  obtain ⟨j0, gi, gz0, gz1, gz2⟩ := info_one info_ce
  simp [Go.sizeOf, typeInfo, gi, gz1]
 have hcursz : cur.toList.length = cur.size := Array.length_toList
 have hspl := splice_in (c := ceRow c) (k := 3) (p := i * 3) hR (by omega) rfl (by rw [List.length_drop]; omega)
 obtain ⟨R1, hR1⟩ : ∃ R1, cur.toList.take (i * 3 + 3) ++ X.drop (i * 3) ++ cur.toList.drop (i * 3 + 3 + (X.drop (i * 3)).length) = R1 := ⟨_, rfl⟩
 have hR1l : R1.length = cur.size := by
  rw [← hR1, List.length_append, List.length_append, List.length_take, hdl, List.length_drop, hcursz]; omega
 rw [hR1] at hspl
 have hov : ∀ W, W = w → ∀ lb cb, (callFunc 111 #[.slice (some ⟨vb, 0, none⟩) 1 1, .slice (some ⟨b, (i + 1) * 3, none⟩) lb cb]).run Tryz.prog W = .ok (.value (.bool false)) W := fun W hW lb cb => by
  subst hW
  rw [run_callFunc_extern Tryz.func111 (by kernel_rfl) (by kernel_rfl) (by kernel_rfl) (e := Extern.SlicesOverlaps.overlaps #[22, 22] #[4]) (by kernel_rfl),
   Lib.run_overlaps_apart W 22 4 38 Tryz.underlying22 3 hszof ⟨vb, 0, none⟩ ⟨b, (i + 1) * 3, none⟩ 1 1 lb cb hvb 38 38 3 cur.size (by simp [World.shape?, show W.heap[vb]? = _ from hv]) (by simp [World.shape?, hb]) (by omega) hv.frees.1 (by simp [World.frozen?, show W.heap[vb]? = _ from hv])]
  rfl
 obtain ⟨j0, gi, gz0, gz1, gz2⟩ := info_one info_ce
 have hcp1 : ∀ ty dc sc, (Builtin.copy_ #[134, 134] ty #[.slice (some ⟨b, (i + 1) * 3, none⟩) (n - i) dc, .slice (some ⟨b, i * 3, none⟩) (n + 1 - i) sc]).run Tryz.prog w.drew = .ok (goInt ((n - i : Nat))) (w.drew.setRow b R1.toArray) := fun ty dc sc => by
  have := run_copy_rowK (P := Tryz.prog) w.drew 134 134 ty 38 3 b (i * 3 + 3) (n - i) dc ⟨b, i * 3, none⟩ (n + 1 - i) sc (n - i) cur 38 (X.drop (i * 3)) Tryz.underlying134 hinfo hb (by simp only [Nat.min_def]; split <;> omega) hdl (row_src hb (fun j u hj => by
   rw [List.getElem?_drop] at hj
   rw [← Array.getElem?_toList, hR, List.getElem?_append_left (by rw [hXl]; have := (List.getElem?_eq_some_iff.1 hj).1; omega)]
   exact hj)) (by rw [hdl]; omega) hone
  rw [show (i + 1) * 3 = i * 3 + 3 by omega, this, hR1]
 have hb1 : (w.drew.setRow b R1.toArray).heap[b]? = some (.cells R1.toArray 38 (0, 0)) := setRow_heap w.drew b cur _ _ _ hb
 have hv1 : CeAt vb c (w.drew.setRow b R1.toArray) := (setRow_other w.drew b vb _ hvb).trans hv
 have f1 : Fr [b] w (w.drew.setRow b R1.toArray) := setRow_fr (drew_fr (Fr.refl _ _)) hbl
 obtain ⟨W1, hW1⟩ : ∃ W1, w.drew.setRow b R1.toArray = W1 := ⟨_, rfl⟩
 rw [hW1] at hcp1 hb1 hv1 f1
 have hcp2 : ∀ ty dc, (Builtin.copy_ #[134, 22] ty #[.slice (some ⟨b, i * 3, none⟩) (n + 1 - i) dc, .slice (some ⟨vb, 0, none⟩) 1 1]).run Tryz.prog W1 = .ok (goInt 1) (W1.setRow b (R1.take (i * 3) ++ ceRow c ++ R1.drop (i * 3 + 3)).toArray) := fun ty dc => by
  have := run_copy_rowK (P := Tryz.prog) W1 134 22 ty 38 3 b (i * 3) (n + 1 - i) dc ⟨vb, 0, none⟩ 1 1 1 R1.toArray 38 (ceRow c) Tryz.underlying134 hinfo hb1 (by simp only [Nat.min_def]; split <;> omega) rfl (ceAt_src hv1) (by have : (ceRow c).length = 3 := rfl; rw [this, List.size_toArray]; omega) (ceRow_one c)
  simp only [List.toList_toArray] at this
  have h3 : (ceRow c).length = 3 := rfl
  rw [h3] at this
  exact this
 have hfin : PageAt (.slice (some ⟨b, 0, none⟩) (n + 1) cap) (l.take i ++ c :: l.drop i) b (W1.setRow b (R1.take (i * 3) ++ ceRow c ++ R1.drop (i * 3 + 3)).toArray) := by
  refine ⟨cap, _, by rw [hlen], by rw [hlen]; exact hnc, hcap, setRow_heap W1 b _ _ _ _ hb1, ?_, ?_⟩
  · rw [List.size_toArray, List.length_append, List.length_append, List.length_take, List.length_drop, hR1l]
    have : (ceRow c).length = 3 := rfl
    omega
  · rw [hlen, hin, hspl]
    have h3 : (ceRow c).length = 3 := rfl
    rw [show X.take (i * 3) ++ (ceRow c ++ (X.drop (i * 3) ++ (cur.toList.drop (n * 3)).drop 3)) = (X.take (i * 3) ++ (ceRow c ++ X.drop (i * 3))) ++ (cur.toList.drop (n * 3)).drop 3 by simp]
    rw [List.take_left' (by rw [List.length_append, List.length_append, List.length_take, hdl, hXl, h3]; omega)]
 have ffin : Fr [b] w (W1.setRow b (R1.take (i * 3) ++ ceRow c ++ R1.drop (i * 3 + 3)).toArray) := setRow_fr f1 hbl
 obtain ⟨R2, hR2⟩ : ∃ R2, R1.take (i * 3) ++ ceRow c ++ R1.drop (i * 3 + 3) = R2 := ⟨_, rfl⟩
 rw [hR2] at hcp2 hfin ffin
 have HF := Lib.hid (And.intro hfin ffin)
 clear hR2 hfin ffin hspl hb1 hv1 f1 hR1 hR1l hR hX hin hlen hone hdl hcur hXl hszof hinfo
 have HCP1 := Lib.hid hcp1
 have HCP2 := Lib.hid hcp2
 have hov := fun lb cb => hov w rfl lb cb
 clear hcp1 hcp2 hW1
 unfold maxLen at hcap
 have hw1 : IntKind.i64.wrap ((i : Int) + 1) = (i : Int) + 1 := by rw [IntKind.wrap_i64]; omega
 have hb1 : (0 : Int) ≤ (i : Int) + 1 := by omega
 have htn : ((i : Int) + 1).toNat = i + 1 := by omega
 have hb2 : ¬ (cap = i + 1) := by omega
 have hb3 : (i : Int) + 1 ≤ (n : Int) + 1 := by omega
 have hb4 : ¬ (cap = i) := by omega
 have hb5 : (i : Int) ≤ (n : Int) + 1 := by omega
 go_enter Tryz.func85, Tryz.ntmps85
 go_wp2_with fail
 go_region_law (refine step_copy_run _ rfl _ _ 134 134 rfl (.slice (some ⟨b, (i + 1) * 3, none⟩) (n - i) (cap - (i + 1))) (.slice (some ⟨b, i * 3, none⟩) (n + 1 - i) (cap - i)) (by simp [Act.eval, Act.put]) (by simp [Act.eval, Act.put]) (HCP1.out _ _ _) ?_)
 go_wp2_with (refine wpList_copy_run _ rfl _ _ 134 22 rfl _ _ rfl rfl (HCP2.out _ _) ?_)
 go_ret
 exact ⟨b, cap, rfl, HF.out.1, .inl rfl, HF.out.2⟩
set_option maxHeartbeats 4000000 in
theorem insertB (b n cap : Nat) (cur : Array Value) (l : List Ce) (c : Ce) (vb : Nat) (w : World) (hl : l.length = n) (hnc : n + 1 ≤ cap) (hbig : n ≤ 1000) (hcap : cap ≤ maxLen)
 (hb : w.heap[b]? = some (.cells cur 38 (0, 0))) (hsz : cap * 3 ≤ cur.size) (hcur : cur.toList.take (n * 3) = rowOf l) (hv : CeAt vb c w) :
 Calls Tryz.prog 85 #[.slice (some ⟨b, 0, none⟩) n cap, .int .i64 n, .slice (some ⟨vb, 0, none⟩) 1 1] w fun e w' =>
  ∃ b' cap', e = .returned (.slice (some ⟨b', 0, none⟩) (n + 1) cap') ∧ PageAt (.slice (some ⟨b', 0, none⟩) (n + 1) cap') (l.take n ++ c :: l.drop n) b' w' ∧ (b' = b ∨ w.heap.size ≤ b') ∧ Fr [b] w w' := by
 have hbl := (Go.ltA hb)
 have hvl := hv.lt
 have hXl : (rowOf l).length = n * 3 := by rw [rowOf_length, hl]
 have hin := rowOf_in l n c
 have hlen := in_length l n c (by omega)
 rw [hl] at hlen
 have hR := row_rest hcur
 have hXone := rowOf_one l
 obtain ⟨X, hX⟩ : ∃ X, rowOf l = X := ⟨_, rfl⟩
 rw [hX] at hcur hXl hin hR hXone
 have h3 : (ceRow c).length = 3 := rfl
 have hinfo : (Tryz.prog.info? 38).map (·.size) = some 3 := by
  obtain ⟨j0, gi, gz0, gz1, gz2⟩ := info_one info_ce
  rw [gi]; simp [gz1]
 obtain ⟨j0, gi, gz0, gz1, gz2⟩ := info_one info_ce
 have hcursz : cur.toList.length = cur.size := Array.length_toList
 have hrun : ∀ ty, (Builtin.append_ #[134, 22] ty #[.slice (some ⟨b, 0, none⟩) n cap, .slice (some ⟨vb, 0, none⟩) 1 1]).run Tryz.prog w = .ok (.slice (some ⟨b, 0, none⟩) (n + 1) cap) (w.setRow b (cur.toList.take (n * 3) ++ ceRow c ++ cur.toList.drop (n * 3 + 3)).toArray) := fun ty => by
  rw [append_type2 w 134 22 ty 38 38 Tryz.underlying134 Tryz.underlying22]
  have := run_append_room (P := Tryz.prog) w 134 ty 38 j0 Tryz.underlying134 gi b n cap cur hb ⟨vb, 0, none⟩ 1 1 (ceRow c) (by rw [gz1, h3]) (ceAt_src hv) (ceRow_one c) hnc (by rw [gz1, h3]; omega)
  rw [gz1, h3] at this
  exact this
 have hfin : PageAt (.slice (some ⟨b, 0, none⟩) (n + 1) cap) (l.take n ++ c :: l.drop n) b (w.setRow b (cur.toList.take (n * 3) ++ ceRow c ++ cur.toList.drop (n * 3 + 3)).toArray) := by
  refine ⟨cap, _, by rw [hlen], by rw [hlen]; exact hnc, hcap, setRow_heap w b _ _ _ _ hb, ?_, ?_⟩
  · rw [List.size_toArray, List.length_append, List.length_append, List.length_take, List.length_drop, hcursz, h3]
    omega
  · rw [hlen, hin, hcur, List.drop_eq_nil_of_le (show X.length ≤ n * 3 by omega), List.append_nil, List.take_of_length_le (show X.length ≤ n * 3 by omega)]
    rw [List.take_left' (by rw [List.length_append, hXl, h3]; omega)]
 have ffin : Fr [b] w (w.setRow b (cur.toList.take (n * 3) ++ ceRow c ++ cur.toList.drop (n * 3 + 3)).toArray) := setRow_fr (Fr.refl _ _) hbl
 obtain ⟨R2, hR2⟩ : ∃ R2, cur.toList.take (n * 3) ++ ceRow c ++ cur.toList.drop (n * 3 + 3) = R2 := ⟨_, rfl⟩
 rw [hR2] at hrun hfin ffin
 have HF := Lib.hid (And.intro hfin ffin)
 have HRUN := Lib.hid hrun
 clear hR2 hfin ffin hrun hin hlen hR hX hcur hXl hXone hb hsz hinfo gi gz0 gz1 gz2 hcursz hv
 unfold maxLen at hcap
 go_enter Tryz.func85, Tryz.ntmps85
 go_wp2_with (refine wpList_append_runE _ rfl _ _ 134 22 rfl _ _ rfl rfl (HRUN.out _) ?_)
 go_ret
 exact ⟨b, cap, rfl, HF.out.1, .inl rfl, HF.out.2⟩
set_option maxHeartbeats 4000000 in
theorem insertC (b n : Nat) (cur : Array Value) (l : List Ce) (c : Ce) (vb : Nat) (w : World) (hl : l.length = n) (hbig : n ≤ 1000) 
 (hb : w.heap[b]? = some (.cells cur 38 (0, 0))) (hsz : n * 3 ≤ cur.size) (hcur : cur.toList.take (n * 3) = rowOf l) (hv : CeAt vb c w) :
 Calls Tryz.prog 85 #[.slice (some ⟨b, 0, none⟩) n n, .int .i64 n, .slice (some ⟨vb, 0, none⟩) 1 1] w fun e w' =>
  ∃ b' cap', e = .returned (.slice (some ⟨b', 0, none⟩) (n + 1) cap') ∧ PageAt (.slice (some ⟨b', 0, none⟩) (n + 1) cap') (l.take n ++ c :: l.drop n) b' w' ∧ (b' = b ∨ w.heap.size ≤ b') ∧ Fr [b] w w' := by
 have hbl := (Go.ltA hb)
 have hvl := hv.lt
 have hXl : (rowOf l).length = n * 3 := by rw [rowOf_length, hl]
 have hin := rowOf_in l n c
 have hlen := in_length l n c (by omega)
 rw [hl] at hlen
 have hR := row_rest hcur
 have hXone := rowOf_one l
 obtain ⟨X, hX⟩ : ∃ X, rowOf l = X := ⟨_, rfl⟩
 rw [hX] at hcur hXl hin hR hXone
 have h3 : (ceRow c).length = 3 := rfl
 have hinfo : (Tryz.prog.info? 38).map (·.size) = some 3 := by
  obtain ⟨j0, gi, gz0, gz1, gz2⟩ := info_one info_ce
  rw [gi]; simp [gz1]
 obtain ⟨j0, gi, gz0, gz1, gz2⟩ := info_one info_ce
 have hcursz : cur.toList.length = cur.size := Array.length_toList
 have hge := grownCap_ge w (n + 1) n 38
 have hle := grownCap_le_maxLen w (n + 1) n 38 (by unfold maxLen; omega)
 have hrun : ∀ ty, (Builtin.append_ #[134, 22] ty #[.slice (some ⟨b, 0, none⟩) n n, .slice (some ⟨vb, 0, none⟩) 1 1]).run Tryz.prog w = .ok (.slice (some ⟨w.heap.size, 0, none⟩) (n + 1) (grownCap w (n + 1) n 38)) (w.drew.alloc (.cells (X.toArray ++ (ceRow c).toArray ++ Builtin.zeroCells ((.agg #[.string ⟨#[]⟩, .int .i64 0, .string ⟨#[]⟩]) : Value).cells (grownCap w (n + 1) n 38 - (n + 1))) 38)) := fun ty => by
  rw [append_type2 w 134 22 ty 38 38 Tryz.underlying134 Tryz.underlying22]
  exact run_append_grow (P := Tryz.prog) w 134 ty 38 j0 _ Tryz.underlying134 gi gz0 ⟨b, 0, none⟩ n n X (by rw [gz1]; exact hXl) (row_src hb (fun j u hj => by
   rw [Nat.zero_add, ← Array.getElem?_toList, hR, List.getElem?_append_left (List.getElem?_eq_some_iff.1 hj).1]
   exact hj)) ⟨vb, 0, none⟩ 1 1 (ceRow c) (by rw [gz1, h3]) (ceAt_src hv) (by omega) (by omega) (by rw [gz2]; exact growslice_fits (by omega) (by omega))
 obtain ⟨G, hG⟩ : ∃ G, grownCap w (n + 1) n 38 = G := ⟨_, rfl⟩
 rw [hG] at hrun hge hle
 obtain ⟨R, hRR⟩ : ∃ R, X.toArray ++ (ceRow c).toArray ++ Builtin.zeroCells ((.agg #[.string ⟨#[]⟩, .int .i64 0, .string ⟨#[]⟩]) : Value).cells (G - (n + 1)) = R := ⟨_, rfl⟩
 rw [hRR] at hrun
 have hRs : R.size = G * 3 := by
  rw [← hRR, Array.size_append, Array.size_append, size_zeroCells, List.size_toArray, List.size_toArray, hXl, h3]
  show n * 3 + 3 + (G - (n + 1)) * 3 = _
  omega
 have hfin : PageAt (.slice (some ⟨w.heap.size, 0, none⟩) (n + 1) G) (l.take n ++ c :: l.drop n) w.heap.size (w.drew.alloc (.cells R 38)) := by
  refine ⟨G, R, by rw [hlen], by rw [hlen]; exact hge, hle, heap_alloc_new w.drew _, by omega, ?_⟩
  rw [hlen, hin, ← hRR, List.drop_eq_nil_of_le (show X.length ≤ n * 3 by omega), List.append_nil, List.take_of_length_le (show X.length ≤ n * 3 by omega)]
  rw [Array.toList_append, Array.toList_append, List.toList_toArray, List.toList_toArray]
  rw [List.take_left' (by rw [List.length_append, hXl, h3]; omega)]
 have ffin : Fr [b] w (w.drew.alloc (.cells R 38)) := (drew_fr (Fr.refl _ _)).alloc _
 have HF := Lib.hid (And.intro hfin ffin)
 have HRUN := Lib.hid hrun
 clear hRR hRs hfin ffin hrun hin hlen hR hX hcur hXl hXone hb hsz hinfo gi gz0 gz1 gz2 hcursz hv hG hle hge
 go_enter Tryz.func85, Tryz.ntmps85
 go_wp2_with (refine wpList_append_runE _ rfl _ _ 134 22 rfl _ _ rfl rfl (HRUN.out _) ?_)
 go_ret
 exact ⟨w.heap.size, G, rfl, HF.out.1, .inr (Nat.le_refl _), HF.out.2⟩
set_option maxHeartbeats 4000000 in
theorem insertD (b n i : Nat) (hi : i < n) (cur : Array Value) (l : List Ce) (c : Ce) (vb : Nat) (w : World) (hl : l.length = n) (hbig : n ≤ 1000) 
 (hb : w.heap[b]? = some (.cells cur 38 (0, 0))) (hsz : n * 3 ≤ cur.size) (hcur : cur.toList.take (n * 3) = rowOf l) (hv : CeAt vb c w) :
 Calls Tryz.prog 85 #[.slice (some ⟨b, 0, none⟩) n n, .int .i64 i, .slice (some ⟨vb, 0, none⟩) 1 1] w fun e w' =>
  ∃ b' cap', e = .returned (.slice (some ⟨b', 0, none⟩) (n + 1) cap') ∧ PageAt (.slice (some ⟨b', 0, none⟩) (n + 1) cap') (l.take i ++ c :: l.drop i) b' w' ∧ (b' = b ∨ w.heap.size ≤ b') ∧ Fr [b] w w' := by
 have hbl := (Go.ltA hb)
 have hvl := hv.lt
 have hXl : (rowOf l).length = n * 3 := by rw [rowOf_length, hl]
 have hin := rowOf_in l i c
 have hlen := in_length l i c (by omega)
 rw [hl] at hlen
 have hR := row_rest hcur
 have hXone := rowOf_one l
 obtain ⟨X, hX⟩ : ∃ X, rowOf l = X := ⟨_, rfl⟩
 rw [hX] at hcur hXl hin hR hXone
 have h3 : (ceRow c).length = 3 := rfl
 have hinfo : (Tryz.prog.info? 38).map (·.size) = some 3 := by
  obtain ⟨j0, gi, gz0, gz1, gz2⟩ := info_one info_ce
  rw [gi]; simp [gz1]
 obtain ⟨j0, gi, gz0, gz1, gz2⟩ := info_one info_ce
 have hcursz : cur.toList.length = cur.size := Array.length_toList
 have hge := grownCap_ge w (n + 1) n 38
 have hle := grownCap_le_maxLen w (n + 1) n 38 (by unfold maxLen; omega)
 have hdl : (X.drop (i * 3)).length = (n - i) * 3 := by rw [List.length_drop, hXl]; omega
 have htl : (X.take (i * 3)).length = i * 3 := by rw [List.length_take, hXl]; omega
 have hone : ∀ u ∈ X.drop (i * 3), u.oneCell' = true := fun u hu => hXone u (List.mem_of_mem_drop hu)
 have hkk : (n : Int) + 1 - (i : Int) = ((n + 1 - i : Nat) : Int) := by omega
 have hik : i + (n + 1 - i) = n + 1 := by omega
 have hrz : ∀ ty, (Builtin.append_ #[134, 3] ty #[.slice (some ⟨b, 0, none⟩) i n, .int .i64 ((n : Int) + 1 - (i : Int))]).run Tryz.prog w = .ok (.slice (some ⟨w.heap.size, 0, none⟩) (n + 1) (grownCap w (n + 1) n 38)) (w.drew.alloc (.cells ((X.take (i * 3)).toArray ++ Builtin.zeroCells ((.agg #[.string ⟨#[]⟩, .int .i64 0, .string ⟨#[]⟩]) : Value).cells (n + 1 - i) ++ Builtin.zeroCells ((.agg #[.string ⟨#[]⟩, .int .i64 0, .string ⟨#[]⟩]) : Value).cells (grownCap w (n + 1) n 38 - (n + 1))) 38)) := fun ty => by
  have hold : (Builtin.firstCells j0.size i (.slice (some ⟨b, 0, none⟩) i n)).run Tryz.prog w.drew = .ok (X.take (i * 3)).toArray w.drew := by
   rw [gz1]
   exact run_firstCells_some w.drew 3 i ⟨b, 0, none⟩ i n (X.take (i * 3)) htl (row_src (w := w.drew) hb (fun j u hj => by
    rw [List.getElem?_take] at hj
    split at hj
    · rw [Nat.zero_add, ← Array.getElem?_toList, hR, List.getElem?_append_left (List.getElem?_eq_some_iff.1 hj).1]
      exact hj
    · cases hj))
  have h := Lib.run_append_grow_zeros (P := Tryz.prog) w 134 3 ty 38 j0 _ .i64 .i64 Tryz.underlying134 Tryz.underlying3 gi gz0 (some ⟨b, 0, none⟩) i n (X.take (i * 3)) hold (n + 1 - i) (by omega) (by omega) (by omega) (by omega) (by rw [gz2]; omega) (by rw [gz2, hik]; exact growslice_fits (by omega) (by omega))
  rw [hik] at h
  rw [hkk]
  exact h
 obtain ⟨G, hG⟩ : ∃ G, grownCap w (n + 1) n 38 = G := ⟨_, rfl⟩
 rw [hG] at hrz hge hle
 obtain ⟨R, hRR⟩ : ∃ R : Array Value, (X.take (i * 3)).toArray ++ Builtin.zeroCells ((.agg #[.string ⟨#[]⟩, .int .i64 0, .string ⟨#[]⟩]) : Value).cells (n + 1 - i) ++ Builtin.zeroCells ((.agg #[.string ⟨#[]⟩, .int .i64 0, .string ⟨#[]⟩]) : Value).cells (G - (n + 1)) = R := ⟨_, rfl⟩
 rw [hRR] at hrz
 have hRs : R.size = G * 3 := by
  rw [← hRR, Array.size_append, Array.size_append, size_zeroCells, size_zeroCells, List.size_toArray, htl]
  show i * 3 + (n + 1 - i) * 3 + (G - (n + 1)) * 3 = _
  omega
 have hRt : R.toList.take (i * 3) = X.take (i * 3) := by
  rw [← hRR, Array.toList_append, Array.toList_append, List.toList_toArray, List.append_assoc, List.take_left' htl]
 have hRl : R.toList.length = G * 3 := by rw [Array.length_toList, hRs]
 obtain ⟨W1, hW1⟩ : ∃ W1, w.alloc (.cells R 38) = W1 := ⟨_, rfl⟩
 have hWd : w.drew.alloc (.cells R 38) = W1.drew := by rw [← hW1]; rfl
 rw [hWd] at hrz
 have hg1 : W1.drew.heap[w.heap.size]? = some (.cells R 38 (0, 0)) := by rw [← hWd]; exact heap_alloc_new w.drew _
 have hold1 : ∀ k, k < w.heap.size → W1.drew.heap[k]? = w.heap[k]? := fun k hk => by rw [← hWd]; exact Below.heap_alloc w.drew _ k hk
 have f1 : Fr [b] w W1.drew := by rw [← hWd]; exact (drew_fr (Fr.refl _ _)).alloc _
 have hv1 : CeAt vb c W1.drew := (hold1 vb hvl).trans hv
 have hb1 : W1.drew.heap[b]? = some (.cells cur 38 (0, 0)) := (hold1 b hbl).trans hb
 clear hW1 hWd hold1
 obtain ⟨W2, hW2⟩ : ∃ W2, W1.drew = W2 := ⟨_, rfl⟩
 rw [hW2] at hrz hg1 f1 hv1 hb1
 have hcpA : ∀ ty dc, (Builtin.copy_ #[134, 22] ty #[.slice (some ⟨w.heap.size, i * 3, none⟩) (n + 1 - i) dc, .slice (some ⟨vb, 0, none⟩) 1 1]).run Tryz.prog W2 = .ok (goInt 1) (W2.setRow w.heap.size (R.toList.take (i * 3) ++ ceRow c ++ R.toList.drop (i * 3 + 3)).toArray) := fun ty dc => by
  have := run_copy_rowK (P := Tryz.prog) W2 134 22 ty 38 3 w.heap.size (i * 3) (n + 1 - i) dc ⟨vb, 0, none⟩ 1 1 1 R 38 (ceRow c) Tryz.underlying134 hinfo hg1 (by simp only [Nat.min_def]; split <;> omega) rfl (ceAt_src hv1) (by rw [h3]; omega) (ceRow_one c)
  rw [h3] at this
  exact this
 obtain ⟨R1, hR1⟩ : ∃ R1, R.toList.take (i * 3) ++ ceRow c ++ R.toList.drop (i * 3 + 3) = R1 := ⟨_, rfl⟩
 rw [hR1] at hcpA
 have hR1l : R1.length = G * 3 := by
  rw [← hR1, List.length_append, List.length_append, List.length_take, List.length_drop, hRl, h3]; omega
 have hR1t : R1.take (i * 3 + 3) = X.take (i * 3) ++ ceRow c := by
  rw [← hR1, hRt, List.take_left' (by rw [List.length_append, htl, h3])]
 have hg2 : (W2.setRow w.heap.size R1.toArray).drew.heap[w.heap.size]? = some (.cells R1.toArray 38 (0, 0)) := setRow_heap W2 _ _ _ _ _ hg1
 have hb2 : (W2.setRow w.heap.size R1.toArray).drew.heap[b]? = some (.cells cur 38 (0, 0)) := (setRow_other W2 w.heap.size b _ (by omega)).trans hb1
 have f2 : Fr [b] w (W2.setRow w.heap.size R1.toArray).drew := by
  refine drew_fr ⟨f1.os, f1.tape, f1.output, by have := f1.size; simpa using this, fun k hk hm => (setRow_other W2 _ k _ (by omega)).trans (f1.block k hk hm)⟩
 obtain ⟨W3, hW3⟩ : ∃ W3, (W2.setRow w.heap.size R1.toArray).drew = W3 := ⟨_, rfl⟩
 rw [hW3] at hg2 hb2 f2
 have hcpB : ∀ ty dc sc, (Builtin.copy_ #[134, 134] ty #[.slice (some ⟨w.heap.size, (i + 1) * 3, none⟩) (n - i) dc, .slice (some ⟨b, i * 3, none⟩) (n - i) sc]).run Tryz.prog W3 = .ok (goInt ((n - i : Nat))) (W3.setRow w.heap.size (R1.take (i * 3 + 3) ++ X.drop (i * 3) ++ R1.drop (i * 3 + 3 + (n - i) * 3)).toArray) := fun ty dc sc => by
  have := run_copy_rowK (P := Tryz.prog) W3 134 134 ty 38 3 w.heap.size (i * 3 + 3) (n - i) dc ⟨b, i * 3, none⟩ (n - i) sc (n - i) R1.toArray 38 (X.drop (i * 3)) Tryz.underlying134 hinfo hg2 (by simp only [Nat.min_def]; split <;> omega) hdl (row_src hb2 (fun j u hj => by
   rw [List.getElem?_drop] at hj
   rw [← Array.getElem?_toList, hR, List.getElem?_append_left (by rw [hXl]; have := (List.getElem?_eq_some_iff.1 hj).1; omega)]
   exact hj)) (by rw [hdl, List.size_toArray]; omega) hone
  rw [show (i + 1) * 3 = i * 3 + 3 by omega, this, hdl, List.toList_toArray]
 obtain ⟨R2, hR2⟩ : ∃ R2, R1.take (i * 3 + 3) ++ X.drop (i * 3) ++ R1.drop (i * 3 + 3 + (n - i) * 3) = R2 := ⟨_, rfl⟩
 rw [hR2] at hcpB
 have hfin : PageAt (.slice (some ⟨w.heap.size, 0, none⟩) (n + 1) G) (l.take i ++ c :: l.drop i) w.heap.size (W3.setRow w.heap.size R2.toArray) := by
  refine ⟨G, R2.toArray, by rw [hlen], by rw [hlen]; exact hge, hle, setRow_heap W3 _ _ _ _ _ hg2, ?_, ?_⟩
  · rw [List.size_toArray, ← hR2, List.length_append, List.length_append, List.length_take, hdl, List.length_drop, hR1l]
    omega
  · rw [hlen, hin, List.toList_toArray, ← hR2, hR1t]
    rw [show (X.take (i * 3) ++ ceRow c) ++ X.drop (i * 3) = X.take (i * 3) ++ (ceRow c ++ X.drop (i * 3)) by simp]
    rw [List.take_left' (by rw [List.length_append, List.length_append, htl, hdl, h3]; omega)]
 have ffin : Fr [b] w (W3.setRow w.heap.size R2.toArray) := ⟨f2.os, f2.tape, f2.output, by have := f2.size; simpa using this, fun k hk hm => (setRow_other W3 _ k _ (by omega)).trans (f2.block k hk hm)⟩
 have HF := Lib.hid (And.intro hfin ffin)
 have hgi : ¬ (G = i) := by omega
 have hgi2 : ¬ (G = i + 1) := by omega
 clear hR2 hR1 hR1l hR1t hRl hRt hRs hRR hfin ffin hin hlen hR hX hcur hXl hXone hb hsz hinfo gi gz0 gz1 gz2 hcursz hv hone hdl htl hkk hik hb1 hb2 hg1 hg2 hv1 f1 f2
 have HRZ := Lib.hid hrz
 have HCPA := Lib.hid hcpA
 have HCPB := Lib.hid hcpB
 have HW2 := Lib.hid hW2
 have HW3 := Lib.hid hW3
 subst hW2
 subst hW3
 clear hrz hcpA hcpB hG
 have hw1 : IntKind.i64.wrap ((i : Int) + 1) = (i : Int) + 1 := by rw [IntKind.wrap_i64]; omega
 have hb1 : (0 : Int) ≤ (i : Int) + 1 := by omega
 have htn : ((i : Int) + 1).toNat = i + 1 := by omega
 have hb3 : (i : Int) + 1 ≤ (n : Int) + 1 := by omega
 have hb4 : ¬ (n = i) := by omega
 have hb5 : (i : Int) ≤ (n : Int) := by omega
 unfold maxLen at hle
 go_enter Tryz.func85, Tryz.ntmps85
 go_wp2_with (first
  | (refine wpList_append_runE _ rfl _ _ 134 3 rfl _ _ rfl rfl (HRZ.out _) ?_)
  | (refine wpList_copy_run _ rfl _ _ 134 22 rfl _ _ rfl rfl (HCPA.out _ _) ?_))
 go_region_law (refine step_copy_run _ rfl _ _ 134 134 rfl (.slice (some ⟨w.heap.size, (i + 1) * 3, none⟩) (n - i) (G - (i + 1))) (.slice (some ⟨b, i * 3, none⟩) (n - i) (n - i)) (by simp [Act.eval, Act.put]) (by simp [Act.eval, Act.put]) (HCPB.out _ _ _) ?_)
 go_wp2_with fail
 go_ret
 exact ⟨w.heap.size, G, rfl, HF.out.1, .inr (Nat.le_refl _), HF.out.2⟩
theorem insert_any (b n cap i : Nat) (cur : Array Value) (l : List Ce) (c : Ce) (vb : Nat) (w : World) (hl : l.length = n) (hi : i ≤ n) (hnc : n ≤ cap) (hbig : n ≤ 1000) (hcap : cap ≤ maxLen)
 (hb : w.heap[b]? = some (.cells cur 38 (0, 0))) (hsz : cap * 3 ≤ cur.size) (hcur : cur.toList.take (n * 3) = rowOf l) (hv : CeAt vb c w) (hvb : vb ≠ b) :
 Calls Tryz.prog 85 #[.slice (some ⟨b, 0, none⟩) n cap, .int .i64 i, .slice (some ⟨vb, 0, none⟩) 1 1] w fun e w' =>
  ∃ b' cap', e = .returned (.slice (some ⟨b', 0, none⟩) (n + 1) cap') ∧ PageAt (.slice (some ⟨b', 0, none⟩) (n + 1) cap') (l.take i ++ c :: l.drop i) b' w' ∧ (b' = b ∨ w.heap.size ≤ b') ∧ Fr [b] w w' := by
 by_cases hin : i < n
 · by_cases hr : n + 1 ≤ cap
   · exact insertA b n cap i cur l c vb w hl hin hr hbig hcap hb hsz hcur hv hvb
   · obtain rfl : cap = n := by omega
     exact insertD b cap i hin cur l c vb w hl hbig hb hsz hcur hv
 · obtain rfl : i = n := by omega
   by_cases hr : i + 1 ≤ cap
   · exact insertB b i cap cur l c vb w hl hr hbig hcap hb hsz hcur hv
   · obtain rfl : cap = i := by omega
     exact insertC b cap cur l c vb w hl hbig hb hsz hcur hv
end Go.Proofs.YtoglloafpnopaaaGreat
