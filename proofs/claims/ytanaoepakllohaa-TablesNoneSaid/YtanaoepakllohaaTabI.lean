/- Build, the document's. -/
import Derived.Test.YtanaoepakllohaaTabH
set_option linter.unusedSimpArgs false
set_option linter.unusedVariables false
namespace Go.Proofs.Ytanaoepakllohaa
set_option maxRecDepth 16000
open Go.RowKit Spoor
set_option linter.unusedVariables false

theorem sl_part {b o cap N k m : Nat} {l : List Ce} {w : World} (h : RowAt b o l w) (hN : l.length = N) (hm : k * 4 + m ≤ N) (hc : N ≤ cap) (hcm : cap ≤ maxLen) : SlAt (.slice (some ⟨b, o + k * 4 * 3, none⟩) m (cap - k * 4)) ((l.drop (k * 4)).take m) w := by
  have hp := h.part (k * 4) m (by omega)
  have hl : ((l.drop (k * 4)).take m).length = m := by rw [List.length_take, List.length_drop]; omega
  exact ⟨_, cap - k * 4, by rw [hl], by rw [hl]; omega, Nat.le_trans (Nat.sub_le _ _) hcm, fun _ => ⟨b, _, rfl, hp⟩⟩
set_option maxRecDepth 100000 in
set_option maxHeartbeats 8000000 in
theorem refBuildT_any (s : Value) (l : List Ce) (w : World) (hs : SlAt s l w) (hf : ∀ c ∈ l, FitsC c) (hbig : l.length ≤ 100000) :
    Calls Try.prog 14 #[s] w fun e w' => e = .returned (buildV l) ∧ Below w.heap.size w w' := by
  have cs := refSorted_any s l w hs hf
  unfold buildV
  cases hso : sortedB l with
  | false =>
    rw [hso] at cs
    have CS := Lib.hid cs
    clear cs hs hf
    rw [if_neg (by simp)]
    go_enter Try.func14, Try.ntmps14
    go_wp2_with fail
    refine CS.out.mono ?_
    rintro e w1 ⟨rfl, b1⟩
    go_wp2_with fail
    go_ret2
    exact ⟨rfl, b1⟩
  | true =>
    rw [hso] at cs
    rw [if_pos rfl]
    by_cases hlong : 4096 < l.length
    · rw [if_pos hlong]
      obtain ⟨A, cap, rfl, -⟩ := hs
      have hlz : (4096 : Int) < (l.length : Int) := by omega
      have CS := Lib.hid cs
      clear cs hf
      generalize l.length = n at *
      go_enter Try.func14, Try.ntmps14
      go_wp2_with fail
      refine CS.out.mono ?_
      rintro e w1 ⟨rfl, b1⟩
      go_wp2_with fail
      go_ret2
      exact ⟨rfl, b1⟩
    · rw [if_neg hlong]
      have hq : ∀ c ∈ l, c.q ≤ 9223372036854775807 := fun c hc => (hf c hc).2.2
      have htl := table_len hso hq hbig
      have hgl := fours_length l
      have hsm := fours_small hso hq
      have hget := fun k h => fours_get l k h
      have hlz : ¬ (4096 : Int) < (l.length : Int) := by omega
      have HT0 := Lib.hid (show tableB l = tableG (fours l) from rfl)
      have hfl : (fours l).flatten.length = l.length := by rw [fours_flat]
      obtain ⟨gs, hgs⟩ : ∃ gs, fours l = gs := ⟨_, rfl⟩
      rw [hgs] at htl hgl hsm HT0 hfl hget
      obtain ⟨n, hn⟩ : ∃ n, gs.length = n := ⟨_, rfl⟩
      obtain ⟨A, cap, rfl, hc1, hc2, hrow⟩ := hs
      obtain ⟨N, hN⟩ : ∃ N, l.length = N := ⟨_, rfl⟩
      have hc3 : cap ≤ 9223372036854775807 := by unfold maxLen at hc2; omega
      have HSM := Lib.hid hsm
      have HN := Lib.hid (And.intro hn hN)
      have CS := Lib.hid cs
      have HTL := Lib.hid htl
      have HFL := Lib.hid hfl
      have HFT := Lib.hid hf
      have HGT := Lib.hid hget
      have HR := Lib.hid hrow
      have HCM := Lib.hid hc2
      rw [HT0.out]
      rw [hN] at hlz CS hc1 hgl HGT ⊢
      rw [hn] at hgl
      have hNb : N ≤ 4096 := by omega
      have hnb : n ≤ 2000 := by omega
      have HGL := Lib.hid hgl
      clear hgl
      clear cs hf hq hsm hgs hn htl hN hlong hbig hso hfl hget hrow hc2
      go_enter Try.func14, Try.ntmps14
      go_wp2_with fail
      refine CS.out.mono ?_
      rintro e w1 ⟨rfl, b1⟩
      clear CS
      go_wp2_with fail
      go_loopw [4, 5, 6, 7] (fun D I m i wr => ∃ k : Nat, i = .int .i64 (k * 4 : Nat) ∧ k ≤ n ∧ m = .int .i64 k ∧ D = .string ⟨(dataG (gs.take k)).toArray⟩ ∧ I = .string ⟨(idxG (gs.take k)).toArray⟩ ∧ Below w.heap.size w wr) (fun _ _ _ i _ => N + 4 - (intOf i).toNat)
      case atStart => exact ⟨0, rfl, by omega, rfl, by simp [dataG], by simp [idxG], b1⟩
      case round =>
        obtain ⟨k, rfl, hk, rfl, rfl, rfl, B⟩ := hrel
        clear b1
        by_cases hlt : k < n
        · have hkl : k < gs.length := by rw [HN.out.1]; exact hlt
          have hkN : k * 4 < N := by have := HGL.out; omega
          obtain ⟨b, o, rfl, hrow⟩ := HR.out (by rw [HN.out.2]; omega)
          obtain ⟨hbk, hg4⟩ := HSM.out _ (getD_mem' hkl)
          have hlen := okG_take (k := k) HSM.out
          have hD1 := dataG_snoc (gs.take k) (gs.getD k [])
          have hI1 := idxG_snoc (gs.take k) (gs.getD k [])
          rw [← take_gs gs k hkl] at hD1 hI1
          have hgg := HGT.out k (by have := HGL.out; omega)
          obtain ⟨m, hm⟩ : ∃ m, min 4 (N - k * 4) = m := ⟨_, rfl⟩
          have hgg2 : gs.getD k [] = (l.drop (k * 4)).take m := by
            rw [hgg, ← hm]
            have := HN.out.2
            by_cases h5 : 4 ≤ N - k * 4
            · rw [Nat.min_eq_left h5]
            · rw [Nat.min_eq_right (by omega), List.take_of_length_le (by rw [List.length_drop]; omega), List.take_of_length_le (by rw [List.length_drop]; omega)]
          have hm0 : 0 < m := by omega
          have hmN : k * 4 + m ≤ N := by omega
          have hsl := sl_part (hrow.later B hrow.1) HN.out.2 hmN hc1 HCM.out
          rw [← hgg2] at hsl
          have hd0 := (hrow.later B hrow.1).cells (i := k * 4) (by rw [HN.out.2]; exact hkN)
          have hcells := fun W' (hb : Below w.heap.size w W') => ((hrow.later hb hrow.1).cells (i := k * 4) (by rw [HN.out.2]; exact hkN)).1
          have hkey : keyG (gs.getD k []) = (l.getD (k * 4) Ce.zero).k := by
            unfold keyG
            rw [hgg2, head_getD]
            simp [List.getD, List.getElem?_take, hm0, List.getElem?_drop]
          obtain ⟨g, hg⟩ : ∃ g, gs.getD k [] = g := ⟨_, rfl⟩
          rw [hg] at hbk hg4 hD1 hI1 hsl hkey hgg2
          rw [← hkey] at hcells
          obtain ⟨D, hD⟩ : ∃ D, dataG (gs.take k) = D := ⟨_, rfl⟩
          obtain ⟨I, hI⟩ : ∃ I, idxG (gs.take k) = I := ⟨_, rfl⟩
          rw [hD] at hlen hD1 ⊢
          rw [hI] at hlen hI1 ⊢
          have hbl := blockB_len hbk.2.1 hbk.2.2.2 hbk.2.2.1
          have hkl2 : (keyG g).length ≤ 64 := by
            obtain ⟨c, l', e, ek⟩ := keyG_head hbk.1
            rw [ek]
            exact (may_of (sorted_may hbk.2.1 c (by rw [e]; simp))).2.1
          have enc := refEncodeB_any _ g wr hsl (fun c hc => HFT.out c (by rw [hgg2] at hc; exact List.mem_of_mem_drop (List.mem_of_mem_take hc))) hbk.2.1 (by omega)
          have ENC := Lib.hid enc
          have HX := Lib.hid (And.intro hD1 (And.intro hI1 (And.intro hlen (And.intro (show (blockB g).length ≤ 1000 by omega) hkl2))))
          have HC := Lib.hid hcells
          have cat := bytes_cat
          have hw1 : IntKind.i64.wrap ((k : Int) * 4 + 4) = (k : Int) * 4 + 4 := by rw [IntKind.wrap_i64]; omega
          have hmi : min ((k : Int) * 4 + 4) (N : Int) = ((k * 4 + m : Nat) : Int) := by omega
          have hmi2 : (if (N : Int) < (k : Int) * 4 + 4 then (N : Int) else (k : Int) * 4 + 4) = ((k * 4 + m : Nat) : Int) := by split <;> omega
          have hs1 : ¬ (cap = k * 4) := by omega
          have hs2 : k * 4 + m ≤ cap := by omega
          have hs3 : k * 4 + m - k * 4 = m := by omega
          clear hbk hg4 hD1 hI1 hlen hbl hkl2 enc hD hI hg hkl hsl hkey hcells hd0 hgg hgg2 hrow hm
          go_wp2_with fail
          refine ENC.out.mono ?_
          rintro e wa ⟨rfl, ba⟩
          have HBA := Lib.hid (btP B ba)
          clear ENC ba B hmi hmi2 hs1 hs2 hs3 hw1
          have l0 : D.length ≤ 2000000 := by have := HX.out.2.2.1.1; omega
          have l00 : I.length ≤ 2000000 := by have := HX.out.2.2.1.2; omega
          have l1 : (blockB g).length ≤ 1000 := HX.out.2.2.2.1
          have l2 := sumB_length (blockB g)
          go_wp2_with fail
          refine (refSumB_any (blockB g) _ (by omega)).mono ?_
          rintro e wb ⟨rfl, bb⟩
          have HBB := Lib.hid (btP HBA.out bb)
          have y0 := HC.out _ HBB.out
          have l3 : (putText (keyG g)).length ≤ 100 := by
            have p1 := put_length9 (keyG g).length (by have := HX.out.2.2.2.2; omega)
            have := HX.out.2.2.2.2
            unfold putText
            rw [List.length_append]
            omega
          have l4 : (put (blockB g).length).length ≤ 9 := put_length9 _ (by omega)
          clear bb HBA
          go_wp2_with fail
          refine (refPutTextL_any (keyG g) _ (by have := HX.out.2.2.2.2; omega)).mono ?_
          rintro e wc ⟨rfl, bc⟩
          have HBC := Lib.hid (btP HBB.out bc)
          clear bc HBB y0
          go_wp2_with fail
          refine (refPut_nat (blockB g).length _ (by omega)).mono ?_
          rintro e wd ⟨rfl, bd⟩
          have HBD := Lib.hid (btP HBC.out bd)
          clear bd HBC
          go_wp2_with fail
          clear l0 l00 l1 l2 l3 l4 cat
          go_roundw
          case rel =>
            refine ⟨k + 1, by go_num, by omega, by go_num, ?_, ?_, HBD.out⟩
            · rw [HX.out.1]
              first | rfl | (unfold dataOf; simp)
            · rw [HX.out.2.1]
              first | rfl | (unfold idxOf; simp)
          case measure => simp [intOf]; omega
        · obtain rfl : k = n := by omega
          have hlt3 : ¬ (k * 4 < N) := by have := HGL.out; omega
          have hT : gs.take k = gs := List.take_of_length_le (by rw [HN.out.1]; exact Nat.le_refl _)
          rw [hT]
          have cat := bytes_cat
          have hig : put k ++ idxG gs = indexG gs := by unfold indexG; rw [HN.out.1]
          have HIG := Lib.hid hig
          have hl2 := okG_take (k := k) HSM.out
          rw [hT] at hl2
          have l1 : (dataG gs).length ≤ 10000000 := by omega
          have l2 : (idxG gs).length ≤ 1000000 := by omega
          have l6 : (indexG gs).length ≤ 1100000 := by have := HTL.out.2.1; have := HN.out.2; omega
          have l3 := sumB_length (indexG gs)
          have l4 := big_length (dataG gs).length
          have l5 := big_length N
          have l7 := put_length9 k (by omega)
          clear hig hl2 hT hlt
          go_wp2_with fail
          refine (refPut_nat k _ (by omega)).mono ?_
          rintro e wa ⟨rfl, ba⟩
          have HBA := Lib.hid (btP B ba)
          clear ba B
          have hig : put k ++ idxG gs = indexG gs := HIG.out
          go_wp2_with fail
          refine (refSumB_any (indexG gs) _ (by omega)).mono ?_
          rintro e wb ⟨rfl, bb⟩
          have HBB := Lib.hid (btP HBA.out bb)
          clear bb HBA
          go_wp2_with fail
          refine (refBig_nat (dataG gs).length _ (by omega)).mono ?_
          rintro e wc ⟨rfl, bc⟩
          have HBC := Lib.hid (btP HBB.out bc)
          clear bc HBB
          go_wp2_with fail
          refine (refBig_nat N _ (by omega)).mono ?_
          rintro e wd ⟨rfl, bd⟩
          have HBD := Lib.hid (btP HBC.out bd)
          clear bd HBC
          go_wp2_with fail
          go_ret2
          exact ⟨ret2 (by unfold tableG; rw [HFL.out, HN.out.2]; rfl) rfl, HBD.out⟩
end Go.Proofs.Ytanaoepakllohaa
