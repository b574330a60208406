/- The walks of the document's words: whether cells are sorted, and their bytes. -/
import Derived.Test.YtanaoepakllohaaBlocksD
namespace Go.Proofs.Ytanaoepakllohaa
set_option maxRecDepth 16000
open Go.RowKit Spoor

theorem strAdd (a b : List UInt8) : (⟨a.toArray⟩ ++ ⟨b.toArray⟩ : ByteArray) = ⟨(a ++ b).toArray⟩ := ByteArray.mk_append_mk a b
set_option maxHeartbeats 4000000 in
theorem refSorted_any (s : Value) (l : List Ce) (w : World) (hs : SlAt s l w) (hf : ∀ c ∈ l, FitsC c) :
    Calls Try.prog 37 #[s] w fun e w' => e = .returned (.bool (sortedB l)) ∧ Below w.heap.size w w' := by
  obtain ⟨A, cap, rfl, h1, h2, h3⟩ := hs
  unfold maxLen at h2
  have H3 := Lib.hid h3
  have HF := Lib.hid hf
  obtain ⟨n, hn⟩ : ∃ n, l.length = n := ⟨_, rfl⟩
  have HN := Lib.hid hn
  rw [hn] at h1 ⊢
  clear h3 hf hn
  go_enter Try.func37, Try.ntmps37
  go_wp2_with fail
  go_loopw [3] (fun i wr => ∃ k : Nat, k ≤ n ∧ i = .int .i64 k ∧ sortedB (l.take k) = true ∧ Below w.heap.size w wr) (fun i _ => n - (intOf i).toNat)
  case atStart => exact ⟨0, by omega, rfl, rfl, Below.refl _ _⟩
  case round =>
    obtain ⟨k, hk, rfl, hsk, hb⟩ := hrel
    by_cases hlt : k < n
    · obtain ⟨b, o, rfl, hrow⟩ := H3.out (by rw [HN.out]; omega)
      have hlb := hrow.1
      have hrow := hrow.later hb hlb
      have lt2 := hrow.1
      have hc := hrow.cells (i := k) (by rw [HN.out]; exact hlt)
      have hstep := sortedB_step l k (by rw [HN.out]; exact hlt)
      rw [hsk, Bool.true_and] at hstep
      have hfc := getD_lt HF.out (i := k) (by rw [HN.out]; exact hlt)
      have cm := fun W => refMay_any (l.getD k Ce.zero) W hfc
      have HK := Lib.hid hsk
      clear hsk hfc
      generalize hcc : l.getD k Ce.zero = c at *
      obtain ⟨x0, x1, x2⟩ := hc
      unfold ceVal at cm
      have B := hb
      have hrow1 := hrow
      go_wp2_with fail
      generalize wr = w1 at *
      clear hrow hb hlb
      cases hm : c.may with
      | false =>
        rw [hm] at cm
        have CM := Lib.hid cm
        have hno : sortedB l = false := sortedB_no l (k + 1) (by rw [hstep]; unfold prevOf; split <;> simp [okAfter, hm])
        clear cm hm hstep
        refine wp_region_more (by kernel_rfl) (by kernel_rfl) ?_
        repeat (go_big_quiet_step (fail))
        go_big_quiet_step (exact Calls.more (CM.out _))
        repeat (go_big_quiet_step (fail))
        refine wpQuiet_nil ?_
        rintro _ ⟨ex, rfl⟩
        have b2 := World.below_more w1 ex
        generalize w1.more ex = w2 at *
        have B := btB B b2
        go_wp2_with fail
        go_ret
        exact ⟨ret1 (by rw [hno]; rfl), B⟩
      | true =>
        rw [hm] at cm
        have CM := Lib.hid cm
        clear cm
        by_cases hk0 : k = 0
        · subst hk0
          simp only [Nat.zero_mul, Nat.add_zero] at x0 x1 x2
          have hyes : sortedB (l.take (0 + 1)) = true := by rw [hstep]; simp [prevOf, okAfter, hm]
          have HY := Lib.hid hyes
          clear hm hyes hstep
          refine wp_region_more (by kernel_rfl) (by kernel_rfl) ?_
          repeat (go_big_quiet_step (fail))
          go_big_quiet_step (exact Calls.more (CM.out _))
          repeat (go_big_quiet_step (fail))
          refine wpQuiet_nil ?_
          rintro _ ⟨ex, rfl⟩
          have b2 := World.below_more w1 ex
          generalize w1.more ex = w2 at *
          have B := btB B b2
          go_wp2_with fail
          go_roundw
          case rel => exact ⟨0 + 1, by omega, by go_num, HY.out, B⟩
          case measure => simp [intOf]; omega
        · have hpk : k - 1 < l.length := by rw [HN.out]; omega
          have hc2 := hrow1.cells hpk
          have hprev : prevOf l k = some (l.getD (k - 1) Ce.zero) := by unfold prevOf; rw [if_neg hk0]
          have cc := fun W => refAhead_any (l.getD (k - 1) Ce.zero) c W
          rw [hprev] at hstep
          simp only [okAfter, hm, Bool.true_and] at hstep
          generalize l.getD (k - 1) Ce.zero = d at *
          rw [← hstep] at cc
          obtain ⟨z0, z1, z2⟩ := hc2
          obtain ⟨j, rfl⟩ : ∃ j, k = j + 1 := ⟨k - 1, by omega⟩
          simp only [Nat.add_sub_cancel] at z0 z1 z2
          unfold ceVal at cc
          clear hm hprev hpk hk0 hstep
          cases hy : sortedB (l.take (j + 1 + 1)) with
          | false =>
            rw [hy] at cc
            have hno : sortedB l = false := sortedB_no l _ hy
            have CC := Lib.hid cc
            clear cc hy
            refine wp_region_more (by kernel_rfl) (by kernel_rfl) ?_
            repeat (go_big_quiet_step (fail))
            go_big_quiet_step (exact Calls.more (CM.out _))
            repeat (go_big_quiet_step (fail))
            go_big_quiet_step (exact Calls.more (CC.out _))
            repeat (go_big_quiet_step (fail))
            refine wpQuiet_nil ?_
            rintro _ ⟨ex, rfl⟩
            have b2 := World.below_more w1 ex
            generalize w1.more ex = w2 at *
            have B := btB B b2
            go_wp2_with fail
            go_ret
            exact ⟨ret1 (by rw [hno]; rfl), B⟩
          | true =>
            rw [hy] at cc
            have HY := Lib.hid hy
            have CC := Lib.hid cc
            clear cc hy
            refine wp_region_more (by kernel_rfl) (by kernel_rfl) ?_
            repeat (go_big_quiet_step (fail))
            go_big_quiet_step (exact Calls.more (CM.out _))
            repeat (go_big_quiet_step (fail))
            go_big_quiet_step (exact Calls.more (CC.out _))
            repeat (go_big_quiet_step (fail))
            refine wpQuiet_nil ?_
            rintro _ ⟨ex, rfl⟩
            have b2 := World.below_more w1 ex
            generalize w1.more ex = w2 at *
            have B := btB B b2
            go_wp2_with fail
            go_roundw
            case rel => exact ⟨j + 1 + 1, by omega, by go_num, HY.out, B⟩
            case measure => simp [intOf]; omega
    · obtain rfl : k = n := by omega
      go_wp2_with fail
      go_ret
      exact ⟨ret1 (by rw [List.take_of_length_le (by rw [HN.out]; exact Nat.le_refl _)] at hsk; rw [hsk]; rfl), hb⟩
set_option maxHeartbeats 4000000 in
theorem refEncodeB_any (s : Value) (l : List Ce) (w : World) (hs : SlAt s l w) (hf : ∀ c ∈ l, FitsC c) (hso : sortedB l = true) (hlen : (blockB l).length ≤ 140737488355328) :
    Calls Try.prog 38 #[s] w fun e w' => e = .returned (.tuple #[.string ⟨(blockB l).toArray⟩, .int .i64 0]) ∧ Below w.heap.size w w' := by
  have cs := refSorted_any s l w hs hf
  rw [hso] at cs
  have CS := Lib.hid cs
  obtain ⟨A, cap, rfl, h1, h2, h3⟩ := hs
  unfold maxLen at h2
  have H3 := Lib.hid h3
  have HF := Lib.hid hf
  have HM := Lib.hid (sorted_may hso)
  obtain ⟨n, hn⟩ : ∃ n, l.length = n := ⟨_, rfl⟩
  have HN := Lib.hid hn
  have hn63 : n ≤ 9223372036854775807 := by omega
  rw [hn] at h1 CS ⊢
  have HL := Lib.hid hlen
  have cp := fun W => refPut_nat n W hn63
  have CP := Lib.hid cp
  clear cs h3 hf hn hso hlen cp
  go_enter Try.func38, Try.ntmps38
  go_wp2_with fail
  refine CS.out.mono ?_
  rintro e w1 ⟨rfl, b1⟩
  go_wp2_with fail
  refine (CP.out _).mono ?_
  rintro e w2 ⟨rfl, b2⟩
  have B := btB b1 b2
  go_wp2_with fail
  go_loopw [4, 5, 6] (fun v s i wr => ∃ k : Nat, k ≤ n ∧ i = .int .i64 k ∧ s = .string ⟨(lastKey (prevOf l k)).toArray⟩ ∧ v = .string ⟨(put n ++ bodyB none (l.take k)).toArray⟩ ∧ Below w.heap.size w wr) (fun _ _ i _ => n - (intOf i).toNat)
  case atStart => exact ⟨0, by omega, rfl, rfl, by simp [bodyB], B⟩
  case round =>
    clear B b1 b2
    obtain ⟨k, hk, rfl, rfl, rfl, hb⟩ := hrel
    by_cases hlt : k < n
    · have hkl : k < l.length := by rw [HN.out]; exact hlt
      obtain ⟨b, o, rfl, hrow⟩ := H3.out (by rw [HN.out]; omega)
      have hlb := hrow.1
      have hrow := hrow.later hb hlb
      have lt2 := hrow.1
      obtain ⟨x0, x1, x2⟩ := hrow.cells hkl
      obtain ⟨f1, f2, f3⟩ := getD_lt HF.out hkl
      obtain ⟨m1, m2, m3, m4⟩ := may_of (getD_lt HM.out hkl)
      have hpk : (lastKey (prevOf l k)).length ≤ 64 := by
        unfold prevOf
        split
        · simp [lastKey]
        · exact (may_of (getD_lt HM.out (i := k - 1) (by omega))).2.1
      have hbt := bodyB_take l k hkl
      have hbl : (put n ++ bodyB none (l.take (k + 1))).length ≤ 140737488355328 := by
        have h1 := bodyB_take_le l (k + 1)
        have h2 := HL.out
        unfold blockB at h2
        rw [HN.out] at h2
        rw [List.length_append] at h2 ⊢
        omega
      rw [hbt, ← List.append_assoc] at hbl
      have hnx : lastKey (prevOf l (k + 1)) = (l.getD k Ce.zero).k := by simp [prevOf, lastKey]
      have HB := Lib.hid hbt
      have HX := Lib.hid hnx
      clear hbt hnx
      generalize hce : l.getD k Ce.zero = c at *
      have HCE := Lib.hid hce
      clear hce
      generalize lastKey (prevOf l k) = last at *
      generalize hX : put n ++ bodyB none (l.take k) = X at *
      have HXX := Lib.hid hX
      clear hX
      unfold cellBytes at hbl
      have cl := common_le last c.k
      have cc := fun W => alike_any last c.k W (by omega) f1
      have hcl63 : common last c.k ≤ 9223372036854775807 := by omega
      have c0 := fun W => refPut_nat (common last c.k) W hcl63
      have c1 := fun W => refPutText_any ⟨(c.k.drop (common last c.k)).toArray⟩ W (by rw [size_of, List.length_drop]; omega)
      have hq : ((c.q.toNat : Nat) : Int) = c.q := by omega
      have c2 := fun W => refPut_nat c.q.toNat W (by omega)
      have c3 := fun W => refPutText_any ⟨c.v.toArray⟩ W (by rw [size_of]; omega)
      rw [hq] at c2
      have hsl := fun W => strFrom c.k (common last c.k) (common last c.k : Nat) rfl (by omega) W
      have hcb : cellBytes last c = put (common last c.k) ++ (putText (c.k.drop (common last c.k)) ++ (put c.q.toNat ++ putText c.v)) := rfl
      have HCB := Lib.hid hcb
      clear hcb hq m1 m2 m3 m4 cl
      generalize hp0 : put (common last c.k) = p0 at *
      generalize hp1 : putText (c.k.drop (common last c.k)) = p1 at *
      generalize hp2 : put c.q.toNat = p2 at *
      generalize hp3 : putText c.v = p3 at *
      simp only [List.length_append] at hbl
      generalize common last c.k = m at *
      generalize c.k.drop m = rest at *
      have CC := Lib.hid cc
      have C0 := Lib.hid c0
      have C1 := Lib.hid c1
      have C2 := Lib.hid c2
      have C3 := Lib.hid c3
      clear cc c0 c1 c2 c3 hp0 hp1 hp2 hp3
      have B := hb
      go_wp2_with fail
      refine (CC.out _).mono ?_
      rintro e w4 ⟨rfl, b4⟩
      have hrow := hrow.later b4 lt2
      have B := btB B b4
      clear x0 x1 x2 hb hlb b4 lt2
      have lt2 := hrow.1
      have hc := hrow.cells hkl
      rw [HCE.out] at hc
      obtain ⟨x0, x1, x2⟩ := hc
      go_wp2_with fail
      refine wp_region_more (by kernel_rfl) (by kernel_rfl) ?_
      repeat (go_big_quiet_step (fail))
      go_big_quiet_step (exact Calls.more (C0.out _))
      repeat (go_big_quiet_step (fail))
      go_big_quiet_step (exact Calls.more (C1.out _))
      repeat (go_big_quiet_step (fail))
      go_big_quiet_step (exact Calls.more (C2.out _))
      repeat (go_big_quiet_step (fail))
      go_big_quiet_step (exact Calls.more (C3.out _))
      repeat (go_big_quiet_step (fail))
      refine wpQuiet_nil ?_
      rintro _ ⟨ex, rfl⟩
      have b2 := World.below_more w4 ex
      have hrow := hrow.later b2 lt2
      have B := btB B b2
      generalize w4.more ex = w5 at *
      clear x0 x1 x2 lt2
      have hc := hrow.cells hkl
      rw [HCE.out] at hc
      obtain ⟨x0, x1, x2⟩ := hc
      go_wp2_with fail
      go_roundw
      case rel =>
        refine ⟨k + 1, by omega, by go_num, by rw [HX.out], ?_, B⟩
        rw [HB.out, ← List.append_assoc, HXX.out, HCB.out]
        simp only [strAdd, List.append_assoc]
      case measure => simp [intOf]; omega
    · obtain rfl : k = n := by omega
      rw [List.take_of_length_le (by rw [HN.out]; exact Nat.le_refl _)]
      go_wp2_with fail
      go_ret2
      exact ⟨ret2 (by unfold blockB; rw [HN.out]; rfl) rfl, hb⟩
theorem refEncodeB_bad (s : Value) (l : List Ce) (w : World) (hs : SlAt s l w) (hf : ∀ c ∈ l, FitsC c) (hso : sortedB l = false) :
    Calls Try.prog 38 #[s] w fun e w' => e = .returned (.tuple #[.string ⟨#[]⟩, .int .i64 2]) ∧ Below w.heap.size w w' := by
  have cs := refSorted_any s l w hs hf
  rw [hso] at cs
  have CS := Lib.hid cs
  clear cs hs hf hso
  go_enter Try.func38, Try.ntmps38
  go_wp2_with fail
  refine CS.out.mono ?_
  rintro e w1 ⟨rfl, b1⟩
  go_wp2_with fail
  go_ret2
  exact ⟨rfl, b1⟩
/-- what Encode tells -/
def encV (l : List Ce) : Value := if sortedB l then .tuple #[.string ⟨(blockB l).toArray⟩, .int .i64 0] else .tuple #[.string ⟨#[]⟩, .int .i64 2]
theorem encode_c (s : Value) (l : List Ce) (w : World) (hs : SlAt s l w) (hf : ∀ c ∈ l, FitsC c) (hlen : sortedB l = true → (blockB l).length ≤ 140737488355328) :
    Calls Try.prog 31 #[s] w fun e w' => e = .returned (encV l) ∧ Below w.heap.size w w' := by
  unfold encV
  cases h : sortedB l with
  | true => exact encodeB_any s l w hs hf h (hlen h)
  | false => exact encodeB_bad s l w hs hf h
theorem refEncode_c (s : Value) (l : List Ce) (w : World) (hs : SlAt s l w) (hf : ∀ c ∈ l, FitsC c) (hlen : sortedB l = true → (blockB l).length ≤ 140737488355328) :
    Calls Try.prog 38 #[s] w fun e w' => e = .returned (encV l) ∧ Below w.heap.size w w' := by
  unfold encV
  cases h : sortedB l with
  | true => exact refEncodeB_any s l w hs hf h (hlen h)
  | false => exact refEncodeB_bad s l w hs hf h
end Go.Proofs.Ytanaoepakllohaa
