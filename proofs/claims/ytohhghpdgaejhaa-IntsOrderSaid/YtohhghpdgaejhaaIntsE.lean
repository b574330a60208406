/- The walks of the statements on ints: the rest. -/
import Derived.Test.YtohhghpdgaejhaaIntsD
import Derived.Test.YtohhghpdgaejhaaGrow
import Derived.Deep.DeepCutAuto
import Derived.Deep.QuietTactic
import Derived.BigQuiet
namespace Go.Proofs.Ytohhghpdgaejhaa
open Go.RowKit Spoor

theorem intsOrder_out (a b : Int) (h : a < 0 ∨ b < 0) (w : World) :
    Calls Try.prog 5 #[.int .i64 a, .int .i64 b] w fun e w' => e = .returned (.bool true) ∧ Below w.heap.size w w' := by
  by_cases h1 : a < 0
  · clear h
    go_enter Try.func5, Try.ntmps5
    go_wp2_with fail
    refine (put_neg a _ h1).mono ?_
    rintro e w1 ⟨rfl, b1⟩
    go_wp2_with fail
    refine (big_neg a _ h1).mono ?_
    rintro e w2 ⟨rfl, b2⟩
    go_wp2_with fail
    refine (does_true _).mono ?_
    rintro e w3 ⟨rfl, b3⟩
    go_wp2_with fail
    go_ret
    exact ⟨rfl, bt (bt b1 b2) b3⟩
  · have h2 : b < 0 := by omega
    clear h
    go_enter Try.func5, Try.ntmps5
    go_wp2_with fail
    refine (does_true _).mono ?_
    rintro e w3 ⟨rfl, b3⟩
    go_wp2_with fail
    go_ret
    exact ⟨rfl, b3⟩
theorem intsOrder_law (a b : Int) (wa : (Lit.int .i64 a).wf = true) (wb : (Lit.int .i64 b).wf = true) (w : World) :
    Calls Try.prog 5 #[.int .i64 a, .int .i64 b] w fun e w' => e = .returned (.bool true) ∧ Below w.heap.size w w' := by
  have ha := (bounds_i64 wa).2
  have hb := (bounds_i64 wb).2
  by_cases h : a < 0 ∨ b < 0
  · exact intsOrder_out a b h w
  · obtain ⟨x, rfl⟩ : ∃ k : Nat, a = k := ⟨a.toNat, by omega⟩
    obtain ⟨y, rfl⟩ : ∃ k : Nat, b = k := ⟨b.toNat, by omega⟩
    exact intsOrder_in x y (by omega) (by omega) w
theorem way_get (l : List UInt8) (at' : Int) : ∃ (N M : Int) (B : Bool), getAt l at' = .tuple #[.int .i64 N, .int .i64 M, .bool B] ∧
    ((N = 0 ∧ M = 0 ∧ B = false) ∨ (B = true ∧ ∃ a n k : Nat, at' = a ∧ N = n ∧ M = (a : Int) + (k : Int) ∧ 0 < k ∧ k ≤ 9 ∧ a + k ≤ l.length ∧ n ≤ 9223372036854775807 ∧ (l.drop a).take k = put n ∧ get (l.drop a) = some (n, k))) := by
  by_cases h0 : at' < 0
  · exact ⟨0, 0, false, by rw [getAt, if_pos h0]; rfl, .inl ⟨rfl, rfl, rfl⟩⟩
  · obtain ⟨a, rfl⟩ : ∃ a : Nat, at' = a := ⟨at'.toNat, by omega⟩
    cases hg : get (l.drop a) with
    | none => exact ⟨0, 0, false, by rw [getAt, if_neg h0, Int.toNat_natCast, hg]; rfl, .inl ⟨rfl, rfl, rfl⟩⟩
    | some p =>
      obtain ⟨n, k⟩ := p
      obtain ⟨g1, g2, g3, g4, g5⟩ := get_some hg
      rw [List.length_drop] at g3
      exact ⟨n, (a : Int) + (k : Int), true, by rw [getAt, if_neg h0, Int.toNat_natCast, hg]; rfl, .inr ⟨rfl, a, n, k, rfl, rfl, rfl, g1, g2, by omega, g4, g5, hg⟩⟩
theorem way_big (l : List UInt8) (at' : Int) : ∃ (N : Int) (B : Bool), ofBigAt l at' = .tuple #[.int .i64 N, .bool B] ∧
    ((N = 0 ∧ B = false) ∨ (B = true ∧ ∃ a n : Nat, at' = a ∧ N = n ∧ a + 8 ≤ l.length ∧ n ≤ 9223372036854775807 ∧ (l.drop a).take 8 = big n)) := by
  by_cases h0 : at' < 0
  · exact ⟨0, false, by rw [ofBigAt, if_pos h0]; rfl, .inl ⟨rfl, rfl⟩⟩
  · obtain ⟨a, rfl⟩ : ∃ a : Nat, at' = a := ⟨at'.toNat, by omega⟩
    cases hg : ofBig (l.drop a) with
    | none => exact ⟨0, false, by rw [ofBigAt, if_neg h0, Int.toNat_natCast, hg]; rfl, .inl ⟨rfl, rfl⟩⟩
    | some n =>
      obtain ⟨g1, g2, g3⟩ := ofBig_some hg
      rw [List.length_drop] at g1
      exact ⟨n, true, by rw [ofBigAt, if_neg h0, Int.toNat_natCast, hg]; rfl, .inr ⟨rfl, a, n, rfl, rfl, by omega, g2, g3⟩⟩
theorem way_text (l : List UInt8) (at' : Int) : ∃ (t : List UInt8) (M : Int) (B : Bool), getTextAt l at' = .tuple #[.string ⟨t.toArray⟩, .int .i64 M, .bool B] ∧
    ((t = [] ∧ M = 0 ∧ B = false) ∨ (B = true ∧ ∃ a j k : Nat, at' = a ∧ M = (a : Int) + (k : Int) ∧ 0 < k ∧ j ≤ k ∧ a + k ≤ l.length ∧ (l.drop a).take k = putText t ∧ get (l.drop a) = some (t.length, j))) := by
  by_cases h0 : at' < 0
  · exact ⟨[], 0, false, by rw [getTextAt, if_pos h0]; rfl, .inl ⟨rfl, rfl, rfl⟩⟩
  · obtain ⟨a, rfl⟩ : ∃ a : Nat, at' = a := ⟨at'.toNat, by omega⟩
    cases hg : getText (l.drop a) with
    | none => exact ⟨[], 0, false, by rw [getTextAt, if_neg h0, Int.toNat_natCast, hg]; rfl, .inl ⟨rfl, rfl, rfl⟩⟩
    | some p =>
      obtain ⟨t, k⟩ := p
      obtain ⟨g1, g2, g3, j, g4, g5⟩ := getText_some hg
      obtain ⟨h1, _⟩ := get_some g4
      rw [List.length_drop] at g1
      exact ⟨t, (a : Int) + (k : Int), true, by rw [getTextAt, if_neg h0, Int.toNat_natCast, hg]; rfl, .inr ⟨rfl, a, j, k, rfl, rfl, by omega, by omega, by omega, g3, g4⟩⟩

set_option maxHeartbeats 8000000 in
set_option maxRecDepth 100000 in
theorem intsWay_law (s : ByteArray) (at' : Int) (hs : s.size ≤ 140737488351232) (_wn : (Lit.int .i64 at').wf = true) (w : World) :
    Calls Try.prog 8 #[.string s, .int .i64 at'] w fun e w' => e = .returned (.bool true) ∧ Below w.heap.size w w' := by
  have hm := size_max hs
  have hlen := bytes_len s
  obtain ⟨N, M, B, hG, cG⟩ := way_get s.data.toList at'
  obtain ⟨N2, B2, hO, cO⟩ := way_big s.data.toList at'
  obtain ⟨t, M3, B3, hT, cT⟩ := way_text s.data.toList at'
  have HG := Lib.hid hG
  have HO := Lib.hid hO
  have HT := Lib.hid hT
  have CG := Lib.hid cG
  have CO := Lib.hid cO
  have CT := Lib.hid cT
  have HM := Lib.hid hm
  have HLen := Lib.hid hlen
  clear hG hO hT cG cO cT hm hlen
  go_enter Try.func8, Try.ntmps8
  go_upto_region 2 with (go_at_call 15; refine (get_any s at' _ HM.out).mono ?_; rintro e w1 ⟨rfl, rfl⟩; rw [HG.out])
  go_cut [48] (fun c wx => c = .bool false ∧ Below w.heap.size w wx)
  case first =>
    rcases CG.out with ⟨rfl, rfl, rfl⟩ | ⟨rfl, a, n, k, rfl, rfl, rfl, h1, h2, h3, h4, h5, h6⟩
    · go_quiet (fail)
      go_wp2_with fail
      go_meet
      exact ⟨rfl, below_drewN (Below.refl _ _) _⟩
    · rw [HLen.out] at h3
      have hsl := slice_at s a (a + k) (a : Int) ((a : Int) + (k : Int)) rfl (by omega) (by omega) (by omega)
      rw [show a + k - a = k by omega, h5] at hsl
      have g1 : ¬ (n : Int) < 0 := by omega
      have g2 : ¬ (a : Int) < 0 := by omega
      have g3 : ¬ (a : Int) + (k : Int) ≤ a := by omega
      have g4 : ¬ (s.size : Int) < (a : Int) + (k : Int) := by omega
      have cp := fun W => put_nat n W h4
      have CP := Lib.hid cp
      clear cp h5 h6
      generalize put n = P at *
      refine wp_region_grow (by kernel_rfl) (by kernel_rfl) ?_
      repeat (go_big_quiet_step ((intro hgr; exact hgr.call (CP.out _))))
      refine wpQuiet_nil ?_
      intro w1 hgr
      go_wp2_with fail
      go_meet
      exact ⟨rfl, hgr⟩
  case rest =>
    obtain ⟨rfl, hb1⟩ := hcut
    go_upto_region 5 with (go_at_call 17; refine (ofBig_any s at' _ HM.out).mono ?_; rintro e w1 ⟨rfl, rfl⟩; rw [HO.out])
    go_cut [80] (fun c wx => c = .bool false ∧ Below w.heap.size w wx)
    case first =>
      rcases CO.out with ⟨rfl, rfl⟩ | ⟨rfl, a, n, rfl, rfl, h3, h4, h5⟩
      · go_quiet (fail)
        go_wp2_with fail
        go_meet
        exact ⟨rfl, below_drewN hb1 _⟩
      · rw [HLen.out] at h3
        have hsl := slice_at s a (a + 8) (a : Int) ((a : Int) + 8) rfl (by omega) (by omega) (by omega)
        rw [show a + 8 - a = 8 by omega, h5] at hsl
        have g1 : ¬ (n : Int) < 0 := by omega
        have g2 : ¬ (a : Int) < 0 := by omega
        have g4 : ¬ (s.size : Int) - 8 < (a : Int) := by omega
        have g5 : (a : Int) + 8 ≤ 9223372036854775807 := by omega
        have cp := fun W => big_nat n W h4
        have CP := Lib.hid cp
        clear cp h5
        generalize big n = P at *
        refine wp_region_grow (by kernel_rfl) (by kernel_rfl) ?_
        repeat (go_big_quiet_step ((intro hgr; exact hgr.call (CP.out _))))
        refine wpQuiet_nil ?_
        intro w1 hgr
        go_wp2_with fail
        go_meet
        exact ⟨rfl, bt hb1 hgr⟩
    case rest =>
      obtain ⟨rfl, hb2⟩ := hcut
      go_upto_region 8 with (go_at_call 19; refine (getText_any s at' _ HM.out).mono ?_; rintro e w1 ⟨rfl, rfl⟩; rw [HT.out])
      go_cut [112] (fun c wx => c = .bool false ∧ Below w.heap.size w wx)
      case first =>
        rcases CT.out with ⟨rfl, rfl, rfl⟩ | ⟨rfl, a, j, k, rfl, rfl, h1, h2, h3, h4, h5⟩
        · go_quiet (fail)
          go_wp2_with fail
          go_meet
          exact ⟨rfl, below_drewN hb2 _⟩
        · have hB : B = true ∧ M = (a : Int) + (j : Int) := by
            rcases CG.out with ⟨rfl, rfl, rfl⟩ | ⟨rfl, a', n', k', he, rfl, rfl, _, _, _, _, _, h6⟩
            · have := HG.out
              rw [getAt, if_neg (by omega), Int.toNat_natCast, h5] at this
              simp [getV] at this
            · have e : a = a' := by omega
              subst e
              rw [h5] at h6
              simp only [Option.some.injEq, Prod.mk.injEq] at h6
              obtain ⟨_, rfl⟩ := h6
              exact ⟨rfl, rfl⟩
          obtain ⟨rfl, rfl⟩ := hB
          have hpl : (put t.length).length + t.length = k := by
            have := congrArg List.length h4
            simp only [putText, List.length_append, List.length_take, List.length_drop] at this
            omega
          rw [HLen.out] at h3
          have hsl := slice_at s a (a + k) (a : Int) ((a : Int) + (k : Int)) rfl (by omega) (by omega) (by omega)
          rw [show a + k - a = k by omega, h4] at hsl
          have g2 : ¬ (a : Int) + (k : Int) < (a : Int) + (j : Int) := by omega
          have g4 : ¬ (s.size : Int) < (a : Int) + (k : Int) := by omega
          have cp := fun W => putText_any ⟨t.toArray⟩ W (by show t.toArray.size ≤ _; rw [List.size_toArray]; omega)
          have CP := Lib.hid cp
          clear cp h4 h5 hpl
          have e2 : (⟨t.toArray⟩ : ByteArray).data.toList = t := rfl
          rw [e2] at CP
          clear e2
          generalize putText t = P at *
          refine wp_region_grow (by kernel_rfl) (by kernel_rfl) ?_
          repeat (go_big_quiet_step ((intro hgr; exact hgr.call (CP.out _))))
          refine wpQuiet_nil ?_
          intro w1 hgr
          go_wp2_with fail
          go_meet
          exact ⟨rfl, bt hb2 hgr⟩
      case rest =>
        obtain ⟨rfl, hb3⟩ := hcut
        rcases CG.out with ⟨rfl, rfl, rfl⟩ | ⟨rfl, a, n, k, rfl, rfl, rfl, -⟩ <;> rcases CO.out with ⟨rfl, rfl⟩ | ⟨rfl, -⟩ <;> rcases CT.out with ⟨rfl, rfl, rfl⟩ | ⟨rfl, -⟩
        all_goals
          clear CG CO CT HG HO HT
          go_wp2_with fail
          refine (does_true _).mono ?_
          rintro e w5 ⟨rfl, b5⟩
          go_wp2_with fail
          go_ret
          exact ⟨rfl, bt hb3 b5⟩
theorem slice_to (s : ByteArray) (j : Nat) (h2 : j ≤ s.size) (W : World) :
    (Instr.slice 9 (.string s) none (some (.int .i64 (j : Int))) none).run Try.prog W = .ok (.string ⟨(s.data.toList.take j).toArray⟩) W := by
  rw [run_slice_string_to_if W _ s .i64 _ Try.underlying9, if_pos (by omega), extract_bytes]
  simp

theorem intsCut_out (n : Int) (t : ByteArray) (ht : t.size ≤ 140737488351232) (h : n < 0 ∨ 1000 < t.size) (w : World) :
    Calls Try.prog 9 #[.int .i64 n, .string t] w fun e w' => e = .returned (.bool true) ∧ Below w.heap.size w w' := by
  by_cases h1 : n < 0
  · clear h
    go_enter Try.func9, Try.ntmps9
    go_wp2_with fail
    refine (does_true _).mono ?_
    rintro e w1 ⟨rfl, b1⟩
    go_wp2_with fail
    go_ret
    exact ⟨rfl, b1⟩
  · have h2 : 1000 < (t.size : Int) := by omega
    clear h
    go_enter Try.func9, Try.ntmps9
    go_wp2_with fail
    refine (does_true _).mono ?_
    rintro e w1 ⟨rfl, b1⟩
    go_wp2_with fail
    go_ret
    exact ⟨rfl, b1⟩

set_option maxHeartbeats 1000000 in
theorem intsCut_in (n : Nat) (t : ByteArray) (hn : n ≤ 9223372036854775807) (ht : t.size ≤ 1000) (w : World) :
    Calls Try.prog 9 #[.int .i64 n, .string t] w fun e w' => e = .returned (.bool true) ∧ Below w.heap.size w w' := by
  have h2 : ¬ 1000 < (t.size : Int) := by omega
  have h3 : ¬ (n : Int) < 0 := by omega
  have h9 := put_length9 n hn
  have h8 := big_length n
  have htl := bytes_len t
  have h9b := put_length9 t.size (by omega)
  have hpt : (putText t.data.toList).length ≤ 1009 := by rw [putText, List.length_append, htl]; omega
  have g1 : ∀ (i : Nat) (W : World), i < (put n).length → Calls Try.prog 15 #[.string ⟨((put n).take i).toArray⟩, .int .i64 0] W fun e w' => e = .returned (.tuple #[.int .i64 0, .int .i64 0, .bool false]) ∧ W = w' := by
    intro i W hi
    have := get_any ⟨((put n).take i).toArray⟩ 0 W (by unfold maxLen; simp only [ByteArray.size_mk', List.size_toArray, List.length_take]; omega)
    have e : getAt ((put n).take i) 0 = .tuple #[.int .i64 0, .int .i64 0, .bool false] := by
      rw [getAt, if_neg (by decide)]
      show getV 0 (get (((put n).take i).drop 0)) = _
      rw [List.drop_zero, get_cut n i hn hi]
      rfl
    rw [show (⟨((put n).take i).toArray⟩ : ByteArray).data.toList = (put n).take i from rfl, e] at this
    exact this
  have g2 : ∀ (i : Nat) (W : World), i < (big n).length → Calls Try.prog 17 #[.string ⟨((big n).take i).toArray⟩, .int .i64 0] W fun e w' => e = .returned (.tuple #[.int .i64 0, .bool false]) ∧ W = w' := by
    intro i W hi
    have := ofBig_any ⟨((big n).take i).toArray⟩ 0 W (by unfold maxLen; simp only [ByteArray.size_mk', List.size_toArray, List.length_take]; omega)
    have e : ofBigAt ((big n).take i) 0 = .tuple #[.int .i64 0, .bool false] := by
      rw [ofBigAt, if_neg (by decide)]
      show ofBigV (ofBig (((big n).take i).drop 0)) = _
      rw [List.drop_zero, ofBig, if_pos (by rw [List.length_take]; omega)]
      rfl
    rw [show (⟨((big n).take i).toArray⟩ : ByteArray).data.toList = (big n).take i from rfl, e] at this
    exact this
  have g3 : ∀ (i : Nat) (W : World), i < (putText t.data.toList).length → Calls Try.prog 19 #[.string ⟨((putText t.data.toList).take i).toArray⟩, .int .i64 0] W fun e w' => e = .returned (.tuple #[.string ⟨#[]⟩, .int .i64 0, .bool false]) ∧ W = w' := by
    intro i W hi
    have := getText_any ⟨((putText t.data.toList).take i).toArray⟩ 0 W (by unfold maxLen; simp only [ByteArray.size_mk', List.size_toArray, List.length_take]; omega)
    have e : getTextAt ((putText t.data.toList).take i) 0 = .tuple #[.string ⟨#[]⟩, .int .i64 0, .bool false] := by
      rw [getTextAt, if_neg (by decide)]
      show getTextV 0 (getText (((putText t.data.toList).take i).drop 0)) = _
      rw [List.drop_zero, getText_cut _ i (by omega) hi]
      rfl
    rw [show (⟨((putText t.data.toList).take i).toArray⟩ : ByteArray).data.toList = (putText t.data.toList).take i from rfl, e] at this
    exact this
  have cput := fun W => put_nat n W hn
  have cbig := fun W => big_nat n W hn
  have cpt := fun W => putText_any t W (by omega)
  have G1 := Lib.hid g1
  have G2 := Lib.hid g2
  have G3 := Lib.hid g3
  have CP := Lib.hid cput
  have CB := Lib.hid cbig
  have CT := Lib.hid cpt
  have h8' : (big n).length ≤ 8 := by omega
  clear g1 g2 g3 cput cbig cpt h8 htl h9b
  generalize put n = P at *
  generalize big n = G at *
  generalize putText t.data.toList = T at *
  go_enter Try.func9, Try.ntmps9
  go_wp2_with fail
  refine (CP.out _).mono ?_
  rintro e w1 ⟨rfl, b1⟩
  go_wp2_with fail
  refine (CB.out _).mono ?_
  rintro e w2 ⟨rfl, b2⟩
  go_wp2_with fail
  refine (CT.out _).mono ?_
  rintro e w3 ⟨rfl, b3⟩
  have hb := bt (bt b1 b2) b3
  clear b1 b2 b3 CP CB CT
  go_wp2_with fail
  go_loop [8] (fun v => ∃ i : Nat, i ≤ P.length ∧ v = .int .i64 i) (fun v => P.length - (intOf v).toNat)
  case atStart => exact ⟨0, Nat.zero_le _, rfl⟩
  case round =>
    obtain ⟨i, hi, rfl⟩ := hrel
    by_cases hlt : i < P.length
    · have hsl := slice_to ⟨P.toArray⟩ i (by show i ≤ P.toArray.size; rw [List.size_toArray]; omega)
      rw [show (⟨P.toArray⟩ : ByteArray).data.toList = P from rfl] at hsl
      go_wp2_with fail
      refine (G1.out i _ hlt).mono ?_
      rintro e w4 ⟨rfl, rfl⟩
      go_wp2_with fail
      go_round
      case rel => exact ⟨i + 1, by omega, by go_num⟩
      case measure => simp [intOf]; omega
    · go_wp2_with fail
      go_loop [12] (fun v => ∃ i : Nat, i ≤ G.length ∧ v = .int .i64 i) (fun v => G.length - (intOf v).toNat)
      case atStart => exact ⟨0, Nat.zero_le _, rfl⟩
      case round =>
        obtain ⟨j, hj, rfl⟩ := hrel
        by_cases hlt : j < G.length
        · have hsl := slice_to ⟨G.toArray⟩ j (by show j ≤ G.toArray.size; rw [List.size_toArray]; omega)
          rw [show (⟨G.toArray⟩ : ByteArray).data.toList = G from rfl] at hsl
          go_wp2_with fail
          refine (G2.out j _ hlt).mono ?_
          rintro e w4 ⟨rfl, rfl⟩
          go_wp2_with fail
          go_round
          case rel => exact ⟨j + 1, by omega, by go_num⟩
          case measure => simp [intOf]; omega
        · go_wp2_with fail
          go_loop [15] (fun v => ∃ i : Nat, i ≤ T.length ∧ v = .int .i64 i) (fun v => T.length - (intOf v).toNat)
          case atStart => exact ⟨0, Nat.zero_le _, rfl⟩
          case round =>
            obtain ⟨k, hk, rfl⟩ := hrel
            by_cases hlt : k < T.length
            · have hsl := slice_to ⟨T.toArray⟩ k (by show k ≤ T.toArray.size; rw [List.size_toArray]; omega)
              rw [show (⟨T.toArray⟩ : ByteArray).data.toList = T from rfl] at hsl
              go_wp2_with fail
              refine (G3.out k _ hlt).mono ?_
              rintro e w4 ⟨rfl, rfl⟩
              go_wp2_with fail
              go_round
              case rel => exact ⟨k + 1, by omega, by go_num⟩
              case measure => simp [intOf]; omega
            · go_wp2_with fail
              refine (does_true _).mono ?_
              rintro e w5 ⟨rfl, b5⟩
              go_wp2_with fail
              go_ret
              exact ⟨rfl, bt hb b5⟩

theorem intsCut_law (n : Int) (t : ByteArray) (wn : (Lit.int .i64 n).wf = true) (ht : t.size ≤ 140737488351232) (w : World) :
    Calls Try.prog 9 #[.int .i64 n, .string t] w fun e w' => e = .returned (.bool true) ∧ Below w.heap.size w w' := by
  have hn := (bounds_i64 wn).2
  by_cases h : n < 0 ∨ 1000 < t.size
  · exact intsCut_out n t ht h w
  · obtain ⟨k, rfl⟩ : ∃ k : Nat, n = k := ⟨n.toNat, by omega⟩
    exact intsCut_in k t (by omega) (by omega) w
end Go.Proofs.Ytohhghpdgaejhaa
