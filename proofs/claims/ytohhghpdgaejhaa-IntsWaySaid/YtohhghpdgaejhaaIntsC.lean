/- The walks of the reference's OfBig and GetText, and of the statements' own examples. -/
import Derived.Test.YtohhghpdgaejhaaIntsB
namespace Go.Proofs.Ytohhghpdgaejhaa
open Go.RowKit Spoor

theorem refGetText_any (s : ByteArray) (at' : Int) (w : World) (hs : s.size ≤ maxLen) :
    Calls Try.prog 20 #[.string s, .int .i64 at'] w fun e w' => e = .returned (getTextAt s.data.toList at') ∧ Below w.heap.size w w' := by
  have hlen := bytes_len s
  have hs' := hs
  unfold maxLen at hs'
  have none_case : getAt s.data.toList at' = getV 0 none → getTextAt s.data.toList at' = getTextV 0 none → Calls Try.prog 20 #[.string s, .int .i64 at'] w fun e w' => e = .returned (getTextAt s.data.toList at') ∧ Below w.heap.size w w' := by
    intro e1 e2
    have c := refGet_any s at' w hs
    rw [e1] at c
    rw [e2]
    clear e1 e2 hlen
    unfold getV at c
    go_enter Try.func20, Try.ntmps20
    go_wp2_with (go_at_call 16; refine c.mono ?_; rintro e w1 ⟨rfl, hb⟩)
    go_ret3
    exact ⟨ret3 rfl rfl rfl, hb⟩
  by_cases h0 : at' < 0
  · exact none_case (by rw [getAt, if_pos h0]) (by rw [getTextAt, if_pos h0])
  · obtain ⟨a, rfl⟩ : ∃ a : Nat, at' = a := ⟨at'.toNat, by omega⟩
    have ea : (a : Int).toNat = a := by omega
    cases hg : get (s.data.toList.drop a) with
    | none => exact none_case (by rw [getAt, if_neg h0, ea, hg]; rfl) (by rw [getTextAt, if_neg h0, ea, getText, hg]; rfl)
    | some p =>
      obtain ⟨n, k⟩ := p
      obtain ⟨g1, g2, g3, g4, g5⟩ := get_some hg
      rw [List.length_drop, hlen] at g3
      have e1 : getAt s.data.toList (a : Int) = getV a (some (n, k)) := by rw [getAt, if_neg h0, ea, hg]
      have c := refGet_any s (a : Int) w hs
      rw [e1] at c
      unfold getV at c
      by_cases hle : n ≤ s.size - (a + k)
      · have e2 : getTextAt s.data.toList (a : Int) = .tuple #[.string ⟨((s.data.toList.drop (a + k)).take n).toArray⟩, .int .i64 (((a + k : Nat) : Int) + n), .bool true] := by
          rw [getTextAt, if_neg h0, ea, getText, hg]
          simp only
          rw [if_pos (by rw [List.length_drop]; omega), getTextV, List.drop_drop]
          rw [show ((a + (k + n) : Nat) : Int) = ((a + k : Nat) : Int) + n by omega]
        have HE := Lib.hid e2
        have hsl := slice_at s (a + k) (a + k + n) ((a : Int) + (k : Int)) ((a : Int) + (k : Int) + (n : Int)) (by omega) (by omega) (by omega) (by omega)
        rw [show a + k + n - (a + k) = n by omega] at hsl
        have hgt : ¬ (s.size : Int) - ((a : Int) + (k : Int)) < n := by omega
        clear e1 e2 hg g5 hlen none_case ea
        go_enter Try.func20, Try.ntmps20
        go_wp2_with (go_at_call 16; refine c.mono ?_; rintro e w1 ⟨rfl, hb⟩)
        go_ret3
        refine ⟨?_, hb⟩
        rw [HE.out]
        exact ret3 rfl rfl rfl
      · have e2 : getTextAt s.data.toList (a : Int) = getTextV 0 none := by
          rw [getTextAt, if_neg h0, ea, getText, hg]
          simp only
          rw [if_neg (by rw [List.length_drop]; omega)]
          rfl
        have HE := Lib.hid e2
        have hgt : (s.size : Int) - ((a : Int) + (k : Int)) < n := by omega
        clear e1 e2 hg g5 hlen none_case ea
        go_enter Try.func20, Try.ntmps20
        go_wp2_with (go_at_call 16; refine c.mono ?_; rintro e w1 ⟨rfl, hb⟩)
        go_ret3
        refine ⟨?_, hb⟩
        rw [HE.out]
        exact ret3 rfl rfl rfl

theorem refOfBig_out (s : ByteArray) (at' : Int) (w : World) (hs : s.size ≤ maxLen) (h : at' < 0 ∨ (s.size : Int) - 8 < at') :
    Calls Try.prog 18 #[.string s, .int .i64 at'] w fun e w' => e = .returned (ofBigV none) ∧ w = w' := by
  unfold maxLen at hs
  rcases h with h | h
  · go_enter Try.func18, Try.ntmps18
    go_wp2
    go_ret2
    exact ⟨rfl, rfl⟩
  · by_cases h0 : at' < 0
    · go_enter Try.func18, Try.ntmps18
      go_wp2
      go_ret2
      exact ⟨rfl, rfl⟩
    · go_enter Try.func18, Try.ntmps18
      go_wp2
      go_ret2
      exact ⟨rfl, rfl⟩

set_option maxRecDepth 100000 in
theorem refOfBig_in (s : ByteArray) (a : Nat) (w : World) (hs : s.size ≤ maxLen) (h : a + 8 ≤ s.size) :
    Calls Try.prog 18 #[.string s, .int .i64 a] w fun e w' => e = .returned (ofBigV (ofBig (s.data.toList.drop a))) ∧ w = w' := by
  unfold maxLen at hs
  have hlen := bytes_len s
  have h0 : ¬ (a : Int) < 0 := by omega
  have h1 : ¬ (s.size : Int) - 8 < (a : Int) := by omega
  have hidx := index_nat s a (by omega)
  have hb8 := (s.data.toList.getD a 0).toNat_lt
  have htop := top_byte (s.data.toList.drop a) (by rw [List.length_drop]; omega)
  rw [show ((s.data.toList.drop a).getD 0 0) = s.data.toList.getD a 0 by simp [List.getD, List.getElem?_drop]] at htop
  generalize (s.data.toList.getD a 0).toNat = c at hidx hb8 htop
  have HLen := Lib.hid hlen
  have Htop := Lib.hid htop
  clear hlen htop
  by_cases hc : 128 ≤ (c : Int)
  · have e : ofBig (s.data.toList.drop a) = none := by
      have := Htop.out
      rw [ofBig, if_neg (by rw [List.length_drop, HLen.out]; omega), if_neg (by omega)]
    have He := Lib.hid e
    clear e
    go_enter Try.func18, Try.ntmps18
    go_wp2
    go_ret2
    refine ⟨?_, rfl⟩
    rw [He.out]
    exact ret2 rfl rfl
  · go_enter Try.func18, Try.ntmps18
    go_wp2
    clear hidx hb8
    have Hc := Lib.hid hc
    clear hc
    go_loop [6, 7] (fun v i => ∃ k acc : Nat, k ≤ 8 ∧ acc ≤ 9223372036854775807 ∧ acc < 256 ^ k ∧ i = .int .i64 ((a : Int) + (k : Int)) ∧ v = .int .i64 acc ∧ Hid (acc = val256 0 ((s.data.toList.drop a).take k))) (fun _ i => a + 8 - (intOf i).toNat)
    case atStart => exact ⟨0, 0, by omega, by omega, by simp, by go_num, rfl, rfl⟩
    case round =>
      obtain ⟨k, acc, hk, hacc9, hacc, rfl, rfl, hv⟩ := hrel
      by_cases hlt : k < 8
      · have hidx := index_at s a k (by omega)
        have hb9 := (s.data.toList.getD (a + k) 0).toNat_lt
        have hst : val256 0 ((s.data.toList.drop a).take (k + 1)) = acc * 256 + (s.data.toList.getD (a + k) 0).toNat := by
          rw [take_getD _ k (by rw [List.length_drop, HLen.out]; omega), val256_snoc, ← hv.out]
          simp [List.getD, List.getElem?_drop]
        generalize (s.data.toList.getD (a + k) 0).toNat = d at hidx hb9 hst
        have hnew : acc * 256 + d ≤ 9223372036854775807 := by
          by_cases h7 : k = 7
          · subst h7
            have h8 : val256 0 ((s.data.toList.drop a).take 8) = acc * 256 + d := hst
            have := Htop.out
            have := Hc.out
            omega
          · have : 256 ^ k ≤ 256 ^ 6 := Nat.pow_le_pow_right (by decide) (by omega)
            omega
        have Hst := Lib.hid hst
        have Hacc := Lib.hid hacc
        clear hst hacc
        go_wp2
        go_round
        case rel =>
          refine ⟨k + 1, acc * 256 + d, by omega, hnew, ?_, by go_num, by go_num, Hst.out.symm⟩
          have := Hacc.out
          rw [Nat.pow_succ]
          omega
        case measure => simp [intOf]; omega
      · obtain rfl : k = 8 := by omega
        have e : ofBig (s.data.toList.drop a) = some acc := by
          rw [ofBig, if_neg (by rw [List.length_drop, HLen.out]; omega), ← hv.out, if_pos (by omega)]
        have He := Lib.hid e
        clear e hacc
        go_wp2
        go_ret2
        refine ⟨?_, rfl⟩
        rw [He.out]
        exact ret2 rfl rfl

theorem refOfBig_any (s : ByteArray) (at' : Int) (w : World) (hs : s.size ≤ maxLen) :
    Calls Try.prog 18 #[.string s, .int .i64 at'] w fun e w' => e = .returned (ofBigAt s.data.toList at') ∧ w = w' := by
  have hlen := bytes_len s
  by_cases h0 : at' < 0
  · have e : ofBigAt s.data.toList at' = ofBigV none := by rw [ofBigAt, if_pos h0]
    rw [e]
    exact refOfBig_out s at' w hs (.inl h0)
  · obtain ⟨a, rfl⟩ : ∃ a : Nat, at' = a := ⟨at'.toNat, by omega⟩
    have e : ofBigAt s.data.toList (a : Int) = ofBigV (ofBig (s.data.toList.drop a)) := by rw [ofBigAt, if_neg h0]; rfl
    rw [e]
    by_cases h1 : a + 8 ≤ s.size
    · exact refOfBig_in s a w hs h1
    · have e2 : ofBig (s.data.toList.drop a) = none := by rw [ofBig, if_pos (by rw [List.length_drop]; omega)]
      rw [e2]
      exact refOfBig_out s a w hs (.inr (by omega))

theorem put_300 : put 300 = [130, 44] := by
  rw [put, hi_pos (by decide), show 300 / 128 / 128 = 0 by decide, hi_zero]; rfl
theorem big_258 : big 258 = [0, 0, 0, 0, 0, 0, 1, 2] := by decide +kernel
/-- the statements' own examples come out -/
theorem does_true (w : World) : Calls Try.prog 14 #[] w fun e w' => e = .returned (.bool true) ∧ Below w.heap.size w w' := by
  have c1 : ∀ W, Calls Try.prog 15 #[.string ⟨#[130, 44, 7]⟩, .int .i64 0] W fun e w' => e = .returned (.tuple #[.int .i64 300, .int .i64 2, .bool true]) ∧ W = w' := fun W => get_any ⟨#[130, 44, 7]⟩ 0 W (by decide)
  have c2 : ∀ W, Calls Try.prog 15 #[.string ⟨#[128, 5]⟩, .int .i64 0] W fun e w' => e = .returned (.tuple #[.int .i64 0, .int .i64 0, .bool false]) ∧ W = w' := fun W => get_any ⟨#[128, 5]⟩ 0 W (by decide)
  have c3 : ∀ W, Calls Try.prog 17 #[.string ⟨#[0, 0, 0, 0, 0, 0, 1, 2]⟩, .int .i64 0] W fun e w' => e = .returned (.tuple #[.int .i64 258, .bool true]) ∧ W = w' := fun W => by
    have := ofBig_any ⟨#[0, 0, 0, 0, 0, 0, 1, 2]⟩ 0 W (by decide)
    rw [show ofBigAt (⟨#[0, 0, 0, 0, 0, 0, 1, 2]⟩ : ByteArray).data.toList 0 = .tuple #[.int .i64 258, .bool true] by kernel_rfl] at this
    exact this
  have c4 : ∀ W, Calls Try.prog 19 #[.string ⟨#[2, 120, 121, 122]⟩, .int .i64 0] W fun e w' => e = .returned (.tuple #[.string ⟨#[120, 121]⟩, .int .i64 3, .bool true]) ∧ W = w' := fun W => getText_any ⟨#[2, 120, 121, 122]⟩ 0 W (by decide)
  have c5 : ∀ W, Calls Try.prog 10 #[.int .i64 300] W fun e w' => e = .returned (.string ⟨#[130, 44]⟩) ∧ Below W.heap.size W w' := fun W => by
    have := put_nat 300 W (by omega)
    rw [put_300] at this
    exact this
  have c6 : ∀ W, Calls Try.prog 10 #[.int .i64 (-1)] W fun e w' => e = .returned (.string ⟨#[]⟩) ∧ Below W.heap.size W w' := fun W => put_neg (-1) W (by omega)
  have c7 : ∀ W, Calls Try.prog 12 #[.int .i64 258] W fun e w' => e = .returned (.string ⟨#[0, 0, 0, 0, 0, 0, 1, 2]⟩) ∧ Below W.heap.size W w' := fun W => by
    have := big_nat 258 W (by omega)
    rw [big_258] at this
    exact this
  have C1 := Lib.hid c1
  have C2 := Lib.hid c2
  have C3 := Lib.hid c3
  have C4 := Lib.hid c4
  have C5 := Lib.hid c5
  have C6 := Lib.hid c6
  have C7 := Lib.hid c7
  clear c1 c2 c3 c4 c5 c6 c7
  go_enter Try.func14, Try.ntmps14
  go_wp2_with (first
    | (go_at_call_of 15 (Value.string ⟨#[130, 44, 7]⟩); refine (C1.out _).mono ?_; rintro e w1 ⟨rfl, rfl⟩)
    | (go_at_call_of 15 (Value.string ⟨#[128, 5]⟩); refine (C2.out _).mono ?_; rintro e w1 ⟨rfl, rfl⟩)
    | (go_at_call 17; refine (C3.out _).mono ?_; rintro e w1 ⟨rfl, rfl⟩)
    | (go_at_call 19; refine (C4.out _).mono ?_; rintro e w1 ⟨rfl, rfl⟩))
  refine (C5.out _).mono ?_
  rintro e w5 ⟨rfl, hb5⟩
  go_wp2_with fail
  refine (C6.out _).mono ?_
  rintro e w6 ⟨rfl, hb6⟩
  go_wp2_with fail
  refine (C7.out _).mono ?_
  rintro e w7 ⟨rfl, hb7⟩
  go_wp2
  go_ret
  exact ⟨rfl, hb5.trans ((hb6.mono hb5.size).trans (hb7.mono (Nat.le_trans hb5.size hb6.size)))⟩
end Go.Proofs.Ytohhghpdgaejhaa
