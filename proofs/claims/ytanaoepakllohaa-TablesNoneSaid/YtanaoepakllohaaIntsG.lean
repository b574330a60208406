/- The walks of ints.Big, ints.OfBig and of the reference's. -/
import Derived.Test.YtanaoepakllohaaIntsB
namespace Go.Proofs.Ytanaoepakllohaa
set_option maxRecDepth 16000
open Go.RowKit Spoor

theorem big_neg (n : Int) (w : World) (h : n < 0) :
    Calls Try.prog 35 #[.int .i64 n] w fun e w' => e = .returned (.string ⟨#[]⟩) ∧ Below w.heap.size w w' := by
  go_enter Try.func35, Try.ntmps35
  go_wp2
  go_ret
  exact ⟨rfl, Below.refl _ _⟩

theorem drop_set (l : List UInt8) (j k : Nat) (hl : l.length = k) (h : j < k) :
    (List.replicate (j + 1) 0 ++ l.drop (j + 1)).set j (l.getD j 0) = List.replicate j 0 ++ l.drop j := by
  subst hl
  rw [List.replicate_succ', List.append_assoc, List.set_append_right _ _ (by simp)]
  rw [List.drop_eq_getElem_cons h]
  simp [List.getD, h]

theorem bigK_byte (k n j : Nat) (h : j < k) : (n : Int) / 2 ^ (8 * (k - 1 - j)) % 256 = (((bigK k n).getD j 0).toNat : Int) := by
  rw [bigK_at k n j h]
  have e : ((n : Int) / 2 ^ (8 * (k - 1 - j)) % 256) = ((n / 2 ^ (8 * (k - 1 - j)) % 256 : Nat) : Int) := by simp
  have e2 : (256 : Nat) ^ (k - 1 - j) = 2 ^ (8 * (k - 1 - j)) := by rw [Nat.pow_mul]
  rw [e, e2]
  simp

theorem big_nat (n : Nat) (w : World) (_h : n ≤ 9223372036854775807) :
    Calls Try.prog 35 #[.int .i64 n] w fun e w' => e = .returned (.string ⟨(big n).toArray⟩) ∧ Below w.heap.size w w' := by
  go_enter Try.func35, Try.ntmps35
  go_wp2
  go_loopw [7] (fun i wr => ∃ k : Nat, k ≤ 8 ∧ i = .int .i64 k ∧ wr.ownsRow w.heap.size 99 1 (.slice (some ⟨w.heap.size, 0, none⟩) 8 8) 8 (row (List.replicate (8 - k) 0 ++ (big n).drop (8 - k))) ∧ Below w.heap.size w wr) (fun i _ => 8 - (intOf i).toNat)
  case atStart =>
    refine ⟨0, by omega, rfl, ?_, (Below.refl _ _).alloc (Nat.le_refl _) _⟩
    rw [List.drop_of_length_le (by rw [big_length]; exact Nat.le_refl _)]
    exact World.ownsRow_lit w #[.int .u8 0, .int .u8 0, .int .u8 0, .int .u8 0, .int .u8 0, .int .u8 0, .int .u8 0, .int .u8 0] 8 (Nat.le_refl _) (by decide) rfl
  case round =>
    obtain ⟨k, hk, rfl, hown, hb⟩ := hrel
    by_cases hlt : k < 8
    · have hc := hown.cellAt (7 - k) (by omega)
      have hf := hown.frozenAt (7 - k)
      obtain ⟨v0, hv0⟩ := row_at (List.replicate (8 - k) 0 ++ (big n).drop (8 - k)) (7 - k) (by simp [big_length]; omega)
      rw [hv0] at hc
      clear hv0
      go_wp2
      go_roundw
      case rel =>
        refine ⟨k + 1, by omega, by go_num, ?_, hb.setCell (Nat.le_refl _) _⟩
        have h1 := (hown.stored (7 - k) (.int .u8 ((big n).getD (7 - k) 0).toNat)).1
        have e := bigK_byte 8 n (7 - k) (by omega)
        rw [show 8 - 1 - (7 - k) = k by omega] at e
        rw [row_set, show 8 - k = 7 - k + 1 by omega, drop_set _ _ 8 (big_length n) (by omega), big, ← e] at h1
        rw [show 8 - (k + 1) = 7 - k by omega]
        exact h1
      case measure => simp [intOf]; omega
    · obtain rfl : k = 8 := by omega
      have hcv := convert_row wr Try.underlying60 Try.underlying5 Try.underlying9 hown
      simp only [Nat.sub_self, List.replicate_zero, List.nil_append, List.drop_zero] at hcv
      go_wp2
      go_ret
      exact ⟨rfl, hb⟩

theorem refBig_neg (n : Int) (w : World) (h : n < 0) :
    Calls Try.prog 42 #[.int .i64 n] w fun e w' => e = .returned (.string ⟨#[]⟩) ∧ Below w.heap.size w w' := by
  go_enter Try.func42, Try.ntmps42
  go_wp2
  go_ret
  exact ⟨rfl, Below.refl _ _⟩

theorem refBig_nat (n : Nat) (w : World) (h : n ≤ 9223372036854775807) :
    Calls Try.prog 42 #[.int .i64 n] w fun e w' => e = .returned (.string ⟨(big n).toArray⟩) ∧ Below w.heap.size w w' := by
  have hc := conv1
  go_enter Try.func42, Try.ntmps42
  go_wp2
  go_loopw [0, 3, 4] (fun a s i wr => ∃ (q k : Nat) (l : List UInt8), k ≤ 8 ∧ q ≤ n ∧ Hid (bigK (8 - k) q ++ l = big n) ∧ l.length = k ∧ a = .int .i64 q ∧ s = .string ⟨l.toArray⟩ ∧ i = .int .i64 k ∧ Below w.heap.size w wr) (fun _ _ i _ => 8 - (intOf i).toNat)
  case atStart => exact ⟨n, 0, [], by omega, by omega, List.append_nil _, rfl, by go_num, rfl, rfl, Below.refl _ _⟩
  case round =>
    obtain ⟨q, k, l, hk, hq, hl, hll, rfl, rfl, rfl, hb⟩ := hrel
    have HL := Lib.hid hll
    have hll' : l.length ≤ 8 := by omega
    clear hll
    have hsz := hb.size
    by_cases hlt : k < 8
    · go_wp2
      go_roundw
      case rel =>
        refine ⟨q / 256, k + 1, UInt8.ofNat (q % 256) :: l, by omega, by omega, ?_, by rw [List.length_cons, HL.out], by go_num, string_cons _ _, by go_num, hb.alloc hsz _⟩
        show bigK (8 - (k + 1)) (q / 256) ++ UInt8.ofNat (q % 256) :: l = big n
        have := hl.out
        rw [show 8 - k = (8 - (k + 1)) + 1 by omega, bigK, List.append_assoc] at this
        exact this
      case measure => simp [intOf]; omega
    · obtain rfl : k = 8 := by omega
      go_wp2
      go_ret
      exact ⟨by rw [← hl.out]; rfl, hb⟩
theorem or_u64 (n d : Nat) (hn : n < 72057594037927936) (hd : d < 256) : bits BinOp.or IntKind.u64 ((n : Int) * 256) (d : Int) = ((n * 256 + d : Nat) : Int) := by
  have e : ((n : Int) * 256) = ((n * 256 : Nat) : Int) := by omega
  rw [e, bits_or_u64_nat _ _ (by omega) (by omega), nat_join 8 _ _ (by omega) (by omega)]

theorem ofBig_out (s : ByteArray) (at' : Int) (w : World) (hs : s.size ≤ maxLen) (h : at' < 0 ∨ (s.size : Int) - 8 < at') :
    Calls Try.prog 44 #[.string s, .int .i64 at'] w fun e w' => e = .returned (.tuple #[.int .i64 0, .bool false]) ∧ w = w' := by
  unfold maxLen at hs
  rcases h with h | h
  · go_enter Try.func44, Try.ntmps44
    go_wp2
    go_ret2
    exact ⟨rfl, rfl⟩
  · by_cases h0 : at' < 0
    · go_enter Try.func44, Try.ntmps44
      go_wp2
      go_ret2
      exact ⟨rfl, rfl⟩
    · go_enter Try.func44, Try.ntmps44
      go_wp2
      go_ret2
      exact ⟨rfl, rfl⟩

def ofBigV : Option Nat → Value
  | none => .tuple #[.int .i64 0, .bool false]
  | some n => .tuple #[.int .i64 n, .bool true]

theorem ofBig_in (s : ByteArray) (a : Nat) (w : World) (hs : s.size ≤ maxLen) (h : a + 8 ≤ s.size) :
    Calls Try.prog 44 #[.string s, .int .i64 a] w fun e w' => e = .returned (ofBigV (ofBig (s.data.toList.drop a))) ∧ w = w' := by
  unfold maxLen at hs
  have hlen := bytes_len s
  have HLen := Lib.hid hlen
  clear hlen
  have h0 : ¬ (a : Int) < 0 := by omega
  have h1 : ¬ (s.size : Int) - 8 < (a : Int) := by omega
  go_enter Try.func44, Try.ntmps44
  go_wp2
  go_loop [6, 17] (fun v i => ∃ k acc : Nat, k ≤ 8 ∧ acc < 256 ^ k ∧ i = .int .i64 k ∧ v = .int .u64 acc ∧ Hid (acc = val256 0 ((s.data.toList.drop a).take k))) (fun _ i => 8 - (intOf i).toNat)
  case atStart => exact ⟨0, 0, by omega, by simp, rfl, rfl, rfl⟩
  case round =>
    obtain ⟨k, acc, hk, hacc, rfl, rfl, hv⟩ := hrel
    by_cases hlt : k < 8
    · have hidx := index_at s a k (by omega)
      have hb8 := (s.data.toList.getD (a + k) 0).toNat_lt
      have hacc7 : acc < 72057594037927936 := by
        have : 256 ^ k ≤ 256 ^ 7 := Nat.pow_le_pow_right (by decide) (by omega)
        omega
      have hst : val256 0 ((s.data.toList.drop a).take (k + 1)) = acc * 256 + (s.data.toList.getD (a + k) 0).toNat := by
        rw [take_getD _ k (by rw [List.length_drop, HLen.out]; omega), val256_snoc, ← hv.out]
        simp [List.getD, List.getElem?_drop]
      generalize (s.data.toList.getD (a + k) 0).toNat = c at hidx hb8 hst
      have Hst := Lib.hid hst
      have Hacc := Lib.hid hacc
      clear hst hacc
      go_wp2
      go_round
      case rel =>
        refine ⟨k + 1, acc * 256 + c, by omega, ?_, by go_num, by rw [or_u64 acc c hacc7 (by omega)], Hst.out.symm⟩
        have := Hacc.out
        rw [Nat.pow_succ]
        omega
      case measure => simp [intOf]; omega
    · obtain rfl : k = 8 := by omega
      have e : ofBig (s.data.toList.drop a) = if acc < 9223372036854775808 then some acc else none := by
        rw [ofBig, if_neg (by rw [List.length_drop, HLen.out]; omega), ← hv.out]
      by_cases h63 : acc < 9223372036854775808
      · rw [if_pos h63] at e
        have He := Lib.hid e
        clear e
        go_wp2
        go_ret2
        refine ⟨?_, rfl⟩
        rw [He.out]
        exact ret2 rfl rfl
      · rw [if_neg h63] at e
        have He := Lib.hid e
        clear e
        go_wp2
        go_ret2
        refine ⟨?_, rfl⟩
        rw [He.out]
        exact ret2 rfl rfl

/-- ints.OfBig, at every text and place -/
def ofBigAt (l : List UInt8) (at' : Int) : Value := if at' < 0 then ofBigV none else ofBigV (ofBig (l.drop at'.toNat))

theorem ofBig_any (s : ByteArray) (at' : Int) (w : World) (hs : s.size ≤ maxLen) :
    Calls Try.prog 44 #[.string s, .int .i64 at'] w fun e w' => e = .returned (ofBigAt s.data.toList at') ∧ w = w' := by
  have hlen := bytes_len s
  by_cases h0 : at' < 0
  · have e : ofBigAt s.data.toList at' = ofBigV none := by rw [ofBigAt, if_pos h0]
    rw [e]
    exact ofBig_out s at' w hs (.inl h0)
  · obtain ⟨a, rfl⟩ : ∃ a : Nat, at' = a := ⟨at'.toNat, by omega⟩
    have e : ofBigAt s.data.toList (a : Int) = ofBigV (ofBig (s.data.toList.drop a)) := by rw [ofBigAt, if_neg h0]; rfl
    rw [e]
    by_cases h1 : a + 8 ≤ s.size
    · exact ofBig_in s a w hs h1
    · have e2 : ofBig (s.data.toList.drop a) = none := by rw [ofBig, if_pos (by rw [List.length_drop]; omega)]
      rw [e2]
      exact ofBig_out s a w hs (.inr (by omega))
theorem refOfBig_out (s : ByteArray) (at' : Int) (w : World) (hs : s.size ≤ maxLen) (h : at' < 0 ∨ (s.size : Int) - 8 < at') :
    Calls Try.prog 52 #[.string s, .int .i64 at'] w fun e w' => e = .returned (ofBigV none) ∧ w = w' := by
  unfold maxLen at hs
  rcases h with h | h
  · go_enter Try.func52, Try.ntmps52
    go_wp2
    go_ret2
    exact ⟨rfl, rfl⟩
  · by_cases h0 : at' < 0
    · go_enter Try.func52, Try.ntmps52
      go_wp2
      go_ret2
      exact ⟨rfl, rfl⟩
    · go_enter Try.func52, Try.ntmps52
      go_wp2
      go_ret2
      exact ⟨rfl, rfl⟩

set_option maxRecDepth 100000 in
theorem refOfBig_in (s : ByteArray) (a : Nat) (w : World) (hs : s.size ≤ maxLen) (h : a + 8 ≤ s.size) :
    Calls Try.prog 52 #[.string s, .int .i64 a] w fun e w' => e = .returned (ofBigV (ofBig (s.data.toList.drop a))) ∧ w = w' := by
  unfold maxLen at hs
  have hlen := bytes_len s
  have h0 : ¬ (a : Int) < 0 := by omega
  have h1 : ¬ (s.size : Int) - 8 < (a : Int) := by omega
  have hidx := index_nat s a (by omega)
  have hb8 := (s.data.toList.getD a 0).toNat_lt
  have htop := top_byte (s.data.toList.drop a) (by rw [List.length_drop]; omega)
  rw [show ((s.data.toList.drop a).getD 0 0) = s.data.toList.getD a 0 by simp [List.getD, List.getElem?_drop]] at htop
  generalize (s.data.toList.getD a 0).toNat = c at hidx hb8 htop
  have HLen := Lib.hid hlen
  have Htop := Lib.hid htop
  clear hlen htop
  by_cases hc : 128 ≤ (c : Int)
  · have e : ofBig (s.data.toList.drop a) = none := by
      have := Htop.out
      rw [ofBig, if_neg (by rw [List.length_drop, HLen.out]; omega), if_neg (by omega)]
    have He := Lib.hid e
    clear e
    go_enter Try.func52, Try.ntmps52
    go_wp2
    go_ret2
    refine ⟨?_, rfl⟩
    rw [He.out]
    exact ret2 rfl rfl
  · go_enter Try.func52, Try.ntmps52
    go_wp2
    clear hidx hb8
    have Hc := Lib.hid hc
    clear hc
    go_loop [6, 7] (fun v i => ∃ k acc : Nat, k ≤ 8 ∧ acc ≤ 9223372036854775807 ∧ acc < 256 ^ k ∧ i = .int .i64 ((a : Int) + (k : Int)) ∧ v = .int .i64 acc ∧ Hid (acc = val256 0 ((s.data.toList.drop a).take k))) (fun _ i => a + 8 - (intOf i).toNat)
    case atStart => exact ⟨0, 0, by omega, by omega, by simp, by go_num, rfl, rfl⟩
    case round =>
      obtain ⟨k, acc, hk, hacc9, hacc, rfl, rfl, hv⟩ := hrel
      by_cases hlt : k < 8
      · have hidx := index_at s a k (by omega)
        have hb9 := (s.data.toList.getD (a + k) 0).toNat_lt
        have hst : val256 0 ((s.data.toList.drop a).take (k + 1)) = acc * 256 + (s.data.toList.getD (a + k) 0).toNat := by
          rw [take_getD _ k (by rw [List.length_drop, HLen.out]; omega), val256_snoc, ← hv.out]
          simp [List.getD, List.getElem?_drop]
        generalize (s.data.toList.getD (a + k) 0).toNat = d at hidx hb9 hst
        have hnew : acc * 256 + d ≤ 9223372036854775807 := by
          by_cases h7 : k = 7
          · subst h7
            have h8 : val256 0 ((s.data.toList.drop a).take 8) = acc * 256 + d := hst
            have := Htop.out
            have := Hc.out
            omega
          · have : 256 ^ k ≤ 256 ^ 6 := Nat.pow_le_pow_right (by decide) (by omega)
            omega
        have Hst := Lib.hid hst
        have Hacc := Lib.hid hacc
        clear hst hacc
        go_wp2
        go_round
        case rel =>
          refine ⟨k + 1, acc * 256 + d, by omega, hnew, ?_, by go_num, by go_num, Hst.out.symm⟩
          have := Hacc.out
          rw [Nat.pow_succ]
          omega
        case measure => simp [intOf]; omega
      · obtain rfl : k = 8 := by omega
        have e : ofBig (s.data.toList.drop a) = some acc := by
          rw [ofBig, if_neg (by rw [List.length_drop, HLen.out]; omega), ← hv.out, if_pos (by omega)]
        have He := Lib.hid e
        clear e hacc
        go_wp2
        go_ret2
        refine ⟨?_, rfl⟩
        rw [He.out]
        exact ret2 rfl rfl

theorem refOfBig_any (s : ByteArray) (at' : Int) (w : World) (hs : s.size ≤ maxLen) :
    Calls Try.prog 52 #[.string s, .int .i64 at'] w fun e w' => e = .returned (ofBigAt s.data.toList at') ∧ w = w' := by
  have hlen := bytes_len s
  by_cases h0 : at' < 0
  · have e : ofBigAt s.data.toList at' = ofBigV none := by rw [ofBigAt, if_pos h0]
    rw [e]
    exact refOfBig_out s at' w hs (.inl h0)
  · obtain ⟨a, rfl⟩ : ∃ a : Nat, at' = a := ⟨at'.toNat, by omega⟩
    have e : ofBigAt s.data.toList (a : Int) = ofBigV (ofBig (s.data.toList.drop a)) := by rw [ofBigAt, if_neg h0]; rfl
    rw [e]
    by_cases h1 : a + 8 ≤ s.size
    · exact refOfBig_in s a w hs h1
    · have e2 : ofBig (s.data.toList.drop a) = none := by rw [ofBig, if_pos (by rw [List.length_drop]; omega)]
      rw [e2]
      exact refOfBig_out s a w hs (.inr (by omega))
end Go.Proofs.Ytanaoepakllohaa
