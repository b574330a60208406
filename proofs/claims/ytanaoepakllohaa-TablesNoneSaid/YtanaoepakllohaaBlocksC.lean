/- The walks: whether a cell may be, how far two texts are alike; the document's words for both. -/
import Derived.Test.YtanaoepakllohaaBlocksB
namespace Go.Proofs.Ytanaoepakllohaa
set_option maxRecDepth 16000
open Go.RowKit Spoor

theorem sortedBl_any (s : Value) (l : List Ce) (w : World) (hs : SlAt s l w) (hf : ∀ c ∈ l, FitsC c) :
    Calls Try.prog 27 #[s] w fun e w' => e = .returned (.bool (sortedB l)) ∧ Below w.heap.size w w' := by
  have c1 := sortedC_any s l w hs hf
  have C1 := Lib.hid c1
  generalize sortedB l = b at *
  clear c1 hs hf
  go_enter Try.func27, Try.ntmps27
  go_wp2_with fail
  refine C1.out.mono ?_
  rintro e w1 ⟨rfl, b1⟩
  go_wp2_with fail
  go_ret
  exact ⟨rfl, b1⟩
def chkC (c : Ce) : Int := if c.may then 0 else 2
theorem refMay_any (c : Ce) (w : World) (hf : FitsC c) :
    Calls Try.prog 64 #[ceVal c] w fun e w' => e = .returned (.bool c.may) ∧ Below w.heap.size w w' := by
  obtain ⟨k, q, v⟩ := c
  obtain ⟨f1, f2, f3⟩ := hf
  simp only at f1 f2 f3
  clear f3
  unfold ceVal Ce.may
  simp only
  by_cases h0 : (1 : Int) ≤ (k.length : Int)
  · by_cases h2 : (k.length : Int) ≤ 64
    · by_cases h3 : 0 ≤ q
      · rw [show (decide (1 ≤ k.length ∧ k.length ≤ 64) && decide (0 ≤ q) && decide (v.length ≤ 128)) = decide ((v.length : Int) ≤ 128) by
          rw [decide_eq_true (show 1 ≤ k.length ∧ k.length ≤ 64 by omega), decide_eq_true h3, Bool.true_and, Bool.true_and, decide_eq_decide]; omega]
        go_enter Try.func64, Try.ntmps64
        go_wp2_with fail
        go_ret
        exact ⟨rfl, (Below.refl _ _).alloc (Nat.le_refl _) _⟩
      · rw [show (decide (1 ≤ k.length ∧ k.length ≤ 64) && decide (0 ≤ q) && decide (v.length ≤ 128)) = false by rw [decide_eq_false h3]; simp]
        have h4 := decide_eq_false h3
        go_enter Try.func64, Try.ntmps64
        go_wp2_with fail
        go_ret
        exact ⟨rfl, (Below.refl _ _).alloc (Nat.le_refl _) _⟩
    · rw [show (decide (1 ≤ k.length ∧ k.length ≤ 64) && decide (0 ≤ q) && decide (v.length ≤ 128)) = false by rw [decide_eq_false (show ¬ (1 ≤ k.length ∧ k.length ≤ 64) by omega)]; simp]
      have h4 := decide_eq_false h2
      go_enter Try.func64, Try.ntmps64
      go_wp2_with fail
      go_ret
      exact ⟨rfl, (Below.refl _ _).alloc (Nat.le_refl _) _⟩
  · rw [show (decide (1 ≤ k.length ∧ k.length ≤ 64) && decide (0 ≤ q) && decide (v.length ≤ 128)) = false by rw [decide_eq_false (show ¬ (1 ≤ k.length ∧ k.length ≤ 64) by omega)]; simp]
    have h4 := decide_eq_false h0
    obtain rfl : k = [] := List.eq_nil_of_length_eq_zero (by omega)
    go_enter Try.func64, Try.ntmps64
    go_wp2_with fail
    go_ret
    exact ⟨rfl, (Below.refl _ _).alloc (Nat.le_refl _) _⟩
theorem refAhead_any (a b : Ce) (w : World) :
    Calls Try.prog 65 #[ceVal a, ceVal b] w fun e w' => e = .returned (.bool (aheadC a b)) ∧ Below w.heap.size w w' := by
  have b0 := ((Below.refl w.heap.size w).alloc (Nat.le_refl _) (boxC a)).alloc (by simp) (boxC b)
  unfold ceVal boxC aheadC at *
  cases h1 : Op.bytesLess a.k b.k with
  | true =>
    rw [Bool.true_or]
    go_enter Try.func65, Try.ntmps65
    go_wp2_with fail
    go_ret
    exact ⟨rfl, b0⟩
  | false =>
    rw [Bool.false_or]
    cases h2 : (a.k == b.k) with
    | false =>
      rw [Bool.false_and]
      go_enter Try.func65, Try.ntmps65
      go_wp2_with fail
      go_ret
      exact ⟨rfl, b0⟩
    | true =>
      rw [Bool.true_and]
      go_enter Try.func65, Try.ntmps65
      go_wp2_with fail
      go_ret
      exact ⟨rfl, b0⟩
theorem at_of (a : List UInt8) (i : Nat) (h : i < a.length) (W : World) : (Instr.index 9 (.string ⟨a.toArray⟩) (.int .i64 (i : Int))).run Try.prog W = .ok (.int .u8 ((a.getD i 0).toNat : Int)) W :=
  index_nat ⟨a.toArray⟩ i (by have := bytes_len ⟨a.toArray⟩; simp only at this; omega) W
theorem common_any (a b : List UInt8) (w : World) (ha : a.length ≤ 140737488351232) (hb : b.length ≤ 140737488351232) :
    Calls Try.prog 61 #[.string ⟨a.toArray⟩, .string ⟨b.toArray⟩] w fun e w' => e = .returned (.int .i64 (common a b : Nat)) ∧ Below w.heap.size w w' := by
  obtain ⟨n, hn⟩ : ∃ n, min a.length b.length = n := ⟨_, rfl⟩
  have hmin : min (a.length : Int) (b.length : Int) = (n : Int) := by omega
  have hmin2 : (if (b.length : Int) < (a.length : Int) then (b.length : Int) else (a.length : Int)) = (n : Int) := by split <;> omega
  have HN := Lib.hid hn
  have hn2 : n ≤ 140737488351232 := by omega
  clear hn
  go_enter Try.func61, Try.ntmps61
  go_wp2_with fail
  clear hmin hmin2
  go_loopw [13] (fun i wr => ∃ k : Nat, k ≤ n ∧ i = .int .i64 k ∧ a.take k = b.take k ∧ Below w.heap.size w wr) (fun i _ => n - (intOf i).toNat)
  case atStart => exact ⟨0, by omega, rfl, by simp, Below.refl _ _⟩
  case round =>
    obtain ⟨k, hk, rfl, htk, hb⟩ := hrel
    have HT := Lib.hid htk
    clear htk
    by_cases hlt : k < n
    · have hka : k < a.length := by have := HN.out; omega
      have hkb : k < b.length := by have := HN.out; omega
      have i1 := fun W => at_of a k hka W
      have i2 := fun W => at_of b k hkb W
      by_cases hx : ((a.getD k 0).toNat : Int) = ((b.getD k 0).toNat : Int)
      · have htk2 : a.take (k + 1) = b.take (k + 1) := by
          rw [take_getD a k hka, take_getD b k hkb, HT.out, UInt8.toNat_inj.1 (Int.ofNat.inj hx)]
        have HT2 := Lib.hid htk2
        rw [hx] at i1
        clear htk2 hka hkb
        generalize ((b.getD k 0).toNat : Int) = y at *
        clear hx
        go_wp2_with fail
        go_quiet (fail)
        go_wp2_with fail
        go_roundw
        case rel => exact ⟨k + 1, by omega, by go_num, HT2.out, below_drewN hb _⟩
        case measure => simp [intOf]; omega
      · have hne : a.getD k 0 ≠ b.getD k 0 := fun e => hx (by rw [e])
        have hck : common a b = k := common_of k a b (by omega) (by omega) HT.out (fun _ _ => hne)
        have HC := Lib.hid hck
        have hxb : (((a.getD k 0).toNat : Int) != ((b.getD k 0).toNat : Int)) = true := by simpa using hx
        clear hck hka hkb hne
        generalize ((a.getD k 0).toNat : Int) = x at *
        generalize ((b.getD k 0).toNat : Int) = y at *
        go_wp2_with fail
        go_quiet (fail)
        go_wp2_with fail
        go_ret
        exact ⟨ret1 (by rw [HC.out]; rfl), below_drewN hb _⟩
    · obtain rfl : k = n := by omega
      have hck : common a b = k := common_of k a b (by have := HN.out; omega) (by have := HN.out; omega) HT.out (fun h1 h2 => by have := HN.out; omega)
      have HC := Lib.hid hck
      clear hck
      go_wp2_with fail
      go_ret
      exact ⟨ret1 (by rw [HC.out]; rfl), hb⟩
theorem alike_any (a b : List UInt8) (w : World) (ha : a.length ≤ 140737488351232) (hb : b.length ≤ 140737488351232) :
    Calls Try.prog 66 #[.string ⟨a.toArray⟩, .string ⟨b.toArray⟩] w fun e w' => e = .returned (.int .i64 (common a b : Nat)) ∧ Below w.heap.size w w' := by
  go_enter Try.func66, Try.ntmps66
  go_wp2_with fail
  go_loopw [5] (fun i wr => ∃ k : Nat, k ≤ a.length ∧ k ≤ b.length ∧ i = .int .i64 k ∧ a.take k = b.take k ∧ Below w.heap.size w wr) (fun i _ => a.length - (intOf i).toNat)
  case atStart => exact ⟨0, by omega, by omega, rfl, by simp, Below.refl _ _⟩
  case round =>
    obtain ⟨k, hka', hkb', rfl, htk, hb⟩ := hrel
    have HT := Lib.hid htk
    clear htk
    by_cases hka : (k : Int) < (a.length : Int)
    · by_cases hkb : (k : Int) < (b.length : Int)
      · have i1 := fun W => at_of a k (by omega) W
        have i2 := fun W => at_of b k (by omega) W
        by_cases hx : ((a.getD k 0).toNat : Int) = ((b.getD k 0).toNat : Int)
        · have htk2 : a.take (k + 1) = b.take (k + 1) := by
            rw [take_getD a k (by omega), take_getD b k (by omega), HT.out, UInt8.toNat_inj.1 (Int.ofNat.inj hx)]
          have HT2 := Lib.hid htk2
          rw [hx] at i1
          clear htk2
          generalize ((b.getD k 0).toNat : Int) = y at *
          clear hx
          go_wp2_with fail
          go_quiet (fail)
          go_wp2_with fail
          go_roundw
          case rel => exact ⟨k + 1, by omega, by omega, by go_num, HT2.out, below_drewN hb _⟩
          case measure => simp [intOf]; omega
        · have hne : a.getD k 0 ≠ b.getD k 0 := fun e => hx (by rw [e])
          have hck : common a b = k := common_of k a b (by omega) (by omega) HT.out (fun _ _ => hne)
          have HC := Lib.hid hck
          have hxb : (((a.getD k 0).toNat : Int) == ((b.getD k 0).toNat : Int)) = false := by simpa using hx
          clear hck hne
          generalize ((a.getD k 0).toNat : Int) = x at *
          generalize ((b.getD k 0).toNat : Int) = y at *
          go_wp2_with fail
          go_quiet (fail)
          go_wp2_with fail
          go_ret
          exact ⟨ret1 (by rw [HC.out]; rfl), below_drewN hb _⟩
      · have hck : common a b = k := common_of k a b (by omega) (by omega) HT.out (fun h1 h2 => by omega)
        have HC := Lib.hid hck
        have e2 := decide_eq_false hkb
        have e3 : decide (k < b.length) = false := decide_eq_false (by omega)
        clear hck
        go_wp2_with fail
        go_quiet (fail)
        go_wp2_with fail
        go_ret
        exact ⟨ret1 (by rw [HC.out]; rfl), below_drewN hb _⟩
    · have hck : common a b = k := common_of k a b (by omega) (by omega) HT.out (fun h1 h2 => by omega)
      have HC := Lib.hid hck
      have e2 := decide_eq_false hka
      have e3 : decide (k < a.length) = false := decide_eq_false (by omega)
      clear hck
      go_wp2_with fail
      go_quiet (fail)
      go_wp2_with fail
      go_ret
      exact ⟨ret1 (by rw [HC.out]; rfl), below_drewN hb _⟩
end Go.Proofs.Ytanaoepakllohaa
