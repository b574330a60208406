/- law18's SameCells and Beyond. -/
import Derived.Test.YtoglloafpnopaaaGreatTlF
set_option linter.unusedSimpArgs false
set_option linter.unusedVariables false
namespace Go.Proofs.YtoglloafpnopaaaGreat
set_option maxRecDepth 16000
open Go.RowKit Spoor
set_option linter.unusedVariables false
set_option linter.unusedSimpArgs false

set_option maxHeartbeats 4000000 in
theorem sameT_any (s t : Value) (l m : List Ce) (w : World) (hs : SlAt s l w) (ht : SlAt t m w) :
 Calls Tryz.prog 16 #[s, t] w fun e w' => e = .returned (.bool (decide (l = m))) ∧ Below w.heap.size w w' := by
 obtain ⟨A, cap, rfl, h1, h2, h3⟩ := hs
 obtain ⟨A2, cap2, rfl, k1, k2, k3⟩ := ht
 unfold maxLen at h2 k2
 obtain ⟨R, hR⟩ : ∃ R, decide (l = m) = R := ⟨_, rfl⟩
 rw [hR]
 have HR := Lib.hid hR
 clear hR
 by_cases hlm : l.length = m.length
 · have H3 := Lib.hid h3
   have K3 := Lib.hid k3
   obtain ⟨n, hn⟩ : ∃ n, l.length = n := ⟨_, rfl⟩
   have HN := Lib.hid hn
   have HM := Lib.hid (hlm.symm.trans hn)
   rw [← hlm, hn] at k1 ⊢
   rw [hn] at h1
   clear h3 k3 hn hlm
   go_enter Tryz.func16, Tryz.ntmps16
   go_wp2_with fail
   go_loopw [5] (fun i wr => ∃ k : Nat, k ≤ n ∧ i = .int .i64 k ∧ l.take k = m.take k ∧ Below w.heap.size w wr) (fun i _ => n - (intOf i).toNat)
   case atStart => exact ⟨0, by omega, rfl, by simp, Below.refl _ _⟩
   case round =>
    obtain ⟨k, hk, rfl, htk, hb⟩ := hrel
    have HT := Lib.hid htk
    clear htk
    by_cases hlt : k < n
    · obtain ⟨b, o, rfl, hrow⟩ := H3.out (by rw [HN.out]; omega)
      obtain ⟨b2, o2, rfl, hrow2⟩ := K3.out (by rw [HM.out]; omega)
      have hrow := hrow.later hb hrow.1
      have hrow2 := hrow2.later hb hrow2.1
      obtain ⟨x0, x1, x2⟩ := hrow.cells (i := k) (by rw [HN.out]; exact hlt)
      obtain ⟨y0, y1, y2⟩ := hrow2.cells (i := k) (by rw [HM.out]; exact hlt)
      have hst := same_take (l := l) (m := m) (by rw [HN.out, HM.out]) (k := k) (by rw [HN.out]; exact hlt) HT.out
      have HS := Lib.hid hst
      have ne := fun W => neq_ce (l.getD k Ce.zero) (m.getD k Ce.zero) W
      have lt1 := hrow.1
      have lt2 := hrow2.1
      clear hst hrow hrow2
      by_cases he : l.getD k Ce.zero = m.getD k Ce.zero
      · rw [decide_eq_true he] at ne
        have HY := Lib.hid (HS.out.2 he)
        clear he HS
        generalize l.getD k Ce.zero = c at *
        generalize m.getD k Ce.zero = d at *
        unfold ceVal at ne
        go_wp2_with fail
        go_quiet (fail)
        go_wp2_with fail
        go_roundw
        case rel => exact ⟨k + 1, by omega, by go_num, HY.out, _root_.Go.below_drewN hb _⟩
        case measure => simp [intOf]; omega
      · rw [decide_eq_false he] at ne
        have hno : R = false := by rw [← HR.out]; exact decide_eq_false (fun e => he (by rw [e]))
        clear he HS
        generalize l.getD k Ce.zero = c at *
        generalize m.getD k Ce.zero = d at *
        unfold ceVal at ne
        subst hno
        go_wp2_with fail
        go_quiet (fail)
        go_wp2_with fail
        go_ret
        exact ⟨rfl, _root_.Go.below_drewN hb _⟩
    · obtain rfl : k = n := by omega
      have hyes : R = true := by
       rw [← HR.out]
       refine decide_eq_true ?_
       have h := HT.out
       rwa [List.take_of_length_le (by rw [HN.out]; exact Nat.le_refl _), List.take_of_length_le (by rw [HM.out]; exact Nat.le_refl _)] at h
      subst hyes
      go_wp2_with fail
      go_ret
      exact ⟨rfl, hb⟩
 · have hno : R = false := by rw [← HR.out]; exact decide_eq_false (fun e => hlm (by rw [e]))
   subst hno
   have hne : ((l.length : Int) != (m.length : Int)) = true := by simp; omega
   go_enter Tryz.func16, Tryz.ntmps16
   go_wp2_with fail
   go_ret
   exact ⟨rfl, Below.refl _ _⟩
/-- more than is gone through? -/
def beyC (c : Ce) : Bool := decide ((300 : Int) < c.k.length) || decide ((300 : Int) < c.v.length)
def beyL (l : List Ce) (most : Nat) : Bool := decide (most < l.length) || l.any beyC
theorem beyT_take (l : List Ce) (k : Nat) (h : k < l.length) : (l.take (k + 1)).any beyC = ((l.take k).any beyC || beyC (l.getD k Ce.zero)) := by
 rw [take_ce l k h, List.any_append]
 simp
theorem beyT_yes (l : List Ce) (k : Nat) (h : (l.take k).any beyC = true) : l.any beyC = true := by
 rw [← List.take_append_drop k l, List.any_append, h, Bool.true_or]
set_option maxHeartbeats 4000000 in
theorem beyL_any (s : Value) (l : List Ce) (most : Nat) (w : World) (hs : SlAt s l w) (hf : ∀ c ∈ l, WfC c) (hm : most ≤ 100000) :
 Calls Tryz.prog 26 #[s, .int .i64 most] w fun e w' => e = .returned (.bool (beyL l most)) ∧ Below w.heap.size w w' := by
 obtain ⟨A, cap, rfl, h1, h2, h3⟩ := hs
 unfold maxLen at h2
 obtain ⟨R, hR⟩ : ∃ R, beyL l most = R := ⟨_, rfl⟩
 rw [hR]
 have HR := Lib.hid hR
 clear hR
 have H3 := Lib.hid h3
 have HF := Lib.hid hf
 obtain ⟨n, hn⟩ : ∃ n, l.length = n := ⟨_, rfl⟩
 have HN := Lib.hid hn
 rw [hn] at h1 ⊢
 clear h3 hn hf
 by_cases hmn : (most : Int) < (n : Int)
 · have hyes : R = true := by
    rw [← HR.out, beyL, HN.out, decide_eq_true (by omega), Bool.true_or]
   subst hyes
   go_enter Tryz.func26, Tryz.ntmps26
   go_wp2_with fail
   go_ret
   exact ⟨rfl, Below.refl _ _⟩
 · have hR2 : R = l.any beyC := by rw [← HR.out, beyL, HN.out, decide_eq_false (by omega), Bool.false_or]
   have HR2 := Lib.hid hR2
   clear hR2
   go_enter Tryz.func26, Tryz.ntmps26
   go_wp2_with fail
   go_loopw [5] (fun i wr => ∃ k : Nat, k ≤ n ∧ i = .int .i64 k ∧ (l.take k).any beyC = false ∧ Below w.heap.size w wr) (fun i _ => n - (intOf i).toNat)
   case atStart => exact ⟨0, by omega, rfl, by simp, Below.refl _ _⟩
   case round =>
    obtain ⟨k, hk, rfl, htk, hb⟩ := hrel
    by_cases hlt : k < n
    · have hkl : k < l.length := by rw [HN.out]; exact hlt
      obtain ⟨b, o, rfl, hrow⟩ := H3.out (by rw [HN.out]; omega)
      have hrow := hrow.later hb hrow.1
      obtain ⟨x0, x1, x2⟩ := hrow.cells hkl
      obtain ⟨f1, f2, f3⟩ := getD_lt HF.out hkl
      unfold maxLen at f1 f2
      have hst := beyT_take l k hkl
      rw [htk, Bool.false_or] at hst
      have HS := Lib.hid hst
      clear hst htk hrow
      by_cases g1 : (300 : Int) < ((l.getD k Ce.zero).k.length : Int)
      · have hyes : R = true := by
         rw [HR2.out]; exact beyT_yes l (k + 1) (by rw [HS.out, beyC, decide_eq_true g1, Bool.true_or])
        clear HS
        generalize l.getD k Ce.zero = c at *
        subst hyes
        go_wp2_with fail
        go_ret
        exact ⟨rfl, hb⟩
      · by_cases g2 : (300 : Int) < ((l.getD k Ce.zero).v.length : Int)
        · have hyes : R = true := by
           rw [HR2.out]; exact beyT_yes l (k + 1) (by rw [HS.out, beyC, decide_eq_true g2, Bool.or_true])
          have e1 := decide_eq_false g1
          clear HS
          generalize l.getD k Ce.zero = c at *
          subst hyes
          go_wp2_with fail
          go_ret
          exact ⟨rfl, hb⟩
        · have hno : (l.take (k + 1)).any beyC = false := by rw [HS.out, beyC, decide_eq_false g1, decide_eq_false g2, Bool.or_false]
          have HNO := Lib.hid hno
          have e1 := decide_eq_false g1
          have e2 := decide_eq_false g2
          clear HS hno
          generalize l.getD k Ce.zero = c at *
          go_wp2_with fail
          go_roundw
          case rel => exact ⟨k + 1, by omega, by go_num, HNO.out, hb⟩
          case measure => simp [intOf]; omega
    · obtain rfl : k = n := by omega
      have hno : R = false := by rw [HR2.out]; rwa [List.take_of_length_le (by rw [HN.out]; exact Nat.le_refl _)] at htk
      clear htk
      subst hno
      go_wp2_with fail
      go_ret
      exact ⟨rfl, hb⟩
end Go.Proofs.YtoglloafpnopaaaGreat
