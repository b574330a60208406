/- The walks of what the statements on rows ask: whether lists are the same, whether they are too great, the chapter's span. -/
import Derived.Test.YtfkjdjdgcegniaaRowsG
namespace Go.Proofs.Ytfkjdjdgcegniaa
set_option maxRecDepth 16000
open Go.RowKit Spoor
set_option linter.unusedVariables false

theorem RowS.sl {g cap : Nat} {l : List Sp} {w : World} {n : Nat} (h : RowS g 0 l w) (hn : l.length = n) (hc : n ≤ cap) (hm : cap ≤ maxLen) : SlS (.slice (some ⟨g, 0, none⟩) n cap) l w :=
  ⟨some ⟨g, 0, none⟩, cap, by rw [hn], by omega, hm, fun _ => ⟨g, 0, rfl, h⟩⟩
theorem SpAt.row {g : Nat} {x : Sp} {w : World} (h : SpAt g x w) : RowS g 0 [x] w := by
  refine ⟨h.lt, fun i hi => ?_⟩
  obtain rfl : i = 0 := by simpa using hi
  intro j v hv
  obtain ⟨c0, c1, c2, c3, c4, c5, c6, c7⟩ := h.cell
  have hj : j < 8 := by
    have := (List.getElem?_eq_some_iff.1 hv).1
    simpa [spRow] using this
  simp only [Nat.zero_mul, Nat.zero_add, Nat.add_zero] at *
  match j, hj, hv with
  | 0, _, hv => simp [spRow] at hv; rw [← hv]; exact c0
  | 1, _, hv => simp [spRow] at hv; rw [← hv]; exact c1
  | 2, _, hv => simp [spRow] at hv; rw [← hv]; exact c2
  | 3, _, hv => simp [spRow] at hv; rw [← hv]; exact c3
  | 4, _, hv => simp [spRow] at hv; rw [← hv]; exact c4
  | 5, _, hv => simp [spRow] at hv; rw [← hv]; exact c5
  | 6, _, hv => simp [spRow] at hv; rw [← hv]; exact c6
  | 7, _, hv => simp [spRow] at hv; rw [← hv]; exact c7
set_option maxHeartbeats 4000000 in
theorem sameSpans_any (s t : Value) (l m : List Sp) (w : World) (hs : SlS s l w) (ht : SlS t m w) :
    Calls Try.prog 21 #[s, t] w fun e w' => e = .returned (.bool (decide (l = m))) ∧ Below w.heap.size w w' := by
  obtain ⟨A, cap, rfl, h1, h2, h3⟩ := hs
  obtain ⟨A2, cap2, rfl, k1, k2, k3⟩ := ht
  unfold maxLen at h2 k2
  obtain ⟨R, hR⟩ : ∃ R, decide (l = m) = R := ⟨_, rfl⟩
  rw [hR]
  have HR := Lib.hid hR
  clear hR
  by_cases hlm : l.length = m.length
  · have H3 := Lib.hid h3
    have K3 := Lib.hid k3
    obtain ⟨n, hn⟩ : ∃ n, l.length = n := ⟨_, rfl⟩
    have HN := Lib.hid hn
    have HM := Lib.hid (hlm.symm.trans hn)
    rw [← hlm, hn] at k1 ⊢
    rw [hn] at h1
    clear h3 k3 hn hlm
    go_enter Try.func21, Try.ntmps21
    go_wp2_with fail
    go_loopw [5] (fun i wr => ∃ k : Nat, k ≤ n ∧ i = .int .i64 k ∧ l.take k = m.take k ∧ Below w.heap.size w wr) (fun i _ => n - (intOf i).toNat)
    case atStart => exact ⟨0, by omega, rfl, by simp, Below.refl _ _⟩
    case round =>
      obtain ⟨k, hk, rfl, htk, hb⟩ := hrel
      have HT := Lib.hid htk
      clear htk
      by_cases hlt : k < n
      · obtain ⟨b, o, rfl, hrow⟩ := H3.out (by rw [HN.out]; omega)
        obtain ⟨b2, o2, rfl, hrow2⟩ := K3.out (by rw [HM.out]; omega)
        have hrow := hrow.later hb hrow.1
        have hrow2 := hrow2.later hb hrow2.1
        obtain ⟨x0, x1, x2, x3, x4, x5, x6, x7⟩ := hrow.cells (i := k) (by rw [HN.out]; exact hlt)
        obtain ⟨y0, y1, y2, y3, y4, y5, y6, y7⟩ := hrow2.cells (i := k) (by rw [HM.out]; exact hlt)
        have hst := same_takeS (l := l) (m := m) (by rw [HN.out, HM.out]) (k := k) (by rw [HN.out]; exact hlt) HT.out
        have HS := Lib.hid hst
        have ne := fun W => neq_sp (l.getD k Sp.zero) (m.getD k Sp.zero) W
        have lt1 := hrow.1
        have lt2 := hrow2.1
        clear hst hrow hrow2
        by_cases he : l.getD k Sp.zero = m.getD k Sp.zero
        · rw [decide_eq_true he] at ne
          have HY := Lib.hid (HS.out.2 he)
          clear he HS
          generalize l.getD k Sp.zero = c at *
          generalize m.getD k Sp.zero = d at *
          unfold spVal at ne
          go_wp2_with fail
          go_quiet (fail)
          go_wp2_with fail
          go_roundw
          case rel => exact ⟨k + 1, by omega, by go_num, HY.out, _root_.Go.below_drewN hb _⟩
          case measure => simp [intOf]; omega
        · rw [decide_eq_false he] at ne
          have hno : R = false := by rw [← HR.out]; exact decide_eq_false (fun e => he (by rw [e]))
          clear he HS
          generalize l.getD k Sp.zero = c at *
          generalize m.getD k Sp.zero = d at *
          unfold spVal at ne
          subst hno
          go_wp2_with fail
          go_quiet (fail)
          go_wp2_with fail
          go_ret
          exact ⟨rfl, _root_.Go.below_drewN hb _⟩
      · obtain rfl : k = n := by omega
        have hyes : R = true := by
          rw [← HR.out]
          refine decide_eq_true ?_
          have h := HT.out
          rwa [List.take_of_length_le (by rw [HN.out]; exact Nat.le_refl _), List.take_of_length_le (by rw [HM.out]; exact Nat.le_refl _)] at h
        subst hyes
        go_wp2_with fail
        go_ret
        exact ⟨rfl, hb⟩
  · have hno : R = false := by rw [← HR.out]; exact decide_eq_false (fun e => hlm (by rw [e]))
    subst hno
    have hne : ((l.length : Int) != (m.length : Int)) = true := by simp; omega
    go_enter Try.func21, Try.ntmps21
    go_wp2_with fail
    go_ret
    exact ⟨rfl, Below.refl _ _⟩
theorem neq_ce (x y : Ce) (W : World) : (binOp .neq 25 (ceVal x) (ceVal y)).run Try.prog W = .ok (.bool (!decide (x = y))) W := by
  unfold ceVal
  go_simp
  obtain ⟨a1, a2, a3⟩ := x
  obtain ⟨b1, b2, b3⟩ := y
  simp only [Ce.mk.injEq]
  by_cases h1 : a1 = b1 <;> by_cases h2 : a2 = b2 <;> by_cases h3 : a3 = b3 <;> simp [*]
theorem same_take {l m : List Ce} (hlm : l.length = m.length) {k : Nat} (hk : k < l.length) (h : l.take k = m.take k) : (l.take (k + 1) = m.take (k + 1)) ↔ l.getD k Ce.zero = m.getD k Ce.zero := by
  rw [take_ce l k hk, take_ce m k (by omega), h, List.append_cancel_left_eq]
  simp
set_option maxHeartbeats 4000000 in
theorem sameCells_any (s t : Value) (l m : List Ce) (w : World) (hs : SlAt s l w) (ht : SlAt t m w) :
    Calls Try.prog 16 #[s, t] w fun e w' => e = .returned (.bool (decide (l = m))) ∧ Below w.heap.size w w' := by
  obtain ⟨A, cap, rfl, h1, h2, h3⟩ := hs
  obtain ⟨A2, cap2, rfl, k1, k2, k3⟩ := ht
  unfold maxLen at h2 k2
  obtain ⟨R, hR⟩ : ∃ R, decide (l = m) = R := ⟨_, rfl⟩
  rw [hR]
  have HR := Lib.hid hR
  clear hR
  by_cases hlm : l.length = m.length
  · have H3 := Lib.hid h3
    have K3 := Lib.hid k3
    obtain ⟨n, hn⟩ : ∃ n, l.length = n := ⟨_, rfl⟩
    have HN := Lib.hid hn
    have HM := Lib.hid (hlm.symm.trans hn)
    rw [← hlm, hn] at k1 ⊢
    rw [hn] at h1
    clear h3 k3 hn hlm
    go_enter Try.func16, Try.ntmps16
    go_wp2_with fail
    go_loopw [5] (fun i wr => ∃ k : Nat, k ≤ n ∧ i = .int .i64 k ∧ l.take k = m.take k ∧ Below w.heap.size w wr) (fun i _ => n - (intOf i).toNat)
    case atStart => exact ⟨0, by omega, rfl, by simp, Below.refl _ _⟩
    case round =>
      obtain ⟨k, hk, rfl, htk, hb⟩ := hrel
      have HT := Lib.hid htk
      clear htk
      by_cases hlt : k < n
      · obtain ⟨b, o, rfl, hrow⟩ := H3.out (by rw [HN.out]; omega)
        obtain ⟨b2, o2, rfl, hrow2⟩ := K3.out (by rw [HM.out]; omega)
        have hrow := hrow.later hb hrow.1
        have hrow2 := hrow2.later hb hrow2.1
        obtain ⟨x0, x1, x2⟩ := hrow.cells (i := k) (by rw [HN.out]; exact hlt)
        obtain ⟨y0, y1, y2⟩ := hrow2.cells (i := k) (by rw [HM.out]; exact hlt)
        have hst := same_take (l := l) (m := m) (by rw [HN.out, HM.out]) (k := k) (by rw [HN.out]; exact hlt) HT.out
        have HS := Lib.hid hst
        have ne := fun W => neq_ce (l.getD k Ce.zero) (m.getD k Ce.zero) W
        have lt1 := hrow.1
        have lt2 := hrow2.1
        clear hst hrow hrow2
        by_cases he : l.getD k Ce.zero = m.getD k Ce.zero
        · rw [decide_eq_true he] at ne
          have HY := Lib.hid (HS.out.2 he)
          clear he HS
          generalize l.getD k Ce.zero = c at *
          generalize m.getD k Ce.zero = d at *
          unfold ceVal at ne
          go_wp2_with fail
          go_quiet (fail)
          go_wp2_with fail
          go_roundw
          case rel => exact ⟨k + 1, by omega, by go_num, HY.out, _root_.Go.below_drewN hb _⟩
          case measure => simp [intOf]; omega
        · rw [decide_eq_false he] at ne
          have hno : R = false := by rw [← HR.out]; exact decide_eq_false (fun e => he (by rw [e]))
          clear he HS
          generalize l.getD k Ce.zero = c at *
          generalize m.getD k Ce.zero = d at *
          unfold ceVal at ne
          subst hno
          go_wp2_with fail
          go_quiet (fail)
          go_wp2_with fail
          go_ret
          exact ⟨rfl, _root_.Go.below_drewN hb _⟩
      · obtain rfl : k = n := by omega
        have hyes : R = true := by
          rw [← HR.out]
          refine decide_eq_true ?_
          have h := HT.out
          rwa [List.take_of_length_le (by rw [HN.out]; exact Nat.le_refl _), List.take_of_length_le (by rw [HM.out]; exact Nat.le_refl _)] at h
        subst hyes
        go_wp2_with fail
        go_ret
        exact ⟨rfl, hb⟩
  · have hno : R = false := by rw [← HR.out]; exact decide_eq_false (fun e => hlm (by rw [e]))
    subst hno
    have hne : ((l.length : Int) != (m.length : Int)) = true := by simp; omega
    go_enter Try.func16, Try.ntmps16
    go_wp2_with fail
    go_ret
    exact ⟨rfl, Below.refl _ _⟩
def bigS (x : Sp) : Bool := decide ((100 : Int) < x.sv.length) || decide ((100 : Int) < x.ho.length) || decide ((100 : Int) < x.no.length)
def farS (l : List Sp) (many : Nat) : Bool := decide ((many : Int) < l.length) || l.any bigS
theorem bigS_take (l : List Sp) (k : Nat) (h : k < l.length) : (l.take (k + 1)).any bigS = ((l.take k).any bigS || bigS (l.getD k Sp.zero)) := by
  rw [take_sp l k h, List.any_append]
  simp
theorem bigS_at (l : List Sp) (many k : Nat) (h : k < l.length) (hg : bigS (l.getD k Sp.zero) = true) : farS l many = true := by
  unfold farS
  have : l.any bigS = true := by
    rw [← List.take_append_drop (k + 1) l, List.any_append, bigS_take l k h, hg, Bool.or_true, Bool.true_or]
  rw [this, Bool.or_true]
set_option maxHeartbeats 4000000 in
theorem beyondS_any (s : Value) (l : List Sp) (many : Nat) (w : World) (hs : SlS s l w) (hf : ∀ x ∈ l, WfS x) (hm : many ≤ 1000) :
    Calls Try.prog 8 #[s, .int .i64 many] w fun e w' => e = .returned (.bool (farS l many)) ∧ Below w.heap.size w w' := by
  obtain ⟨A, cap, rfl, h1, h2, h3⟩ := hs
  unfold maxLen at h2
  obtain ⟨R, hR⟩ : ∃ R, farS l many = R := ⟨_, rfl⟩
  rw [hR]
  have HR := Lib.hid hR
  have H3 := Lib.hid h3
  have HF := Lib.hid hf
  obtain ⟨n, hn⟩ : ∃ n, l.length = n := ⟨_, rfl⟩
  have HN := Lib.hid hn
  rw [hn] at h1 ⊢
  clear hR h3 hf hn
  by_cases hg : (many : Int) < (n : Int)
  · have hyes : R = true := by rw [← HR.out]; unfold farS; rw [HN.out, decide_eq_true hg, Bool.true_or]
    subst hyes
    go_enter Try.func8, Try.ntmps8
    go_wp2_with fail
    go_ret
    exact ⟨rfl, Below.refl _ _⟩
  · go_enter Try.func8, Try.ntmps8
    go_wp2_with fail
    go_loopw [5] (fun i wr => ∃ k : Nat, k ≤ n ∧ i = .int .i64 k ∧ (l.take k).any bigS = false ∧ wr = w) (fun i _ => n - (intOf i).toNat)
    case atStart => exact ⟨0, by omega, rfl, by simp, rfl⟩
    case round =>
      obtain ⟨k, hk, rfl, htk, rfl⟩ := hrel
      by_cases hlt : k < n
      · have hkl : k < l.length := by rw [HN.out]; exact hlt
        obtain ⟨bb, o, rfl, hrow⟩ := H3.out (by rw [HN.out]; omega)
        obtain ⟨x0, x1, x2, x3, x4, x5, x6, x7⟩ := hrow.cells hkl
        obtain ⟨f0, f1, f2⟩ := getS_lt HF.out hkl
        unfold maxLen at f0 f1 f2
        have hst := bigS_take l k hkl
        rw [htk, Bool.false_or] at hst
        have HS := Lib.hid hst
        have HY := Lib.hid (bigS_at l many k hkl)
        clear hst htk hrow hkl
        by_cases g0 : (100 : Int) < ((l.getD k Sp.zero).sv.length : Int)
        · have hyes : R = true := by rw [← HR.out]; exact HY.out (by unfold bigS; rw [decide_eq_true g0]; simp)
          clear HS HY
          generalize l.getD k Sp.zero = c at *
          subst hyes
          go_wp2_with fail
          go_ret
          exact ⟨rfl, Below.refl _ _⟩
        · skip
          by_cases g1 : (100 : Int) < ((l.getD k Sp.zero).ho.length : Int)
          · have hyes : R = true := by rw [← HR.out]; exact HY.out (by unfold bigS; rw [decide_eq_true g1]; simp)
            have e0 := decide_eq_false g0
            clear HS HY
            generalize l.getD k Sp.zero = c at *
            subst hyes
            go_wp2_with fail
            go_ret
            exact ⟨rfl, Below.refl _ _⟩
          · skip
            by_cases g2 : (100 : Int) < ((l.getD k Sp.zero).no.length : Int)
            · have hyes : R = true := by rw [← HR.out]; exact HY.out (by unfold bigS; rw [decide_eq_true g2]; simp)
              have e0 := decide_eq_false g0
              have e1 := decide_eq_false g1
              clear HS HY
              generalize l.getD k Sp.zero = c at *
              subst hyes
              go_wp2_with fail
              go_ret
              exact ⟨rfl, Below.refl _ _⟩
            · have hno : (l.take (k + 1)).any bigS = false := by rw [HS.out]; unfold bigS; simp only [decide_eq_false g0, decide_eq_false g1, decide_eq_false g2]; rfl
              have HNO := Lib.hid hno
              have e0 := decide_eq_false g0
              have e1 := decide_eq_false g1
              have e2 := decide_eq_false g2
              clear HS HY hno
              generalize l.getD k Sp.zero = c at *
              go_wp2_with fail
              go_roundw
              case rel => exact ⟨k + 1, by omega, by go_num, HNO.out, trivial⟩
              case measure => simp [intOf]; omega
      · obtain rfl : k = n := by omega
        have hno : R = false := by
          rw [← HR.out]
          unfold farS
          rw [HN.out, decide_eq_false (by omega), Bool.false_or]
          rw [List.take_of_length_le (by rw [HN.out]; exact Nat.le_refl _)] at htk
          exact htk
        subst hno
        clear htk
        go_wp2_with fail
        go_ret
        exact ⟨rfl, Below.refl _ _⟩
def bigC (x : Ce) : Bool := decide ((300 : Int) < x.k.length) || decide ((300 : Int) < x.v.length)
def farC (l : List Ce) (many : Nat) : Bool := decide ((many : Int) < l.length) || l.any bigC
theorem bigC_take (l : List Ce) (k : Nat) (h : k < l.length) : (l.take (k + 1)).any bigC = ((l.take k).any bigC || bigC (l.getD k Ce.zero)) := by
  rw [take_ce l k h, List.any_append]
  simp
theorem bigC_at (l : List Ce) (many k : Nat) (h : k < l.length) (hg : bigC (l.getD k Ce.zero) = true) : farC l many = true := by
  unfold farC
  have : l.any bigC = true := by
    rw [← List.take_append_drop (k + 1) l, List.any_append, bigC_take l k h, hg, Bool.or_true, Bool.true_or]
  rw [this, Bool.or_true]
set_option maxHeartbeats 4000000 in
theorem beyondC_any (s : Value) (l : List Ce) (many : Nat) (w : World) (hs : SlAt s l w) (hf : ∀ x ∈ l, WfC x) (hm : many ≤ 1000) :
    Calls Try.prog 9 #[s, .int .i64 many] w fun e w' => e = .returned (.bool (farC l many)) ∧ Below w.heap.size w w' := by
  obtain ⟨A, cap, rfl, h1, h2, h3⟩ := hs
  unfold maxLen at h2
  obtain ⟨R, hR⟩ : ∃ R, farC l many = R := ⟨_, rfl⟩
  rw [hR]
  have HR := Lib.hid hR
  have H3 := Lib.hid h3
  have HF := Lib.hid hf
  obtain ⟨n, hn⟩ : ∃ n, l.length = n := ⟨_, rfl⟩
  have HN := Lib.hid hn
  rw [hn] at h1 ⊢
  clear hR h3 hf hn
  by_cases hg : (many : Int) < (n : Int)
  · have hyes : R = true := by rw [← HR.out]; unfold farC; rw [HN.out, decide_eq_true hg, Bool.true_or]
    subst hyes
    go_enter Try.func9, Try.ntmps9
    go_wp2_with fail
    go_ret
    exact ⟨rfl, Below.refl _ _⟩
  · go_enter Try.func9, Try.ntmps9
    go_wp2_with fail
    go_loopw [5] (fun i wr => ∃ k : Nat, k ≤ n ∧ i = .int .i64 k ∧ (l.take k).any bigC = false ∧ wr = w) (fun i _ => n - (intOf i).toNat)
    case atStart => exact ⟨0, by omega, rfl, by simp, rfl⟩
    case round =>
      obtain ⟨k, hk, rfl, htk, rfl⟩ := hrel
      by_cases hlt : k < n
      · have hkl : k < l.length := by rw [HN.out]; exact hlt
        obtain ⟨bb, o, rfl, hrow⟩ := H3.out (by rw [HN.out]; omega)
        obtain ⟨x0, x1, x2⟩ := hrow.cells hkl
        obtain ⟨f0, f1, f2⟩ := getD_lt HF.out hkl
        unfold maxLen at f0 f1 
        have hst := bigC_take l k hkl
        rw [htk, Bool.false_or] at hst
        have HS := Lib.hid hst
        have HY := Lib.hid (bigC_at l many k hkl)
        clear hst htk hrow hkl
        by_cases g0 : (300 : Int) < ((l.getD k Ce.zero).k.length : Int)
        · have hyes : R = true := by rw [← HR.out]; exact HY.out (by unfold bigC; rw [decide_eq_true g0]; simp)
          clear HS HY
          generalize l.getD k Ce.zero = c at *
          subst hyes
          go_wp2_with fail
          go_ret
          exact ⟨rfl, Below.refl _ _⟩
        · skip
          by_cases g1 : (300 : Int) < ((l.getD k Ce.zero).v.length : Int)
          · have hyes : R = true := by rw [← HR.out]; exact HY.out (by unfold bigC; rw [decide_eq_true g1]; simp)
            have e0 := decide_eq_false g0
            clear HS HY
            generalize l.getD k Ce.zero = c at *
            subst hyes
            go_wp2_with fail
            go_ret
            exact ⟨rfl, Below.refl _ _⟩
          · have hno : (l.take (k + 1)).any bigC = false := by rw [HS.out]; unfold bigC; simp only [decide_eq_false g0, decide_eq_false g1]; rfl
            have HNO := Lib.hid hno
            have e0 := decide_eq_false g0
            have e1 := decide_eq_false g1
            clear HS HY hno
            generalize l.getD k Ce.zero = c at *
            go_wp2_with fail
            go_roundw
            case rel => exact ⟨k + 1, by omega, by go_num, HNO.out, trivial⟩
            case measure => simp [intOf]; omega
      · obtain rfl : k = n := by omega
        have hno : R = false := by
          rw [← HR.out]
          unfold farC
          rw [HN.out, decide_eq_false (by omega), Bool.false_or]
          rw [List.take_of_length_le (by rw [HN.out]; exact Nat.le_refl _)] at htk
          exact htk
        subst hno
        clear htk
        go_wp2_with fail
        go_ret
        exact ⟨rfl, Below.refl _ _⟩
def oneSp : Sp := ⟨3, 1, 0, [97], [104], 10, 0, []⟩
theorem one_any (w : World) : Calls Try.prog 26 #[] w fun e w' => e = .returned (spVal oneSp) ∧ Below w.heap.size w w' := by
  go_enter Try.func26, Try.ntmps26
  go_wp2_with fail
  refine bodyPost_ret (v := spVal oneSp) ?_ rfl ⟨rfl, ?_⟩
  · simp [results, spVal, oneSp, Try.results26, go_sem, *]
  · exact (Below.refl _ _).alloc (Nat.le_refl _) _
theorem one_ok : oneSp.ok = true := by decide +kernel
theorem one_first : takeR (lastOf []) 20 [] [oneSp, oneSp] = [oneSp] := by
  have h1 : lateB oneSp.st 20 = false := by decide
  have h2 : ∀ key, lastOf [] key = none := fun key => rfl
  simp [takeR, taken, one_ok, h1, h2, freeR]
theorem one_again : takeR (lastOf (cellsOf [oneSp])) 20 [] [oneSp] = [] := by
  have h1 : takes 20 oneSp = true := by unfold takes; rw [one_ok]; decide
  have := take_part 20 [oneSp] (by simpa using h1) [oneSp] [] (by simp) (by simp) (by simp)
  rw [this]
  simp [sameIds_self]
theorem one_late : takeR (lastOf (cellsOf [oneSp])) 70 [] [oneSp] = [] := by
  have h1 : lateB oneSp.st 70 = true := by decide
  simp [takeR, taken, h1]
end Go.Proofs.Ytfkjdjdgcegniaa
