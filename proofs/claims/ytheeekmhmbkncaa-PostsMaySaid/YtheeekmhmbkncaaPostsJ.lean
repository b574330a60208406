/- The walks of what the statements ask: whether spans and batches are the same, how great a batch is, the chapter's batch. -/
import Derived.Test.YtheeekmhmbkncaaPostsI
import Derived.Test.YtheeekmhmbkncaaPostsO
namespace Go.Proofs.Ytheeekmhmbkncaa
open Go.RowKit Spoor

theorem neq_sp (x y : Sp) (W : World) : (binOp .neq 29 (spVal x) (spVal y)).run Try.prog W = .ok (.bool (!decide (x = y))) W := by
  unfold spVal
  go_simp
  obtain ⟨a1, a2, a3, a4, a5, a6, a7, a8⟩ := x
  obtain ⟨b1, b2, b3, b4, b5, b6, b7, b8⟩ := y
  simp only [Sp.mk.injEq]
  by_cases h1 : a1 = b1 <;> by_cases h2 : a2 = b2 <;> by_cases h3 : a3 = b3 <;> by_cases h4 : a4 = b4 <;> simp [*]
  by_cases h5 : a5 = b5 <;> by_cases h6 : a6 = b6 <;> by_cases h7 : a7 = b7 <;> by_cases h8 : a8 = b8 <;> simp [*]
theorem same_takeS {l m : List Sp} (hlm : l.length = m.length) {k : Nat} (hk : k < l.length) (h : l.take k = m.take k) : (l.take (k + 1) = m.take (k + 1)) ↔ l.getD k Sp.zero = m.getD k Sp.zero := by
  rw [take_sp l k hk, take_sp m k (by omega), h, List.append_cancel_left_eq]
  simp
set_option maxHeartbeats 4000000 in
theorem sameSpans_any (s t : Value) (l m : List Sp) (w : World) (hs : SlS s l w) (ht : SlS t m w) :
    Calls Try.prog 30 #[s, t] w fun e w' => e = .returned (.bool (decide (l = m))) ∧ Below w.heap.size w w' := by
  obtain ⟨A, cap, rfl, h1, h2, h3⟩ := hs
  obtain ⟨A2, cap2, rfl, k1, k2, k3⟩ := ht
  unfold maxLen at h2 k2
  obtain ⟨R, hR⟩ : ∃ R, decide (l = m) = R := ⟨_, rfl⟩
  rw [hR]
  have HR := Lib.hid hR
  clear hR
  by_cases hlm : l.length = m.length
  · have H3 := Lib.hid h3
    have K3 := Lib.hid k3
    obtain ⟨n, hn⟩ : ∃ n, l.length = n := ⟨_, rfl⟩
    have HN := Lib.hid hn
    have HM := Lib.hid (hlm.symm.trans hn)
    rw [← hlm, hn] at k1 ⊢
    rw [hn] at h1
    clear h3 k3 hn hlm
    go_enter Try.func30, Try.ntmps30
    go_wp2_with fail
    go_loopw [5] (fun i wr => ∃ k : Nat, k ≤ n ∧ i = .int .i64 k ∧ l.take k = m.take k ∧ Below w.heap.size w wr) (fun i _ => n - (intOf i).toNat)
    case atStart => exact ⟨0, by omega, rfl, by simp, Below.refl _ _⟩
    case round =>
      obtain ⟨k, hk, rfl, htk, hb⟩ := hrel
      have HT := Lib.hid htk
      clear htk
      by_cases hlt : k < n
      · obtain ⟨b, o, rfl, hrow⟩ := H3.out (by rw [HN.out]; omega)
        obtain ⟨b2, o2, rfl, hrow2⟩ := K3.out (by rw [HM.out]; omega)
        have hrow := hrow.later hb hrow.1
        have hrow2 := hrow2.later hb hrow2.1
        obtain ⟨x0, x1, x2, x3, x4, x5, x6, x7⟩ := hrow.cells (i := k) (by rw [HN.out]; exact hlt)
        obtain ⟨y0, y1, y2, y3, y4, y5, y6, y7⟩ := hrow2.cells (i := k) (by rw [HM.out]; exact hlt)
        have hst := same_takeS (l := l) (m := m) (by rw [HN.out, HM.out]) (k := k) (by rw [HN.out]; exact hlt) HT.out
        have HS := Lib.hid hst
        have ne := fun W => neq_sp (l.getD k Sp.zero) (m.getD k Sp.zero) W
        have lt1 := hrow.1
        have lt2 := hrow2.1
        clear hst hrow hrow2
        by_cases he : l.getD k Sp.zero = m.getD k Sp.zero
        · rw [decide_eq_true he] at ne
          have HY := Lib.hid (HS.out.2 he)
          clear he HS
          generalize l.getD k Sp.zero = c at *
          generalize m.getD k Sp.zero = d at *
          unfold spVal at ne
          go_wp2_with fail
          go_quiet (fail)
          go_wp2_with fail
          go_roundw
          case rel => exact ⟨k + 1, by omega, by go_num, HY.out, _root_.Go.below_drewN hb _⟩
          case measure => simp [intOf]; omega
        · rw [decide_eq_false he] at ne
          have hno : R = false := by rw [← HR.out]; exact decide_eq_false (fun e => he (by rw [e]))
          clear he HS
          generalize l.getD k Sp.zero = c at *
          generalize m.getD k Sp.zero = d at *
          unfold spVal at ne
          subst hno
          go_wp2_with fail
          go_quiet (fail)
          go_wp2_with fail
          go_ret
          exact ⟨rfl, _root_.Go.below_drewN hb _⟩
      · obtain rfl : k = n := by omega
        have hyes : R = true := by
          rw [← HR.out]
          refine decide_eq_true ?_
          have h := HT.out
          rwa [List.take_of_length_le (by rw [HN.out]; exact Nat.le_refl _), List.take_of_length_le (by rw [HM.out]; exact Nat.le_refl _)] at h
        subst hyes
        go_wp2_with fail
        go_ret
        exact ⟨rfl, hb⟩
  · have hno : R = false := by rw [← HR.out]; exact decide_eq_false (fun e => hlm (by rw [e]))
    subst hno
    have hne : ((l.length : Int) != (m.length : Int)) = true := by simp; omega
    go_enter Try.func30, Try.ntmps30
    go_wp2_with fail
    go_ret
    exact ⟨rfl, Below.refl _ _⟩
theorem two_boxesB (a b : Ba) (s t : Value) (w : World) : BaAt w.heap.size a s ((w.alloc (boxB a s)).alloc (boxB b t)) ∧ BaAt (w.heap.size + 1) b t ((w.alloc (boxB a s)).alloc (boxB b t)) ∧ Below w.heap.size w ((w.alloc (boxB a s)).alloc (boxB b t)) := by
  refine ⟨?_, ?_, ((Below.refl _ _).alloc (Nat.le_refl _) _).alloc (by simp) _⟩
  · exact (heap_alloc_old (w.alloc (boxB a s)) _ (by simp)).trans (heap_alloc_new w _)
  · exact heap_new_at _ _ _ (by simp)
set_option maxHeartbeats 4000000 in
theorem sameBatch_any (a b : Ba) (s t : Value) (w : World) (hs : SlS s a.sp w) (ht : SlS t b.sp w) :
    Calls Try.prog 14 #[baVal a s, baVal b t] w fun e w' => e = .returned (.bool (decide (a = b))) ∧ Below w.heap.size w w' := by
  obtain ⟨q1, q2, b1⟩ := two_boxesB a b s t w
  have cs := fun (W : World) (hb : Below w.heap.size w W) => sameSpans_any s t a.sp b.sp W (hs.later hb) (ht.later hb)
  have B1 := Lib.hid b1
  have heq : decide (a = b) = (decide (a.ho = b.ho) && (decide (a.fi = b.fi) && decide (a.sp = b.sp))) := by
    obtain ⟨a1, a2, a3⟩ := a
    obtain ⟨b1, b2, b3⟩ := b
    simp only [Ba.mk.injEq, ← Bool.decide_and]
  rw [heq]
  obtain ⟨A, cap, hse, hsr⟩ := hs
  obtain ⟨A2, cap2, hte, htr⟩ := ht
  unfold boxB at q1 q2 b1 B1
  clear heq b1 hsr htr
  obtain ⟨x0, x1, x2⟩ := q1.cell
  obtain ⟨y0, y1, y2⟩ := q2.cell
  unfold baVal
  subst hse hte
  obtain ⟨ah, af, al⟩ := a
  obtain ⟨bh, bf, bl⟩ := b
  dsimp only at *
  by_cases h1 : ah = bh
  · rw [decide_eq_true h1, Bool.true_and]
    subst h1
    by_cases h2 : af = bf
    · rw [decide_eq_true h2, Bool.true_and]
      subst h2
      have CS := Lib.hid cs
      generalize decide (al = bl) = R at *
      clear cs q1 q2 x0 x1 x2 y0 y1 y2
      go_enter Try.func14, Try.ntmps14
      go_wp2_with fail
      refine (CS.out _ B1.out).mono ?_
      rintro e w2 ⟨rfl, b2⟩
      go_wp2_with fail
      go_ret
      exact ⟨rfl, B1.out.trans (b2.mono B1.out.size)⟩
    · have e2 : (af == bf) = false := beq_eq_false_iff_ne.2 h2
      rw [decide_eq_false h2, Bool.false_and]
      clear cs q1 q2 x0 x1 x2 y0 y1 y2
      go_enter Try.func14, Try.ntmps14
      go_wp2_with fail
      go_ret
      exact ⟨rfl, B1.out⟩
  · have e1 : (ah == bh) = false := beq_eq_false_iff_ne.2 h1
    rw [decide_eq_false h1, Bool.false_and]
    clear cs q1 q2 x0 x1 x2 y0 y1 y2
    go_enter Try.func14, Try.ntmps14
    go_wp2_with fail
    go_ret
    exact ⟨rfl, B1.out⟩
def greatX (x : Sp) : Bool := decide ((500 : Int) < x.sv.length) || (decide ((500 : Int) < x.ho.length) || decide ((500 : Int) < x.no.length))
def greatBa (l : List Sp) : Bool := (l.take 50).any greatX || decide ((50 : Int) < l.length)
theorem anyX_take (l : List Sp) (k : Nat) (h : k < l.length) : (l.take (k + 1)).any greatX = ((l.take k).any greatX || greatX (l.getD k Sp.zero)) := by
  rw [take_sp l k h, List.any_append]
  simp
theorem greatBa_at (l : List Sp) (k : Nat) (h : k < l.length) (hk : k < 50) (hg : greatX (l.getD k Sp.zero) = true) : greatBa l = true := by
  have h1 := anyX_take l k h
  rw [hg, Bool.or_true] at h1
  unfold greatBa
  have : (l.take 50).any greatX = true := by
    rw [← List.take_append_drop (k + 1) (l.take 50), List.any_append, List.take_take, Nat.min_eq_left (by omega), h1, Bool.true_or]
  rw [this, Bool.true_or]
theorem greatBa_no {l : List Sp} (h : greatBa l = false) : l.length ≤ 50 ∧ ∀ x ∈ l, x.sv.length ≤ 500 ∧ x.ho.length ≤ 500 ∧ x.no.length ≤ 500 := by
  unfold greatBa at h
  simp only [Bool.or_eq_false_iff, decide_eq_false_iff_not] at h
  have hl : l.length ≤ 50 := by omega
  refine ⟨hl, fun x hx => ?_⟩
  have h1 := h.1
  rw [List.take_of_length_le hl, List.any_eq_false] at h1
  have h2 := h1 x hx
  simp only [greatX, Bool.or_eq_true, decide_eq_true_eq, not_or] at h2
  omega
theorem greatBa_fits {l : List Sp} (h : greatBa l = false) : ∀ x ∈ l, Fits x := fun x hx => by
  have := (greatBa_no h).2 x hx
  exact ⟨by omega, by omega, by omega⟩
set_option maxHeartbeats 4000000 in
theorem great12_any (b : Ba) (s : Value) (w : World) (hs : SlS s b.sp w) (hf : ∀ x ∈ b.sp, WfS x) :
    Calls Try.prog 9 #[baVal b s] w fun e w' => e = .returned (.bool (greatBa b.sp)) ∧ Below w.heap.size w w' := by
  have q0 := BaAt.boxed b s w
  have b0 := (Below.refl w.heap.size w).alloc (Nat.le_refl _) (boxB b s)
  have hs0 := hs.later b0
  unfold boxB at q0 b0 hs0
  unfold baVal
  generalize b.sp = l at *
  obtain ⟨A, cap, rfl, h1, h2, h3⟩ := hs
  obtain ⟨A0, cap0, he0, _, _, h30⟩ := hs0
  obtain ⟨rfl, rfl⟩ : A = A0 ∧ cap = cap0 := by injection he0 with e1 e2 e3; exact ⟨e1, e3⟩
  unfold maxLen at h2
  obtain ⟨R, hR⟩ : ∃ R, greatBa l = R := ⟨_, rfl⟩
  rw [hR]
  have HR := Lib.hid hR
  have H3 := Lib.hid h30
  have HF := Lib.hid hf
  obtain ⟨n, hn⟩ : ∃ n, l.length = n := ⟨_, rfl⟩
  have HN := Lib.hid hn
  rw [hn] at h1 ⊢
  rw [hn] at q0
  have Q0 := Lib.hid q0
  have B0 := Lib.hid b0
  rw [hn] at b0
  have B1 := Lib.hid b0
  clear hR h3 h30 hn hf he0 q0 b0 B0
  go_enter Try.func9, Try.ntmps9
  go_wp2_with fail
  go_loopw [3] (fun i wr => ∃ k : Nat, k ≤ n ∧ k ≤ 50 ∧ i = .int .i64 k ∧ (l.take k).any greatX = false ∧ Below w.heap.size w wr ∧ wr = w.alloc (.cells #[.int .i64 b.ho, .int .i64 b.fi, .slice A n cap] 24)) (fun i _ => n - (intOf i).toNat)
  case atStart => exact ⟨0, by omega, by omega, rfl, by simp, B1.out, rfl⟩
  case round =>
    obtain ⟨k, hk, hk50, rfl, htk, hb, rfl⟩ := hrel
    by_cases hlt : k < n
    · by_cases h50 : k < 50
      · have hkl : k < l.length := by rw [HN.out]; exact hlt
        obtain ⟨bb, o, rfl, hrow⟩ := H3.out (by rw [HN.out]; omega)
        rw [HN.out] at hrow
        obtain ⟨x0, x1, x2, x3, x4, x5, x6, x7⟩ := hrow.cells hkl
        obtain ⟨f1, f2, f3⟩ := getS_lt HF.out hkl
        unfold maxLen at f1 f2 f3
        have hst := anyX_take l k hkl
        rw [htk, Bool.false_or] at hst
        have HS := Lib.hid hst
        have HY := Lib.hid (greatBa_at l k hkl h50)
        clear hst htk hrow x0 x1 x2 x5 x6
        by_cases g1 : (500 : Int) < ((l.getD k Sp.zero).sv.length : Int)
        · have hyes : R = true := by
            rw [← HR.out]; exact HY.out (by rw [greatX, decide_eq_true g1, Bool.true_or])
          clear HS HY
          generalize l.getD k Sp.zero = c at *
          subst hyes
          go_wp2_with fail
          go_ret
          exact ⟨rfl, hb⟩
        · by_cases g2 : (500 : Int) < ((l.getD k Sp.zero).ho.length : Int)
          · have hyes : R = true := by
              rw [← HR.out]; exact HY.out (by rw [greatX, decide_eq_true g2]; simp)
            have e1 := decide_eq_false g1
            clear HS HY
            generalize l.getD k Sp.zero = c at *
            subst hyes
            go_wp2_with fail
            go_ret
            exact ⟨rfl, hb⟩
          · by_cases g3 : (500 : Int) < ((l.getD k Sp.zero).no.length : Int)
            · have hyes : R = true := by
                rw [← HR.out]; exact HY.out (by rw [greatX, decide_eq_true g3]; simp)
              have e1 := decide_eq_false g1
              have e2 := decide_eq_false g2
              clear HS HY
              generalize l.getD k Sp.zero = c at *
              subst hyes
              go_wp2_with fail
              go_ret
              exact ⟨rfl, hb⟩
            · have hno : (l.take (k + 1)).any greatX = false := by rw [HS.out, greatX, decide_eq_false g1, decide_eq_false g2, decide_eq_false g3]; rfl
              have HNO := Lib.hid hno
              have e1 := decide_eq_false g1
              have e2 := decide_eq_false g2
              have e3 := decide_eq_false g3
              clear HS HY hno
              generalize l.getD k Sp.zero = c at *
              go_wp2_with fail
              go_roundw
              case rel => exact ⟨k + 1, by omega, by omega, by go_num, HNO.out, hb, trivial⟩
              case measure => simp [intOf]; omega
      · obtain rfl : k = 50 := by omega
        have hyes : R = true := by rw [← HR.out]; unfold greatBa; rw [HN.out, decide_eq_true (by omega), Bool.or_true]
        subst hyes
        have hn50 : (50 : Int) < (n : Int) := by omega
        clear htk
        go_wp2_with fail
        go_ret
        exact ⟨rfl, hb⟩
    · obtain rfl : k = n := by omega
      have hno : R = false := by
        rw [← HR.out]; unfold greatBa
        rw [HN.out, decide_eq_false (by omega), Bool.or_false]
        rw [List.take_of_length_le (by rw [HN.out]; exact Nat.le_refl _)] at htk
        rw [List.take_of_length_le (by rw [HN.out]; omega)]
        exact htk
      have hn50 : ¬ ((50 : Int) < (k : Int)) := by omega
      subst hno
      clear htk
      go_wp2_with fail
      go_ret
      exact ⟨rfl, hb⟩
end Go.Proofs.Ytheeekmhmbkncaa
