/- Rows of cells in memory; SameCells and Great. -/
import Derived.Test.YtpcapifjbhaeeaaBlocksC
import Derived.Test.YtpcapifjbhaeeaaBlocksO
import Derived.Test.YtpcapifjbhaeeaaMem1
import Derived.Deep.MidRow
import Derived.Lib.Hide
import Derived.Laws.Cover1
import Derived.BigQuiet
import Derived.Deep.QuietTactic
import Derived.OneCell
import Derived.Deep.Onto
import Derived.OwnWalk
namespace Go.Proofs.Ytpcapifjbhaeeaa
set_option maxRecDepth 16000
open Go.RowKit Spoor
set_option linter.unusedVariables false

theorem CeAt.set0 {g : Nat} {c : Ce} {w : World} (h : CeAt g c w) (k : List UInt8) : CeAt g ⟨k, c.q, c.v⟩ (w.setCell ⟨g, 0, none⟩ (.string ⟨k.toArray⟩)) := by
  unfold CeAt at *
  rw [heap_setCell_same w g 0 _ _ _ h]
  rfl
theorem CeAt.set1 {g : Nat} {c : Ce} {w : World} (h : CeAt g c w) (q : Int) : CeAt g ⟨c.k, q, c.v⟩ (w.setCell ⟨g, 1, none⟩ (.int .i64 q)) := by
  unfold CeAt at *
  rw [heap_setCell_same w g 1 _ _ _ h]
  rfl
theorem CeAt.set2 {g : Nat} {c : Ce} {w : World} (h : CeAt g c w) (v : List UInt8) : CeAt g ⟨c.k, c.q, v⟩ (w.setCell ⟨g, 2, none⟩ (.string ⟨v.toArray⟩)) := by
  unfold CeAt at *
  rw [heap_setCell_same w g 2 _ _ _ h]
  rfl
theorem below_set {B g : Nat} {a w : World} (h : Below B a w) (hB : B ≤ g) (i : Nat) (v : Value) : Below B a (w.setCell ⟨g, i, none⟩ v) := h.setCell (p := ⟨g, i, none⟩) hB v
theorem CeAt.all {g : Nat} {c : Ce} {w a : World} {B : Nat} (h : CeAt g c w) (hb : Below B a w) (hB : B ≤ g) (d : Ce) :
    CeAt g d (((w.setCell ⟨g, 0, none⟩ (.string ⟨d.k.toArray⟩)).setCell ⟨g, 1, none⟩ (.int .i64 d.q)).setCell ⟨g, 2, none⟩ (.string ⟨d.v.toArray⟩)) ∧
    Below B a (((w.setCell ⟨g, 0, none⟩ (.string ⟨d.k.toArray⟩)).setCell ⟨g, 1, none⟩ (.int .i64 d.q)).setCell ⟨g, 2, none⟩ (.string ⟨d.v.toArray⟩)) :=
  ⟨((h.set0 d.k).set1 d.q).set2 d.v, below_set (below_set (below_set hb hB 0 _) hB 1 _) hB 2 _⟩
def rowOf (l : List Ce) : List Value := l.flatMap ceRow
theorem rowOf_snoc (l : List Ce) (c : Ce) : rowOf (l ++ [c]) = rowOf l ++ ceRow c := by simp [rowOf]
theorem rowOf_length : ∀ l : List Ce, (rowOf l).length = l.length * 3
  | [] => rfl
  | c :: l => by
    have := rowOf_length l
    show (ceRow c ++ rowOf l).length = _
    rw [List.length_append, this]
    simp [ceRow]
    omega
theorem rowOf_at : ∀ (l : List Ce) (i j : Nat), i < l.length → j < 3 → (rowOf l)[i * 3 + j]? = (ceRow (l.getD i Ce.zero))[j]?
  | c :: l, 0, j, _, hj => by
    show (ceRow c ++ rowOf l)[0 * 3 + j]? = _
    rw [List.getElem?_append_left (by simp [ceRow]; omega)]
    simp
  | c :: l, i + 1, j, h, hj => by
    show (ceRow c ++ rowOf l)[(i + 1) * 3 + j]? = _
    rw [List.getElem?_append_right (by simp [ceRow]; omega)]
    have := rowOf_at l i j (by simpa using h) hj
    rw [show (i + 1) * 3 + j - (ceRow c).length = i * 3 + j by simp [ceRow]; omega, this]
    simp
/-- what owns a row of cells is a slice that holds them -/
theorem slAt_own {w : World} {base : Nat} {v : Value} {l : List Ce} (h : w.ownsRow base 33 3 v l.length (rowOf l)) : SlAt v l w := by
  have hc := fun g (hg : v.ownBlock = some g) => h.cells hg
  have hlt := h.lt
  rcases h.2 with ⟨rfl, h0⟩ | ⟨g, cap, cur, rfl, hb, hg, hn, hm, _⟩
  · exact ⟨none, 0, by rw [h0], by omega, by unfold maxLen; omega, fun hl => by omega⟩
  · refine ⟨some ⟨g, 0, none⟩, cap, rfl, hn, hm, fun _ => ⟨g, 0, rfl, (hlt g rfl).2, fun i hi j v hv => ?_⟩⟩
    have hj : j < 3 := by
      have := (List.getElem?_eq_some_iff.1 hv).1
      simpa [ceRow] using this
    have := hc g rfl (i * 3 + j) v (by rw [rowOf_at l i j hi hj]; exact hv)
    rw [Addr.add_lit] at this
    rw [← Nat.add_assoc] at this
    exact this
theorem info_ce : (Try.prog.info? 33).map (fun i => (i.zero, i.size, i.bytes)) = some (some (.agg #[.string ⟨#[]⟩, .int .i64 0, .string ⟨#[]⟩]), 3, 40) := by kernel_rfl
theorem blk_later {b : Nat} {o : Obj} {W W' : World} (h : W.heap[b]? = some o) (hb : Below W.heap.size W W') : W'.heap[b]? = some o := by
  rw [hb.block b ((Array.getElem?_eq_some_iff.1 h).1)]; exact h
theorem blk_other {b : Nat} {o : Obj} {W : World} (h : W.heap[b]? = some o) (a : Addr) (hne : b ≠ a.block) (v : Value) : (W.setCell a v).heap[b]? = some o := (Below.heap_setCell W a v b hne).trans h
theorem btP {w a b : World} (h : Below w.heap.size w a) (k : Below a.heap.size a b) : Below w.heap.size w b := h.trans (k.mono h.size)
theorem cells3 {w : World} {g : Nat} {a b c : Value} {t : TypeId} (h : w.heap[g]? = some (.cells #[a, b, c] t (0, 0))) : w.cell? ⟨g, 0, none⟩ = some a ∧ w.cell? ⟨g, 1, none⟩ = some b ∧ w.cell? ⟨g, 2, none⟩ = some c := by
  refine ⟨?_, ?_, ?_⟩ <;> (rw [cell_of_row w g _ _ _ _ h]; rfl)
theorem ceRow_one (c : Ce) : ∀ u ∈ ceRow c, u.oneCell' = true := by
  intro u hu
  simp only [ceRow, List.mem_cons, List.not_mem_nil, or_false] at hu
  rcases hu with rfl | rfl | rfl <;> rfl
theorem rowOf_one (l : List Ce) : ∀ u ∈ rowOf l, u.oneCell' = true := by
  intro u hu
  unfold rowOf at hu
  obtain ⟨c, _, hc⟩ := List.mem_flatMap.1 hu
  exact ceRow_one c u hc
theorem eql_ce (x y : Ce) (W : World) : (binOp .eql 33 (ceVal x) (ceVal y)).run Try.prog W = .ok (.bool (decide (x = y))) W := by
  unfold ceVal
  go_simp
  obtain ⟨a1, a2, a3⟩ := x
  obtain ⟨b1, b2, b3⟩ := y
  simp only [Ce.mk.injEq]
  by_cases h1 : a1 = b1 <;> by_cases h2 : a2 = b2 <;> by_cases h3 : a3 = b3 <;> simp [*]
theorem neq_ce (x y : Ce) (W : World) : (binOp .neq 33 (ceVal x) (ceVal y)).run Try.prog W = .ok (.bool (!decide (x = y))) W := by
  unfold ceVal
  go_simp
  obtain ⟨a1, a2, a3⟩ := x
  obtain ⟨b1, b2, b3⟩ := y
  simp only [Ce.mk.injEq]
  by_cases h1 : a1 = b1 <;> by_cases h2 : a2 = b2 <;> by_cases h3 : a3 = b3 <;> simp [*]
theorem same_take {l m : List Ce} (hlm : l.length = m.length) {k : Nat} (hk : k < l.length) (h : l.take k = m.take k) : (l.take (k + 1) = m.take (k + 1)) ↔ l.getD k Ce.zero = m.getD k Ce.zero := by
  rw [take_ce l k hk, take_ce m k (by omega), h, List.append_cancel_left_eq]
  simp
set_option maxHeartbeats 4000000 in
theorem sameCells_any (s t : Value) (l m : List Ce) (w : World) (hs : SlAt s l w) (ht : SlAt t m w) :
    Calls Try.prog 16 #[s, t] w fun e w' => e = .returned (.bool (decide (l = m))) ∧ Below w.heap.size w w' := by
  obtain ⟨A, cap, rfl, h1, h2, h3⟩ := hs
  obtain ⟨A2, cap2, rfl, k1, k2, k3⟩ := ht
  unfold maxLen at h2 k2
  obtain ⟨R, hR⟩ : ∃ R, decide (l = m) = R := ⟨_, rfl⟩
  rw [hR]
  have HR := Lib.hid hR
  clear hR
  by_cases hlm : l.length = m.length
  · have H3 := Lib.hid h3
    have K3 := Lib.hid k3
    obtain ⟨n, hn⟩ : ∃ n, l.length = n := ⟨_, rfl⟩
    have HN := Lib.hid hn
    have HM := Lib.hid (hlm.symm.trans hn)
    rw [← hlm, hn] at k1 ⊢
    rw [hn] at h1
    clear h3 k3 hn hlm
    go_enter Try.func16, Try.ntmps16
    go_wp2_with fail
    go_loopw [5] (fun i wr => ∃ k : Nat, k ≤ n ∧ i = .int .i64 k ∧ l.take k = m.take k ∧ Below w.heap.size w wr) (fun i _ => n - (intOf i).toNat)
    case atStart => exact ⟨0, by omega, rfl, by simp, Below.refl _ _⟩
    case round =>
      obtain ⟨k, hk, rfl, htk, hb⟩ := hrel
      have HT := Lib.hid htk
      clear htk
      by_cases hlt : k < n
      · obtain ⟨b, o, rfl, hrow⟩ := H3.out (by rw [HN.out]; omega)
        obtain ⟨b2, o2, rfl, hrow2⟩ := K3.out (by rw [HM.out]; omega)
        have hrow := hrow.later hb hrow.1
        have hrow2 := hrow2.later hb hrow2.1
        obtain ⟨x0, x1, x2⟩ := hrow.cells (i := k) (by rw [HN.out]; exact hlt)
        obtain ⟨y0, y1, y2⟩ := hrow2.cells (i := k) (by rw [HM.out]; exact hlt)
        have hst := same_take (l := l) (m := m) (by rw [HN.out, HM.out]) (k := k) (by rw [HN.out]; exact hlt) HT.out
        have HS := Lib.hid hst
        have ne := fun W => neq_ce (l.getD k Ce.zero) (m.getD k Ce.zero) W
        have lt1 := hrow.1
        have lt2 := hrow2.1
        clear hst hrow hrow2
        by_cases he : l.getD k Ce.zero = m.getD k Ce.zero
        · rw [decide_eq_true he] at ne
          have HY := Lib.hid (HS.out.2 he)
          clear he HS
          generalize l.getD k Ce.zero = c at *
          generalize m.getD k Ce.zero = d at *
          unfold ceVal at ne
          go_wp2_with fail
          go_quiet (fail)
          go_wp2_with fail
          go_roundw
          case rel => exact ⟨k + 1, by omega, by go_num, HY.out, below_drewN hb _⟩
          case measure => simp [intOf]; omega
        · rw [decide_eq_false he] at ne
          have hno : R = false := by rw [← HR.out]; exact decide_eq_false (fun e => he (by rw [e]))
          clear he HS
          generalize l.getD k Ce.zero = c at *
          generalize m.getD k Ce.zero = d at *
          unfold ceVal at ne
          subst hno
          go_wp2_with fail
          go_quiet (fail)
          go_wp2_with fail
          go_ret
          exact ⟨rfl, below_drewN hb _⟩
      · obtain rfl : k = n := by omega
        have hyes : R = true := by
          rw [← HR.out]
          refine decide_eq_true ?_
          have h := HT.out
          rwa [List.take_of_length_le (by rw [HN.out]; exact Nat.le_refl _), List.take_of_length_le (by rw [HM.out]; exact Nat.le_refl _)] at h
        subst hyes
        go_wp2_with fail
        go_ret
        exact ⟨rfl, hb⟩
  · have hno : R = false := by rw [← HR.out]; exact decide_eq_false (fun e => hlm (by rw [e]))
    subst hno
    have hne : ((l.length : Int) != (m.length : Int)) = true := by simp; omega
    go_enter Try.func16, Try.ntmps16
    go_wp2_with fail
    go_ret
    exact ⟨rfl, Below.refl _ _⟩
/-- more than is gone through? -/
def greatC (c : Ce) : Bool := decide ((1000 : Int) < c.k.length) || decide ((1000 : Int) < c.v.length)
def greatL (l : List Ce) (most : Nat) : Bool := decide (most < l.length) || l.any greatC
theorem any_take (l : List Ce) (k : Nat) (h : k < l.length) : (l.take (k + 1)).any greatC = ((l.take k).any greatC || greatC (l.getD k Ce.zero)) := by
  rw [take_ce l k h, List.any_append]
  simp
theorem any_yes (l : List Ce) (k : Nat) (h : (l.take k).any greatC = true) : l.any greatC = true := by
  rw [← List.take_append_drop k l, List.any_append, h, Bool.true_or]
set_option maxHeartbeats 4000000 in
theorem greatL_any (s : Value) (l : List Ce) (most : Nat) (w : World) (hs : SlAt s l w) (hf : ∀ c ∈ l, WfC c) (hm : most ≤ 100000) :
    Calls Try.prog 8 #[s, .int .i64 most] w fun e w' => e = .returned (.bool (greatL l most)) ∧ Below w.heap.size w w' := by
  obtain ⟨A, cap, rfl, h1, h2, h3⟩ := hs
  unfold maxLen at h2
  obtain ⟨R, hR⟩ : ∃ R, greatL l most = R := ⟨_, rfl⟩
  rw [hR]
  have HR := Lib.hid hR
  clear hR
  have H3 := Lib.hid h3
  have HF := Lib.hid hf
  obtain ⟨n, hn⟩ : ∃ n, l.length = n := ⟨_, rfl⟩
  have HN := Lib.hid hn
  rw [hn] at h1 ⊢
  clear h3 hn hf
  by_cases hmn : (most : Int) < (n : Int)
  · have hyes : R = true := by
      rw [← HR.out, greatL, HN.out, decide_eq_true (by omega), Bool.true_or]
    subst hyes
    go_enter Try.func8, Try.ntmps8
    go_wp2_with fail
    go_ret
    exact ⟨rfl, Below.refl _ _⟩
  · have hR2 : R = l.any greatC := by rw [← HR.out, greatL, HN.out, decide_eq_false (by omega), Bool.false_or]
    have HR2 := Lib.hid hR2
    clear hR2
    go_enter Try.func8, Try.ntmps8
    go_wp2_with fail
    go_loopw [5] (fun i wr => ∃ k : Nat, k ≤ n ∧ i = .int .i64 k ∧ (l.take k).any greatC = false ∧ Below w.heap.size w wr) (fun i _ => n - (intOf i).toNat)
    case atStart => exact ⟨0, by omega, rfl, by simp, Below.refl _ _⟩
    case round =>
      obtain ⟨k, hk, rfl, htk, hb⟩ := hrel
      by_cases hlt : k < n
      · have hkl : k < l.length := by rw [HN.out]; exact hlt
        obtain ⟨b, o, rfl, hrow⟩ := H3.out (by rw [HN.out]; omega)
        have hrow := hrow.later hb hrow.1
        obtain ⟨x0, x1, x2⟩ := hrow.cells hkl
        obtain ⟨f1, f2, f3⟩ := getD_lt HF.out hkl
        unfold maxLen at f1 f2
        have hst := any_take l k hkl
        rw [htk, Bool.false_or] at hst
        have HS := Lib.hid hst
        clear hst htk hrow
        by_cases g1 : (1000 : Int) < ((l.getD k Ce.zero).k.length : Int)
        · have hyes : R = true := by
            rw [HR2.out]; exact any_yes l (k + 1) (by rw [HS.out, greatC, decide_eq_true g1, Bool.true_or])
          clear HS
          generalize l.getD k Ce.zero = c at *
          subst hyes
          go_wp2_with fail
          go_ret
          exact ⟨rfl, hb⟩
        · by_cases g2 : (1000 : Int) < ((l.getD k Ce.zero).v.length : Int)
          · have hyes : R = true := by
              rw [HR2.out]; exact any_yes l (k + 1) (by rw [HS.out, greatC, decide_eq_true g2, Bool.or_true])
            have e1 := decide_eq_false g1
            clear HS
            generalize l.getD k Ce.zero = c at *
            subst hyes
            go_wp2_with fail
            go_ret
            exact ⟨rfl, hb⟩
          · have hno : (l.take (k + 1)).any greatC = false := by rw [HS.out, greatC, decide_eq_false g1, decide_eq_false g2, Bool.or_false]
            have HNO := Lib.hid hno
            have e1 := decide_eq_false g1
            have e2 := decide_eq_false g2
            clear HS hno
            generalize l.getD k Ce.zero = c at *
            go_wp2_with fail
            go_roundw
            case rel => exact ⟨k + 1, by omega, by go_num, HNO.out, hb⟩
            case measure => simp [intOf]; omega
      · obtain rfl : k = n := by omega
        have hno : R = false := by rw [HR2.out]; rwa [List.take_of_length_le (by rw [HN.out]; exact Nat.le_refl _)] at htk
        clear htk
        subst hno
        go_wp2_with fail
        go_ret
        exact ⟨rfl, hb⟩
end Go.Proofs.Ytpcapifjbhaeeaa
