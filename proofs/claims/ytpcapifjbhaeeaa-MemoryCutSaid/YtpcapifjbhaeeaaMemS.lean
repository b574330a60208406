/- The reference's Get and Range. -/
import Derived.Test.YtpcapifjbhaeeaaMemR
namespace Go.Proofs.Ytpcapifjbhaeeaa
set_option maxRecDepth 16000
open Go.RowKit Spoor
set_option linter.unusedVariables false

theorem find_at {L : List Ce} {key : List UInt8} {k : Nat} (h : ∀ j, j < k → (L.getD j Ce.zero).k ≠ key) (hk : k < L.length) (he : (L.getD k Ce.zero).k = key) : findC L key = some (L.getD k Ce.zero) := by
  unfold findC
  have hg : L.getD k Ce.zero = L[k] := by simp [List.getD, hk]
  rw [hg] at he ⊢
  rw [List.find?_eq_some_iff_getElem]
  refine ⟨by simpa using he, k, hk, rfl, fun j hj => ?_⟩
  have := h j hj
  have hjl : j < L.length := by omega
  have hgj : L.getD j Ce.zero = L[j] := by simp [List.getD, hjl]
  rw [hgj] at this
  simpa using this
theorem find_none {L : List Ce} {key : List UInt8} (h : ∀ j, j < L.length → (L.getD j Ce.zero).k ≠ key) : findC L key = none := by
  unfold findC
  rw [List.find?_eq_none]
  intro x hx
  obtain ⟨j, hj, rfl⟩ := List.getElem_of_mem hx
  have := h j hj
  have hgj : L.getD j Ce.zero = L[j] := by simp [List.getD, hj]
  rw [hgj] at this
  simpa using this
set_option maxHeartbeats 4000000 in
theorem refGetM_any (r : Nat) (L : List Ce) (fs : List Nat) (key : List UInt8) (w : World) (M : RefM r L fs w) (hbig : L.length ≤ 100000) :
    Calls Try.prog 14 #[.pointer (some ⟨r, 0, none⟩), .string ⟨key.toArray⟩] w fun e w' => e = .returned (ceV (findC L key)) ∧ Below w.heap.size w w' := by
  obtain ⟨A, cap, h1, -, -, h4, h5, -, h7⟩ := M
  obtain ⟨n, hn⟩ : ∃ n, L.length = n := ⟨_, rfl⟩
  have HN := Lib.hid hn
  rw [hn] at h1 h4 h7 hbig
  have b1 := (Below.refl w.heap.size w).alloc (Nat.le_refl _) (boxC Ce.zero)
  have q1 := CeAt.boxed Ce.zero w
  have h1' := (b1.block r (Array.getElem?_eq_some_iff.1 h1).1).trans h1
  have hcr : (w.alloc (boxC Ce.zero)).cell? ⟨r, 0, none⟩ = some (.slice A n cap) := by simp [World.cell?, h1']
  have h5' : cap ≤ 9223372036854775807 := by unfold maxLen at h5; omega
  have H7 := Lib.hid (fun (h0 : 0 < n) => h7 h0)
  have HB1 := Lib.hid b1
  have HQ := Lib.hid q1
  obtain ⟨W1, hW⟩ : ∃ W1, w.alloc (boxC Ce.zero) = W1 := ⟨_, rfl⟩
  rw [hW] at hcr HB1 HQ
  have hlt0 := HQ.out.lt
  obtain ⟨y0, y1, y2⟩ := HQ.out.cell
  obtain ⟨z0, z1, z2⟩ := HQ.out.frees
  unfold Ce.zero at y0 y1 y2
  dsimp only at y0 y1 y2
  clear b1 q1 h1 h1' h5 h7 hn
  have hW2 : w.alloc (.cells #[.string ⟨#[]⟩, .int .i64 0, .string ⟨#[]⟩] 33) = W1 := hW
  clear hW
  go_enter Try.func14, Try.ntmps14
  go_wp2_with fail
  clear hW2
  go_loopw [6] (fun i wr => ∃ k : Nat, i = .int .i64 k ∧ k ≤ n ∧ Hid (∀ j, j < k → (L.getD j Ce.zero).k ≠ key) ∧ wr = W1) (fun i _ => n - (intOf i).toNat)
  case atStart => exact ⟨0, rfl, by omega, Lib.hid (fun j h => by omega), rfl⟩
  case round =>
    obtain ⟨k, rfl, hk, HA, rfl⟩ := hrel
    by_cases hlt : k < n
    · have hkl : k < L.length := by rw [HN.out]; exact hlt
      obtain ⟨b, o, rfl, -, hrow⟩ := H7.out (by omega)
      obtain ⟨x0, x1, x2⟩ := (hrow.later HB1.out hrow.1).cells hkl
      obtain ⟨d, hd⟩ : ∃ d, L.getD k Ce.zero = d := ⟨_, rfl⟩
      rw [hd] at x0 x1 x2
      have HD := Lib.hid hd
      clear hrow hd
      by_cases he : d.k = key
      · have e1 : (d.k == key) = true := by rw [beq_iff_eq]; exact he
        have HF := Lib.hid (find_at HA.out hkl (by rw [HD.out]; exact he))
        clear he
        go_wp2_with fail
        obtain ⟨q3, b3⟩ := HQ.out.all HB1.out (Nat.le_refl _) d
        unfold ceV ceVal
        rw [HF.out, HD.out]
        generalize ((World.setCell _ _ _).setCell _ _).setCell _ _ = w9 at *
        clear y0 y1 y2 z0 z1 z2 x0 x1 x2
        obtain ⟨y0, y1, y2⟩ := q3.cell
        refine bodyPost_ret (v := .tuple #[.agg #[.string ⟨d.k.toArray⟩, .int .i64 d.q, .string ⟨d.v.toArray⟩], .bool true]) (by simp [results, Try.results14, go_sem, *]) rfl ⟨?_, b3⟩
        rfl
      · have e1 : (d.k == key) = false := by rw [beq_eq_false_iff_ne]; exact he
        have hA2 : ∀ j, j < k + 1 → (L.getD j Ce.zero).k ≠ key := fun j hj => by
          rcases Nat.lt_or_ge j k with h | h
          · exact HA.out j h
          · obtain rfl : j = k := by omega
            rw [HD.out]
            exact he
        have HA2 := Lib.hid hA2
        clear he hA2 HA
        go_wp2_with fail
        go_roundw
        case rel => exact ⟨k + 1, rfl, by omega, Lib.hid HA2.out, by simp⟩
        case measure => simp [intOf]; omega
    · obtain rfl : k = n := by omega
      have HF := Lib.hid (find_none (fun j hj => HA.out j (by rw [← HN.out]; exact hj)))
      clear HA
      go_wp2_with fail
      obtain ⟨q3, b3⟩ := HQ.out.all HB1.out (Nat.le_refl _) Ce.zero
      unfold Ce.zero at q3 b3
      rw [HF.out]
      unfold ceV ceVal
      generalize ((World.setCell _ _ _).setCell _ _).setCell _ _ = w9 at *
      clear y0 y1 y2 z0 z1 z2
      obtain ⟨y0, y1, y2⟩ := q3.cell
      refine bodyPost_ret (v := .tuple #[.agg #[.string ⟨#[]⟩, .int .i64 0, .string ⟨#[]⟩], .bool false]) (by simp [results, Try.results14, go_sem, *]) rfl ⟨?_, b3⟩
      rfl

theorem range_take {L : List Ce} {x y : List UInt8} {k : Nat} (hk : k < L.length) : rangeC (L.take (k + 1)) x y = rangeC (L.take k) x y ++ (if within x y (L.getD k Ce.zero) then [L.getD k Ce.zero] else []) := by
  rw [List.take_succ_eq_append_getElem hk, rangeC_app]
  have hg : L.getD k Ce.zero = L[k] := by simp [List.getD, hk]
  rw [hg]
  congr 1
  unfold rangeC
  by_cases h : within x y L[k] = true
  · rw [if_pos h]; simp [h]
  · rw [if_neg h]; simp [h]
set_option maxHeartbeats 8000000 in
theorem refRangeM_any (r : Nat) (L : List Ce) (fs : List Nat) (x y : List UInt8) (w : World) (M : RefM r L fs w) (hbig : L.length ≤ 1000) :
    Calls Try.prog 17 #[.pointer (some ⟨r, 0, none⟩), .string ⟨x.toArray⟩, .string ⟨y.toArray⟩] w fun e w' => Below w.heap.size w w' ∧ ∃ v, e = .returned v ∧ w'.ownsRow w.heap.size 33 3 v (rangeC L x y).length (rowOf (rangeC L x y)) := by
  obtain ⟨A, cap, h1, -, -, h4, h5, -, h7⟩ := M
  obtain ⟨n, hn⟩ : ∃ n, L.length = n := ⟨_, rfl⟩
  have HN := Lib.hid hn
  rw [hn] at h1 h4 h7 hbig
  have hrl := (Array.getElem?_eq_some_iff.1 h1).1
  have H1 := Lib.hid h1
  have h5' : cap ≤ 9223372036854775807 := by unfold maxLen at h5; omega
  have H7 := Lib.hid (fun (h0 : 0 < n) => h7 h0)
  clear h1 h5 h7 hn
  go_enter Try.func17, Try.ntmps17
  go_wp2_with fail
  go_loopw [7, 8] (fun ov i wr => ∃ k : Nat, i = .int .i64 k ∧ k ≤ n ∧ Hid (wr.ownsRow w.heap.size 33 3 ov (rangeC (L.take k) x y).length (rowOf (rangeC (L.take k) x y))) ∧ Below w.heap.size w wr) (fun _ i _ => n - (intOf i).toNat)
  case atStart => exact ⟨0, rfl, by omega, Lib.hid (by simpa [rangeC, rowOf] using World.ownsRow_nil _ _ _ _), Below.refl _ _⟩
  case round =>
    obtain ⟨k, rfl, hk, HO, B⟩ := hrel
    have h1 := (B.block r hrl).trans H1.out
    have hcr : wr.cell? ⟨r, 0, none⟩ = some (.slice A n cap) := by simp [World.cell?, h1]
    clear h1
    by_cases hlt : k < n
    · have hkl : k < L.length := by rw [HN.out]; exact hlt
      obtain ⟨b, o, rfl, -, hrow⟩ := H7.out (by omega)
      have hrow2 := hrow.later B hrow.1
      obtain ⟨x0, x1, x2⟩ := hrow2.cells hkl
      obtain ⟨d, hd⟩ : ∃ d, L.getD k Ce.zero = d := ⟨_, rfl⟩
      rw [hd] at x0 x1 x2
      have hnext := range_take (x := x) (y := y) hkl
      rw [hd] at hnext
      have hshort : (rangeC (L.take k) x y).length ≤ 1000 := by
        have e1 := List.length_filter_le (within x y) (L.take k)
        have e2 : (L.take k).length ≤ L.length := (List.take_sublist k L).length_le
        unfold rangeC
        have := HN.out
        omega
      clear hrow hrow2 hd
      have hw : within x y d = (!Op.bytesLess d.k x && (decide (y = []) || Op.bytesLess d.k y)) := rfl
      have NO : Hid (false = within x y d → wr.ownsRow w.heap.size 33 3 u7 (rangeC (L.take (k + 1)) x y).length (rowOf (rangeC (L.take (k + 1)) x y))) := Lib.hid (fun h => by
        rw [hnext, ← h]
        simpa using HO.out)
      have nb := (Below.refl wr.heap.size wr).alloc (Nat.le_refl _) (boxC d)
      have hg : (wr.alloc (boxC d)).heap[wr.heap.size]? = some (boxC d) := heap_alloc_new wr _
      obtain ⟨v9, w9, run9, own9, b9, -⟩ := run_append_slk (own_lat HO.out nb) (Nat.le_trans B.size nb.size) (sl_box hg) (by simp only [List.length_cons, List.length_nil]; omega)
      have OWN : Hid (true = within x y d → w9.ownsRow w.heap.size 33 3 v9 (rangeC (L.take (k + 1)) x y).length (rowOf (rangeC (L.take (k + 1)) x y)) ∧ Below w.heap.size w w9) := Lib.hid (fun h => ⟨by
        rw [hnext, ← h]
        simpa using own9, (B.trans (nb.mono B.size)).trans b9⟩)
      have RUN := Lib.hid run9
      unfold boxC at RUN
      clear run9 own9 b9 nb hg hnext HO hshort
      rw [hw] at NO OWN
      clear hw
      cases hb1 : Op.bytesLess d.k x with
      | true =>
        rw [hb1] at NO
        clear OWN RUN
        go_wp2_with fail
        go_roundw
        case rel => exact ⟨k + 1, rfl, by omega, Lib.hid (NO.out rfl), B⟩
        case measure => simp [intOf]; omega
      | false =>
        rw [hb1] at NO OWN
        by_cases hy : y = []
        · have e1 : (y == ([] : List UInt8)) = true := by rw [beq_iff_eq]; exact hy
          rw [decide_eq_true hy] at OWN
          clear hy NO
          go_wp2_with (at_builtin; refine wpList_append_runE _ rfl _ _ 22 22 rfl _ _ rfl rfl RUN.out ?_)
          go_roundw
          case rel => exact ⟨k + 1, rfl, by omega, Lib.hid (OWN.out rfl).1, (OWN.out rfl).2⟩
          case measure => simp [intOf]; omega
        · have e1 : (y == ([] : List UInt8)) = false := by rw [beq_eq_false_iff_ne]; exact hy
          rw [decide_eq_false hy] at NO OWN
          clear hy
          cases hb2 : Op.bytesLess d.k y with
          | true =>
            rw [hb2] at OWN
            clear NO
            go_wp2_with (at_builtin; refine wpList_append_runE _ rfl _ _ 22 22 rfl _ _ rfl rfl RUN.out ?_)
            go_roundw
            case rel => exact ⟨k + 1, rfl, by omega, Lib.hid (OWN.out rfl).1, (OWN.out rfl).2⟩
            case measure => simp [intOf]; omega
          | false =>
            rw [hb2] at NO
            clear OWN RUN
            go_wp2_with fail
            go_roundw
            case rel => exact ⟨k + 1, rfl, by omega, Lib.hid (NO.out rfl), B⟩
            case measure => simp [intOf]; omega
    · obtain rfl : k = n := by omega
      have HO2 := Lib.hid (show wr.ownsRow w.heap.size 33 3 u7 (rangeC L x y).length (rowOf (rangeC L x y)) by have := HO.out; rwa [← HN.out, List.take_length] at this)
      clear HO
      go_wp2_with fail
      go_ret
      exact ⟨B, u7, rfl, HO2.out⟩
end Go.Proofs.Ytpcapifjbhaeeaa
