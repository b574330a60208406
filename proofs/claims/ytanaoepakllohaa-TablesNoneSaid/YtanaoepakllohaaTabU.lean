/- The reference's Get, Range and Open. -/
import Derived.Test.YtanaoepakllohaaTabL
import Derived.Test.YtanaoepakllohaaTabP
import Derived.Deep.DeepCutAuto
namespace Go.Proofs.Ytanaoepakllohaa
set_option maxRecDepth 16000
open Go.RowKit Spoor
set_option linter.unusedVariables false

theorem findT_at {L : List Ce} {key : List UInt8} {k : Nat} (h : ∀ j, j < k → (L.getD j Ce.zero).k ≠ key) (hk : k < L.length) (he : (L.getD k Ce.zero).k = key) : findC L key = some (L.getD k Ce.zero) := by
  unfold findC
  have hg : L.getD k Ce.zero = L[k] := by simp [List.getD, hk]
  rw [hg] at he ⊢
  rw [List.find?_eq_some_iff_getElem]
  refine ⟨by simpa using he, k, hk, rfl, fun j hj => ?_⟩
  have := h j hj
  have hjl : j < L.length := by omega
  have hgj : L.getD j Ce.zero = L[j] := by simp [List.getD, hjl]
  rw [hgj] at this
  simpa using this
theorem findT_none {L : List Ce} {key : List UInt8} (h : ∀ j, j < L.length → (L.getD j Ce.zero).k ≠ key) : findC L key = none := by
  unfold findC
  rw [List.find?_eq_none]
  intro x hx
  obtain ⟨j, hj, rfl⟩ := List.getElem_of_mem hx
  have := h j hj
  have hgj : L.getD j Ce.zero = L[j] := by simp [List.getD, hj]
  rw [hgj] at this
  simpa using this
set_option maxHeartbeats 4000000 in
theorem refGetT_any (s : Value) (L : List Ce) (key : List UInt8) (w : World) (M : SlAt s L w) (hbig : L.length ≤ 100000) :
    Calls Try.prog 19 #[s, .string ⟨key.toArray⟩] w fun e w' => e = .returned (ceV (findC L key)) ∧ Below w.heap.size w w' := by
  obtain ⟨A, cap, rfl, h4, h5, h7⟩ := M
  obtain ⟨n, hn⟩ : ∃ n, L.length = n := ⟨_, rfl⟩
  have HN := Lib.hid hn
  rw [hn] at h4 h7 hbig ⊢
  have b1 := (Below.refl w.heap.size w).alloc (Nat.le_refl _) (boxC Ce.zero)
  have q1 := CeAt.boxed Ce.zero w
  have h5' : cap ≤ 9223372036854775807 := by unfold maxLen at h5; omega
  have H7 := Lib.hid (fun (h0 : 0 < n) => h7 h0)
  have HB1 := Lib.hid b1
  have HQ := Lib.hid q1
  obtain ⟨W1, hW⟩ : ∃ W1, w.alloc (boxC Ce.zero) = W1 := ⟨_, rfl⟩
  rw [hW] at HB1 HQ
  have hlt0 := HQ.out.lt
  obtain ⟨y0, y1, y2⟩ := HQ.out.cell
  obtain ⟨z0, z1, z2⟩ := HQ.out.frees
  unfold Ce.zero at y0 y1 y2
  dsimp only at y0 y1 y2
  clear b1 q1 h5 h7 hn
  have hW2 : w.alloc (.cells #[.string ⟨#[]⟩, .int .i64 0, .string ⟨#[]⟩] 36) = W1 := hW
  clear hW
  go_enter Try.func19, Try.ntmps19
  go_wp2_with fail
  clear hW2
  go_loopw [6] (fun i wr => ∃ k : Nat, i = .int .i64 k ∧ k ≤ n ∧ Hid (∀ j, j < k → (L.getD j Ce.zero).k ≠ key) ∧ wr = W1) (fun i _ => n - (intOf i).toNat)
  case atStart => exact ⟨0, rfl, by omega, Lib.hid (fun j h => by omega), rfl⟩
  case round =>
    obtain ⟨k, rfl, hk, HA, rfl⟩ := hrel
    by_cases hlt : k < n
    · have hkl : k < L.length := by rw [HN.out]; exact hlt
      obtain ⟨b, o, rfl, hrow⟩ := H7.out (by omega)
      obtain ⟨x0, x1, x2⟩ := (hrow.later HB1.out hrow.1).cells hkl
      obtain ⟨d, hd⟩ : ∃ d, L.getD k Ce.zero = d := ⟨_, rfl⟩
      rw [hd] at x0 x1 x2
      have HD := Lib.hid hd
      clear hrow hd
      by_cases he : d.k = key
      · have e1 : (d.k == key) = true := by rw [beq_iff_eq]; exact he
        have HF := Lib.hid (findT_at HA.out hkl (by rw [HD.out]; exact he))
        clear he
        go_wp2_with fail
        obtain ⟨q3, b3⟩ := HQ.out.all HB1.out (Nat.le_refl _) d
        unfold ceV ceVal
        rw [HF.out, HD.out]
        generalize ((World.setCell _ _ _).setCell _ _).setCell _ _ = w9 at *
        clear y0 y1 y2 z0 z1 z2 x0 x1 x2
        obtain ⟨y0, y1, y2⟩ := q3.cell
        refine bodyPost_ret (v := .tuple #[.agg #[.string ⟨d.k.toArray⟩, .int .i64 d.q, .string ⟨d.v.toArray⟩], .bool true]) (by simp [results, Try.results19, go_sem, *]) rfl ⟨?_, b3⟩
        rfl
      · have e1 : (d.k == key) = false := by rw [beq_eq_false_iff_ne]; exact he
        have hA2 : ∀ j, j < k + 1 → (L.getD j Ce.zero).k ≠ key := fun j hj => by
          rcases Nat.lt_or_ge j k with h | h
          · exact HA.out j h
          · obtain rfl : j = k := by omega
            rw [HD.out]
            exact he
        have HA2 := Lib.hid hA2
        clear he hA2 HA
        go_wp2_with fail
        go_roundw
        case rel => exact ⟨k + 1, rfl, by omega, Lib.hid HA2.out, by simp⟩
        case measure => simp [intOf]; omega
    · obtain rfl : k = n := by omega
      have HF := Lib.hid (findT_none (fun j hj => HA.out j (by rw [← HN.out]; exact hj)))
      clear HA
      go_wp2_with fail
      obtain ⟨q3, b3⟩ := HQ.out.all HB1.out (Nat.le_refl _) Ce.zero
      unfold Ce.zero at q3 b3
      rw [HF.out]
      unfold ceV ceVal
      generalize ((World.setCell _ _ _).setCell _ _).setCell _ _ = w9 at *
      clear y0 y1 y2 z0 z1 z2
      obtain ⟨y0, y1, y2⟩ := q3.cell
      refine bodyPost_ret (v := .tuple #[.agg #[.string ⟨#[]⟩, .int .i64 0, .string ⟨#[]⟩], .bool false]) (by simp [results, Try.results19, go_sem, *]) rfl ⟨?_, b3⟩
      rfl

theorem range_take {L : List Ce} {x y : List UInt8} {k : Nat} (hk : k < L.length) : rangeC (L.take (k + 1)) x y = rangeC (L.take k) x y ++ (if within x y (L.getD k Ce.zero) then [L.getD k Ce.zero] else []) := by
  rw [List.take_succ_eq_append_getElem hk, rangeC_app]
  have hg : L.getD k Ce.zero = L[k] := by simp [List.getD, hk]
  rw [hg]
  congr 1
  unfold rangeC
  by_cases h : within x y L[k] = true
  · rw [if_pos h]; simp [h]
  · rw [if_neg h]; simp [h]
set_option maxHeartbeats 8000000 in
theorem refRangeT_any (s : Value) (L : List Ce) (x y : List UInt8) (w : World) (M : SlAt s L w) (hbig : L.length ≤ 50000) :
    Calls Try.prog 23 #[s, .string ⟨x.toArray⟩, .string ⟨y.toArray⟩] w fun e w' => Below w.heap.size w w' ∧ ∃ v, e = .returned v ∧ w'.ownsRow w.heap.size 36 3 v (rangeC L x y).length (rowOf (rangeC L x y)) := by
  obtain ⟨A, cap, rfl, h4, h5, h7⟩ := M
  obtain ⟨n, hn⟩ : ∃ n, L.length = n := ⟨_, rfl⟩
  have HN := Lib.hid hn
  rw [hn] at h4 h7 hbig ⊢
  have h5' : cap ≤ 9223372036854775807 := by unfold maxLen at h5; omega
  have H7 := Lib.hid (fun (h0 : 0 < n) => h7 h0)
  clear h5 h7 hn
  go_enter Try.func23, Try.ntmps23
  go_wp2_with fail
  go_loopw [7, 8] (fun ov i wr => ∃ k : Nat, i = .int .i64 k ∧ k ≤ n ∧ Hid (wr.ownsRow w.heap.size 36 3 ov (rangeC (L.take k) x y).length (rowOf (rangeC (L.take k) x y))) ∧ Below w.heap.size w wr) (fun _ i _ => n - (intOf i).toNat)
  case atStart => exact ⟨0, rfl, by omega, Lib.hid (by simpa [rangeC, rowOf] using World.ownsRow_nil _ _ _ _), Below.refl _ _⟩
  case round =>
    obtain ⟨k, rfl, hk, HO, B⟩ := hrel
    by_cases hlt : k < n
    · have hkl : k < L.length := by rw [HN.out]; exact hlt
      obtain ⟨b, o, rfl, hrow⟩ := H7.out (by omega)
      have hrow2 := hrow.later B hrow.1
      obtain ⟨x0, x1, x2⟩ := hrow2.cells hkl
      obtain ⟨d, hd⟩ : ∃ d, L.getD k Ce.zero = d := ⟨_, rfl⟩
      rw [hd] at x0 x1 x2
      have hnext := range_take (x := x) (y := y) hkl
      rw [hd] at hnext
      have hshort : (rangeC (L.take k) x y).length ≤ 50000 := by
        have e1 := List.length_filter_le (within x y) (L.take k)
        have e2 : (L.take k).length ≤ L.length := (List.take_sublist k L).length_le
        unfold rangeC
        have := HN.out
        omega
      clear hrow hrow2 hd
      have hw : within x y d = (!Op.bytesLess d.k x && (decide (y = []) || Op.bytesLess d.k y)) := rfl
      have NO : Hid (false = within x y d → wr.ownsRow w.heap.size 36 3 u7 (rangeC (L.take (k + 1)) x y).length (rowOf (rangeC (L.take (k + 1)) x y))) := Lib.hid (fun h => by
        rw [hnext, ← h]
        simpa using HO.out)
      have nb := (Below.refl wr.heap.size wr).alloc (Nat.le_refl _) (boxC d)
      have hg : (wr.alloc (boxC d)).heap[wr.heap.size]? = some (boxC d) := heap_alloc_new wr _
      obtain ⟨v9, w9, run9, own9, b9, -⟩ := run_append_slk (own_lat HO.out nb) (Nat.le_trans B.size nb.size) (sl_box hg) (by simp only [List.length_cons, List.length_nil]; omega)
      have OWN : Hid (true = within x y d → w9.ownsRow w.heap.size 36 3 v9 (rangeC (L.take (k + 1)) x y).length (rowOf (rangeC (L.take (k + 1)) x y)) ∧ Below w.heap.size w w9) := Lib.hid (fun h => ⟨by
        rw [hnext, ← h]
        simpa using own9, (B.trans (nb.mono B.size)).trans b9⟩)
      have RUN := Lib.hid run9
      unfold boxC at RUN
      clear run9 own9 b9 nb hg hnext HO hshort
      rw [hw] at NO OWN
      clear hw
      cases hb1 : Op.bytesLess d.k x with
      | true =>
        rw [hb1] at NO
        clear OWN RUN
        go_wp2_with fail
        go_roundw
        case rel => exact ⟨k + 1, rfl, by omega, Lib.hid (NO.out rfl), B⟩
        case measure => simp [intOf]; omega
      | false =>
        rw [hb1] at NO OWN
        by_cases hy : y = []
        · have e1 : (y == ([] : List UInt8)) = true := by rw [beq_iff_eq]; exact hy
          rw [decide_eq_true hy] at OWN
          clear hy NO
          go_wp2_with (at_builtin; refine wpList_append_runE _ rfl _ _ 22 22 rfl _ _ rfl rfl RUN.out ?_)
          go_roundw
          case rel => exact ⟨k + 1, rfl, by omega, Lib.hid (OWN.out rfl).1, (OWN.out rfl).2⟩
          case measure => simp [intOf]; omega
        · have e1 : (y == ([] : List UInt8)) = false := by rw [beq_eq_false_iff_ne]; exact hy
          rw [decide_eq_false hy] at NO OWN
          clear hy
          cases hb2 : Op.bytesLess d.k y with
          | true =>
            rw [hb2] at OWN
            clear NO
            go_wp2_with (at_builtin; refine wpList_append_runE _ rfl _ _ 22 22 rfl _ _ rfl rfl RUN.out ?_)
            go_roundw
            case rel => exact ⟨k + 1, rfl, by omega, Lib.hid (OWN.out rfl).1, (OWN.out rfl).2⟩
            case measure => simp [intOf]; omega
          | false =>
            rw [hb2] at NO
            clear OWN RUN
            go_wp2_with fail
            go_roundw
            case rel => exact ⟨k + 1, rfl, by omega, Lib.hid (NO.out rfl), B⟩
            case measure => simp [intOf]; omega
    · obtain rfl : k = n := by omega
      have HO2 := Lib.hid (show wr.ownsRow w.heap.size 36 3 u7 (rangeC L x y).length (rowOf (rangeC L x y)) by have := HO.out; rwa [← HN.out, List.take_length] at this)
      clear HO
      go_wp2_with fail
      go_ret
      exact ⟨B, u7, rfl, HO2.out⟩
end Go.Proofs.Ytanaoepakllohaa
namespace Go.Proofs.Ytanaoepakllohaa
set_option maxRecDepth 16000
open Go.RowKit Spoor
set_option linter.unusedVariables false

def RefEx (text : List UInt8) (w : World) (e : Ending) (w' : World) : Prop :=
  Below w.heap.size w w' ∧ ((refOpen text = none ∧ e = .returned (.tuple #[.slice none 0 0, .int .i64 30])) ∨ ∃ L v, refOpen text = some L ∧ e = .returned (.tuple #[v, .int .i64 0]) ∧ w'.ownsRow w.heap.size 36 3 v L.length (rowOf L))
def rszT (text : List UInt8) : Nat := bN (ofBig (text.drop (text.length - 21)))
def rmnT (text : List UInt8) : Nat := bN (ofBig (text.drop (text.length - 21 + 8)))
def rhdOk (text : List UInt8) : Bool := gO (ofBig (text.drop (text.length - 21))) && gO (ofBig (text.drop (text.length - 21 + 8))) && decide (rszT text ≤ text.length - 21) && decide (rmnT text ≤ 4096)
def refFinT (text : List UInt8) : Option (List Ce) → Option (List Ce)
  | none => none
  | some L => finL text L
theorem refOpen_head {text : List UInt8} (h : ¬ text.length < 21) : refOpen text = if rhdOk text = true then (if gO (get (text.drop (rszT text))) = true then refFinT text (refL text (rszT text) (gN (get (text.drop (rszT text)))) (gA (rszT text) (get (text.drop (rszT text)))) 0) else finL text []) else none := by
  unfold refOpen
  rw [if_neg h]
  cases e1 : ofBig (text.drop (text.length - 21)) with
  | none =>
    have hH : rhdOk text = false := by unfold rhdOk; rw [e1]; rfl
    rw [hH]
    rfl
  | some size =>
    cases e2 : ofBig (text.drop (text.length - 21 + 8)) with
    | none =>
      have hH : rhdOk text = false := by unfold rhdOk; rw [e1, e2]; rfl
      rw [hH]
      rfl
    | some many =>
      have hs : rszT text = size := by unfold rszT; rw [e1]; rfl
      have hm : rmnT text = many := by unfold rmnT; rw [e2]; rfl
      have hH0 : rhdOk text = (decide (size ≤ text.length - 21) && decide (many ≤ 4096)) := by
        unfold rhdOk
        rw [e1, e2, hs, hm]
        rfl
      dsimp only
      by_cases h3 : text.length - 21 < size ∨ 4096 < many
      · have hH : rhdOk text = false := by
          rw [hH0]
          rcases h3 with h3 | h3
          · rw [decide_eq_false (by omega)]; rfl
          · rw [decide_eq_false (show ¬ many ≤ 4096 by omega), Bool.and_false]
        rw [if_pos h3, hH]
        rfl
      · have hH : rhdOk text = true := by rw [hH0, decide_eq_true (by omega), decide_eq_true (by omega)]; rfl
        rw [if_neg h3, hH, if_pos rfl, hs]
        cases e3 : get (text.drop size) with
        | none => rfl
        | some r =>
          obtain ⟨n, k⟩ := r
          have e0 : gA size (some (n, k)) = size + k := by simp [gA]
          have en : gN (some (n, k)) = n := rfl
          have eo : gO (some (n, k)) = true := rfl
          rw [e0, en, eo, if_pos rfl]
          dsimp only
          cases refL text size n (size + k) 0 <;> rfl
theorem bne_bytes (b : List UInt8) : (b != b) = false := by simp
/-- what a round knows -/
structure RefOk (text : List UInt8) (sz bl a0 : Nat) (o0 : Bool) (i a fr : Nat) (L : List Ce) : Prop where
  hat : a ≤ text.length
  hfr : fr ≤ sz
  hl : L.length ≤ fr
  fit : ∀ c ∈ L, FitsC c
  good : o0 = true → refL text sz bl a0 0 = (refL text sz (bl - i) a fr).map fun r => L ++ r
  bad : o0 = false → bl = 0 ∧ L = []
theorem may_fits {c : Ce} (h : c.may = true) (hq : c.q ≤ 9223372036854775807) : FitsC c := by
  have := may_of h
  exact ⟨by omega, by omega, hq⟩
theorem RefOk.start {text : List UInt8} {sz bl a0 : Nat} {o0 : Bool} (h : a0 ≤ text.length) (hb : o0 = false → bl = 0) : RefOk text sz bl a0 o0 0 a0 0 [] := by
  refine ⟨h, Nat.zero_le _, by simp, by simp, fun _ => ?_, fun h => ⟨hb h, rfl⟩⟩
  rw [Nat.sub_zero]
  show _ = (refL text sz bl a0 0).map _
  cases refL text sz bl a0 0 <;> rfl
section
variable {text : List UInt8} {sz bl a0 : Nat} {o0 : Bool} {i a fr : Nat} {L : List Ce}
theorem RefOk.step (h : RefOk text sz bl a0 o0 i a fr L) (ho : o0 = true) (hi : i < bl) : refL text sz bl a0 0 = (refL text sz (bl - (i + 1) + 1) a fr).map fun r => L ++ r := by
  rw [h.good ho, show bl - i = bl - (i + 1) + 1 by omega]
theorem RefOk.stop1 (h : RefOk text sz bl a0 o0 i a fr L) (ho : o0 = true) (hi : i < bl) (h1 : gO (getText (text.drop a)) = false) : refL text sz bl a0 0 = none := by
  rw [h.step ho hi]
  unfold refL
  cases e : getText (text.drop a) with
  | none => rfl
  | some r => rw [e] at h1; cases h1
theorem RefOk.stop2 (h : RefOk text sz bl a0 o0 i a fr L) (ho : o0 = true) (hi : i < bl) (h1 : gO (getText (text.drop a)) = true) (h2 : gO (get (text.drop (tA a (getText (text.drop a))))) = false) : refL text sz bl a0 0 = none := by
  rw [h.step ho hi]
  unfold refL
  cases e : getText (text.drop a) with
  | none => rfl
  | some r =>
    obtain ⟨t, k1⟩ := r
    rw [e] at h2
    dsimp only [tA] at h2
    dsimp only
    cases e2 : get (text.drop (a + k1)) with
    | none => rfl
    | some r => rw [e2] at h2; cases h2
theorem RefOk.stop3 (h : RefOk text sz bl a0 o0 i a fr L) (ho : o0 = true) (hi : i < bl) (h2 : sz - fr < gN (get (text.drop (tA a (getText (text.drop a)))))) : refL text sz bl a0 0 = none := by
  rw [h.step ho hi]
  unfold refL
  cases e : getText (text.drop a) with
  | none => rfl
  | some r =>
    obtain ⟨t, k1⟩ := r
    rw [e] at h2
    dsimp only [tA] at h2
    dsimp only
    cases e2 : get (text.drop (a + k1)) with
    | none => rfl
    | some r =>
      obtain ⟨m, k2⟩ := r
      rw [e2] at h2
      dsimp only [gN] at h2
      dsimp only
      rw [if_pos h2]
      rfl
theorem RefOk.stop4 (h : RefOk text sz bl a0 o0 i a fr L) (ho : o0 = true) (hi : i < bl) (h2 : decB ((text.drop fr).take (gN (get (text.drop (tA a (getText (text.drop a))))))) = none) : refL text sz bl a0 0 = none := by
  rw [h.step ho hi]
  unfold refL
  cases e : getText (text.drop a) with
  | none => rfl
  | some r =>
    obtain ⟨t, k1⟩ := r
    rw [e] at h2
    dsimp only [tA] at h2
    dsimp only
    cases e2 : get (text.drop (a + k1)) with
    | none => rfl
    | some r =>
      obtain ⟨m, k2⟩ := r
      rw [e2] at h2
      dsimp only [gN] at h2
      dsimp only
      split
      · rfl
      · rw [h2]
        rfl
theorem RefOk.next (h : RefOk text sz bl a0 o0 i a fr L) (ho : o0 = true) (hi : i < bl) (h1 : gO (getText (text.drop a)) = true) (h2 : gO (get (text.drop (tA a (getText (text.drop a))))) = true) {m : Nat} (hm : gN (get (text.drop (tA a (getText (text.drop a))))) = m) (h3 : m ≤ sz - fr) {c : List Ce} (hc : decB ((text.drop fr).take m) = some c) :
    RefOk text sz bl a0 o0 (i + 1) (gA (tA a (getText (text.drop a))) (get (text.drop (tA a (getText (text.drop a)))))) (min (fr + m + 4) sz) (L ++ c) := by
  have hlen := decB_len hc
  have htl : ((text.drop fr).take m).length ≤ m := by rw [List.length_take]; omega
  refine ⟨?_, by omega, ?_, ?_, fun _ => ?_, fun hb => by rw [ho] at hb; cases hb⟩
  · have q1 : tA a (getText (text.drop a)) ≤ text.length := tA_le h.hat
    exact gA_le (l := text) (a := tA a (getText (text.drop a)))
  · rw [List.length_append]
    have := h.hl
    have := h.hfr
    omega
  · intro x hx
    rcases List.mem_append.1 hx with hx | hx
    · exact h.fit x hx
    · exact may_fits (sorted_may (decB_some hc).1 x hx) ((decB_fits hc).2 x hx)
  · rw [h.step ho hi]
    conv => lhs; unfold refL
    cases e : getText (text.drop a) with
    | none => rw [e] at h1; cases h1
    | some r =>
      obtain ⟨t, k1⟩ := r
      rw [e] at h2 hm
      dsimp only [tA] at h2 hm
      dsimp only [tA]
      cases e2 : get (text.drop (a + k1)) with
      | none => rw [e2] at h2; cases h2
      | some r =>
        obtain ⟨m', k2⟩ := r
        rw [e2] at hm
        obtain rfl : m' = m := hm
        dsimp only [gA]
        rw [if_neg (by omega), hc]
        dsimp only
        cases refL text sz (bl - (i + 1)) (a + k1 + k2) (min (fr + m' + 4) sz) with
        | none => rfl
        | some r => simp
theorem RefOk.fin (h : RefOk text sz bl a0 o0 i a fr L) (hc : i = bl ∨ o0 = false) : (if o0 = true then refFinT text (refL text sz bl a0 0) else finL text []) = finL text L := by
  cases o0 with
  | false =>
    obtain ⟨-, rfl⟩ := h.bad rfl
    rfl
  | true =>
    obtain rfl : i = bl := by simpa using hc
    rw [if_pos rfl, h.good rfl, Nat.sub_self]
    simp [refL, refFinT]
end
set_option maxRecDepth 100000 in
set_option maxHeartbeats 16000000 in
theorem refOpenT_any (text : List UInt8) (w : World) (hl : text.length ≤ 20000) : Calls Try.prog 25 #[.string ⟨text.toArray⟩] w (RefEx text w) := by
  have HOT := Lib.hid (fun h => refOpen_head (text := text) h)
  obtain ⟨N, hN⟩ : ∃ N, text.length = N := ⟨_, rfl⟩
  have hL2 : (⟨text.toArray⟩ : ByteArray).size = N := by rw [← hN]; simp [ByteArray.size]
  have HN := Lib.hid hN
  by_cases h21 : text.length < 21
  · have HO := Lib.hid (show refOpen text = none by unfold refOpen; rw [if_pos h21])
    rw [hN] at h21 hl
    have hlt : (N : Int) < 21 := by omega
    clear HOT h21 hN
    go_enter Try.func25, Try.ntmps25
    go_wp2_with fail
    go_ret2
    exact ⟨Below.refl _ _, .inl ⟨HO.out, rfl⟩⟩
  have ho := HOT.out h21
  obtain ⟨f, hf⟩ : ∃ f, text.length - 21 = f := ⟨_, rfl⟩
  have ob1 := fun W => refOfBigN_any text f W (by omega)
  have ob2 := fun W => refOfBigN_any text (f + 8) W (by omega)
  unfold rhdOk at ho
  have hsz0 : rszT text = bN (ofBig (text.drop f)) := by unfold rszT; rw [hf]
  have hmn0 : rmnT text = bN (ofBig (text.drop (f + 8))) := by unfold rmnT; rw [hf]
  rw [hf, hsz0, hmn0] at ho
  obtain ⟨sz, hsz⟩ : ∃ sz, bN (ofBig (text.drop f)) = sz := ⟨_, rfl⟩
  obtain ⟨mn, hmn⟩ : ∃ mn, bN (ofBig (text.drop (f + 8))) = mn := ⟨_, rfl⟩
  obtain ⟨g1, hg1⟩ : ∃ g1, gO (ofBig (text.drop f)) = g1 := ⟨_, rfl⟩
  obtain ⟨g2, hg2⟩ : ∃ g2, gO (ofBig (text.drop (f + 8))) = g2 := ⟨_, rfl⟩
  rw [hsz, hmn, hg1, hg2] at ho
  rw [hsz, hg1] at ob1
  rw [hmn, hg2] at ob2
  rw [show ((f + 8 : Nat) : Int) = (f : Int) + 8 by omega] at ob2
  have gc := fun W => refGetN_any text sz W (by omega)
  have GC := Lib.hid (fun W => (gc W).mono (fun e w' hh => by rw [getV_eq] at hh; exact hh))
  have OB1 := Lib.hid ob1
  have OB2 := Lib.hid ob2
  have HO := Lib.hid ho
  have h63 : mn ≤ 9223372036854775807 := by
    rw [← hmn]
    cases h : ofBig (text.drop (f + 8)) with
    | none => exact Nat.zero_le _
    | some n => exact (ofBig_some h).2.1
  have h64 : sz ≤ 9223372036854775807 := by
    rw [← hsz]
    cases h : ofBig (text.drop f) with
    | none => exact Nat.zero_le _
    | some n => exact (ofBig_some h).2.1
  rw [hN] at h21 hf hl
  have hlt : ¬ (N : Int) < 21 := by omega
  have hw0 : IntKind.i64.wrap ((N : Int) - 21) = (f : Int) := by rw [IntKind.wrap_i64]; omega
  have hw1 : IntKind.i64.wrap ((f : Int) + 8) = (f : Int) + 8 := by rw [IntKind.wrap_i64]; omega
  have hfb : f ≤ 20000 := by omega
  have HF := Lib.hid (And.intro hf hl)
  clear HOT h21 hN ho ob1 ob2 hsz0 hmn0 hsz hmn hg1 hg2 gc hf hl
  go_enter Try.func25, Try.ntmps25
  go_wp2_with fail
  refine (OB1.out _).mono ?_
  rintro e9 w1 ⟨rfl, hwx⟩
  subst hwx
  clear OB1
  go_wp2_with fail
  refine (OB2.out _).mono ?_
  rintro e9 w1 ⟨rfl, hwx⟩
  subst hwx
  clear OB2
  cases g1 with
  | false =>
    have HN0 := Lib.hid (show refOpen text = none by rw [HO.out]; rfl)
    clear HO
    go_wp2_with fail
    go_ret2
    exact ⟨Below.refl _ _, .inl ⟨HN0.out, rfl⟩⟩
  | true =>
  cases g2 with
  | false =>
    have HN0 := Lib.hid (show refOpen text = none by rw [HO.out]; rfl)
    clear HO
    go_wp2_with fail
    go_ret2
    exact ⟨Below.refl _ _, .inl ⟨HN0.out, rfl⟩⟩
  | true =>
  by_cases hsf : sz ≤ f
  rotate_left
  · have c1 : (f : Int) < (sz : Int) := by omega
    have HN0 := Lib.hid (show refOpen text = none by rw [HO.out, decide_eq_false hsf]; rfl)
    clear HO
    go_wp2_with fail
    go_ret2
    exact ⟨Below.refl _ _, .inl ⟨HN0.out, rfl⟩⟩
  have c1 : ¬ (f : Int) < (sz : Int) := by omega
  by_cases hmf : mn ≤ 4096
  rotate_left
  · have c2 : (4096 : Int) < (mn : Int) := by omega
    have HN0 := Lib.hid (show refOpen text = none by rw [HO.out, decide_eq_true hsf, decide_eq_false hmf]; rfl)
    clear HO
    go_wp2_with fail
    go_ret2
    exact ⟨Below.refl _ _, .inl ⟨HN0.out, rfl⟩⟩
  have c2 : ¬ (4096 : Int) < (mn : Int) := by omega
  have ho := HO.out
  rw [decide_eq_true hsf, decide_eq_true hmf] at ho
  simp only [Bool.and_self, if_true] at ho
  have hsN : sz ≤ text.length := by have := HF.out; have := HN.out; omega
  have hk63 : gA sz (get (text.drop sz)) ≤ text.length := gA_le (l := text) (a := sz)
  have hb0 : gO (get (text.drop sz)) = false → gN (get (text.drop sz)) = 0 := fun h => by
    cases e : get (text.drop sz) with
    | none => rfl
    | some r => rw [e] at h; cases h
  have hn63 : gN (get (text.drop sz)) ≤ 9223372036854775807 := gN_le (l := text) (a := sz)
  have cgt := fun a W => (refGetTextN_any text a W (by have := HF.out; have := HN.out; omega)).mono (fun e w' hh => by rw [getTextV_eq] at hh; exact hh)
  have cgn := fun a W => (refGetN_any text a W (by have := HF.out; have := HN.out; omega)).mono (fun e w' hh => by rw [getV_eq] at hh; exact hh)
  have CGT := Lib.hid cgt
  have CGN := Lib.hid cgn
  obtain ⟨bl, hbl⟩ : ∃ bl, gN (get (text.drop sz)) = bl := ⟨_, rfl⟩
  obtain ⟨a0, ha0⟩ : ∃ a0, gA sz (get (text.drop sz)) = a0 := ⟨_, rfl⟩
  obtain ⟨o0, ho0⟩ : ∃ o0, gO (get (text.drop sz)) = o0 := ⟨_, rfl⟩
  rw [hbl, ha0, ho0] at ho
  rw [hbl, ho0] at hb0
  rw [hbl] at hn63
  rw [ha0] at hk63
  rw [hbl, ha0, ho0] at GC
  have HO2 := Lib.hid ho
  have HB0 := Lib.hid (And.intro hb0 hk63)
  clear ho HO cgt cgn hbl ha0 ho0 hb0 hk63 hsN
  go_wp2_with fail
  refine (GC.out _).mono ?_
  rintro e9 w1 ⟨rfl, b1⟩
  have HB := Lib.hid b1
  clear GC b1
  go_wp2_with fail
  go_loopw [10, 11, 12, 13, 14] (fun va vo vl vf vi wr => ∃ (i a fr : Nat) (L : List Ce), va = .int .i64 a ∧ vo = .bool o0 ∧ vf = .int .i64 fr ∧ vi = .int .i64 i ∧ i ≤ bl ∧ Hid (RefOk text sz bl a0 o0 i a fr L) ∧ Hid (wr.ownsRow w.heap.size 36 3 vl L.length (rowOf L)) ∧ Hid (Below w.heap.size w wr)) (fun _ _ _ _ vi _ => bl - (intOf vi).toNat)
  case atStart => exact ⟨0, a0, 0, [], rfl, rfl, rfl, rfl, Nat.zero_le _, Lib.hid (RefOk.start HB0.out.2 HB0.out.1), Lib.hid (by simpa [rowOf] using World.ownsRow_nil _ _ _ _), HB⟩
  case round =>
    obtain ⟨i, a, fr, L, rfl, rfl, rfl, rfl, hi, HR, HW, HBB⟩ := hrel
    clear HB
    by_cases hib : i < bl
    · cases o0 with
      | false =>
        have := (HR.out.bad rfl).1
        omega
      | true =>
        have hii : (i : Int) < (bl : Int) := by omega
        have hfr := HR.out.hfr
        have hat := HR.out.hat
        have hLl := HR.out.hl
        obtain ⟨G1, hG1⟩ : ∃ G1, gO (getText (text.drop a)) = G1 := ⟨_, rfl⟩
        obtain ⟨j, hj⟩ : ∃ j, tA a (getText (text.drop a)) = j := ⟨_, rfl⟩
        obtain ⟨m, hm⟩ : ∃ m, gN (get (text.drop j)) = m := ⟨_, rfl⟩
        obtain ⟨G2, hG2⟩ : ∃ G2, gO (get (text.drop j)) = G2 := ⟨_, rfl⟩
        obtain ⟨a2, ha2⟩ : ∃ a2, gA j (get (text.drop j)) = a2 := ⟨_, rfl⟩
        have hm63 : m ≤ 9223372036854775807 := by rw [← hm]; exact gN_le (l := text) (a := j)
        have c1' := fun W => CGT.out a W
        have c2' := fun W => CGN.out j W
        rw [hG1, hj] at c1'
        rw [hm, hG2, ha2] at c2'
        have HQ := Lib.hid (And.intro hG1 (And.intro hj (And.intro hm (And.intro hG2 ha2))))
        have C1 := Lib.hid c1'
        have C2 := Lib.hid c2'
        clear c1' c2' hG1 hj hm hG2 ha2
        go_wp2_with fail
        refine (C1.out _).mono ?_
        rintro e9 w2 ⟨rfl, b2⟩
        have HB2 := Lib.hid (btB HBB.out b2)
        have HW2 := Lib.hid (own_lat HW.out b2)
        clear b2 C1 HW
        cases G1 with
        | false =>
          have HN0 := Lib.hid (show refOpen text = none by rw [HO2.out]; refine (if_pos (by trivial)).trans ?_; rw [HR.out.stop1 rfl hib HQ.out.1]; rfl)
          clear HO2
          go_wp2_with fail
          go_ret2
          exact ⟨HB2.out, .inl ⟨HN0.out, rfl⟩⟩
        | true =>
        go_wp2_with fail
        refine (C2.out _).mono ?_
        rintro e9 w3 ⟨rfl, b3⟩
        have HB3 := Lib.hid (btB HB2.out b3)
        have HW3 := Lib.hid (own_lat HW2.out b3)
        clear b3 C2 HW2
        cases G2 with
        | false =>
          have HN0 := Lib.hid (show refOpen text = none by rw [HO2.out]; refine (if_pos (by trivial)).trans ?_; rw [HR.out.stop2 rfl hib HQ.out.1 (by rw [HQ.out.2.1]; exact HQ.out.2.2.2.1)]; rfl)
          clear HO2
          go_wp2_with fail
          go_ret2
          exact ⟨HB3.out, .inl ⟨HN0.out, rfl⟩⟩
        | true =>
        obtain ⟨d, hd⟩ : ∃ d, sz - fr = d := ⟨_, rfl⟩
        have hw2 : IntKind.i64.wrap ((sz : Int) - (fr : Int)) = (d : Int) := by rw [IntKind.wrap_i64]; omega
        by_cases hmd : m ≤ d
        rotate_left
        · have c4 : (d : Int) < (m : Int) := by omega
          have HN0 := Lib.hid (show refOpen text = none by rw [HO2.out]; refine (if_pos (by trivial)).trans ?_; rw [HR.out.stop3 rfl hib (by rw [HQ.out.2.1, HQ.out.2.2.1]; omega)]; rfl)
          clear HO2
          go_wp2_with fail
          go_ret2
          exact ⟨HB3.out, .inl ⟨HN0.out, rfl⟩⟩
        have c4 : ¬ (d : Int) < (m : Int) := by omega
        have hw3 : IntKind.i64.wrap ((fr : Int) + (m : Int)) = (fr : Int) + (m : Int) := by rw [IntKind.wrap_i64]; omega
        have hw4 : IntKind.i64.wrap ((fr : Int) + (m : Int) + 4) = (fr : Int) + (m : Int) + 4 := by rw [IntKind.wrap_i64]; omega
        have hw5 : IntKind.i64.wrap ((i : Int) + 1) = (i : Int) + 1 := by rw [IntKind.wrap_i64]; omega
        obtain ⟨S, hS⟩ : ∃ S, (text.drop fr).take m = S := ⟨_, rfl⟩
        have hs1 : ∀ W, (Instr.slice 9 (.string ⟨text.toArray⟩) (some (.int .i64 (fr : Int))) (some (.int .i64 ((fr : Int) + (m : Int)))) none).run Try.prog W = .ok (.string ⟨S.toArray⟩) W := fun W => by
          have hh := slice_at ⟨text.toArray⟩ fr (fr + m) (fr : Int) ((fr : Int) + (m : Int)) rfl (by omega) (by omega) (by rw [hL2]; have := HF.out; omega) W
          have e1 : (⟨text.toArray⟩ : ByteArray).data.toList = text := by simp
          rw [e1, Nat.add_sub_cancel_left, hS] at hh
          exact hh
        have HS := Lib.hid hS
        have dc := fun W => refDecodeB_any S W (by rw [← hS, List.length_take, List.length_drop]; have := HF.out; have := HN.out; omega)
        have DC := Lib.hid dc
        have HMD := Lib.hid (And.intro hmd hd)
        have hfm : fr + m ≤ sz := by omega
        clear dc hS hmd hd
        go_wp2_with fail
        refine (DC.out _).mono ?_
        rintro e9 w4 ⟨b4, (⟨hdn, rfl⟩ | ⟨c, v, hdc, rfl, own⟩)⟩
        · have HB4 := Lib.hid (btB HB3.out b4)
          have HN0 := Lib.hid (show refOpen text = none by rw [HO2.out]; refine (if_pos (by trivial)).trans ?_; rw [HR.out.stop4 rfl hib (by rw [HQ.out.2.1, HQ.out.2.2.1, HS.out]; exact hdn)]; rfl)
          clear HO2 b4 hdn
          go_wp2_with fail
          go_ret2
          exact ⟨HB4.out, .inl ⟨HN0.out, rfl⟩⟩
        · have hcl : c.length ≤ m := by
            have h1 := decB_len hdc
            have h2 : S.length ≤ m := by rw [← HS.out, List.length_take]; omega
            omega
          have HNX := Lib.hid (HR.out.next (m := m) rfl hib HQ.out.1 (by rw [HQ.out.2.1]; exact HQ.out.2.2.2.1) (by rw [HQ.out.2.1]; exact HQ.out.2.2.1) (by rw [HMD.out.2]; exact HMD.out.1) (by rw [HS.out]; exact hdc))
          rw [HQ.out.2.1, HQ.out.2.2.2.2] at HNX
          obtain ⟨v9, w9, run9, own9, b9, -⟩ := run_append_slk (own_lat HW3.out b4) (Nat.le_trans HB3.out.size b4.size) (slAt_own own) (by omega)
          have RUN := Lib.hid run9
          have HW9 := Lib.hid own9
          have HB9 := Lib.hid ((btB HB3.out b4).trans b9)
          clear run9 own9 b9 own b4 hdc DC HW3
          go_wp2_with (at_builtin; refine wpList_append_runE _ rfl _ _ 22 22 rfl _ _ rfl rfl RUN.out ?_)
          go_roundw
          case rel => exact ⟨i + 1, a2, min (fr + m + 4) sz, L ++ c, rfl, rfl, by congr 1; omega, by go_num, by omega, HNX, HW9, HB9⟩
          case measure => simp [intOf]; omega
    · obtain rfl : i = bl := by omega
      have hfr := HR.out.hfr
      have hLl := HR.out.hl
      have ho2 := HO2.out
      rw [HR.out.fin (.inl rfl)] at ho2
      have bc := fun W h => refBuildT_any u12 L W h HR.out.fit (by omega)
      unfold buildV at bc
      unfold finL at ho2
      have HO3 := Lib.hid ho2
      have hii : ¬ (i : Int) < (i : Int) := by omega
      clear HO2 ho2
      have BC := Lib.hid bc
      have hslu := slAt_own HW.out
      have HSL := Lib.hid hslu
      clear bc hslu
      go_wp2_with fail
      refine (BC.out _ HSL.out).mono ?_
      rintro e9 w2 ⟨rfl, b2⟩
      have HB2 := Lib.hid (btB HBB.out b2)
      have HW2 := Lib.hid (own_lat HW.out b2)
      clear b2 BC HW HSL
      by_cases hso : sortedB L = true
      · by_cases hm4 : 4096 < L.length
        · rw [if_pos hso, if_pos hm4]
          have HN0 := Lib.hid (show refOpen text = none by rw [HO3.out, if_neg]; rintro ⟨-, h, -⟩; omega)
          clear HO3
          go_wp2_with fail
          go_ret2
          exact ⟨HB2.out, .inl ⟨HN0.out, rfl⟩⟩
        · rw [if_pos hso, if_neg hm4]
          have ho3 := HO3.out
          obtain ⟨TB, hTB⟩ : ∃ TB, tableB L = TB := ⟨_, rfl⟩
          rw [hTB] at ho3 ⊢
          by_cases he : TB = text
          · subst he
            rw [if_pos ⟨hso, by omega, rfl⟩] at ho3
            have HN0 := Lib.hid ho3
            have n1 := bne_bytes TB
            clear HO3 ho3
            go_wp2_with fail
            go_ret2
            exact ⟨HB2.out, .inr ⟨L, _, HN0.out, rfl, HW2.out⟩⟩
          · have e1 : (TB == text) = false := by rw [beq_eq_false_iff_ne]; exact he
            have e2 : (TB != text) = true := by rw [bne, e1]; rfl
            rw [if_neg fun h => he h.2.2] at ho3
            have HN0 := Lib.hid ho3
            clear HO3 ho3 he
            go_wp2_with fail
            go_ret2
            exact ⟨HB2.out, .inl ⟨HN0.out, rfl⟩⟩
      · rw [if_neg hso]
        have HN0 := Lib.hid (show refOpen text = none by rw [HO3.out, if_neg fun h => hso h.1])
        clear HO3
        go_wp2_with fail
        go_ret2
        exact ⟨HB2.out, .inl ⟨HN0.out, rfl⟩⟩
end Go.Proofs.Ytanaoepakllohaa
