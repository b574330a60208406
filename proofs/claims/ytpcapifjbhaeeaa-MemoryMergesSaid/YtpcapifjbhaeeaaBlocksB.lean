/- Slices of cells in memory; the walks on whether they are sorted. -/
import Derived.Test.YtpcapifjbhaeeaaBlocksA
import Derived.BigQuiet
import Derived.Deep.QuietTactic
namespace Go.Proofs.Ytpcapifjbhaeeaa
set_option maxRecDepth 16000
open Go.RowKit Spoor

theorem btB {w a b : World} (h : Below w.heap.size w a) (k : Below a.heap.size a b) : Below w.heap.size w b := h.trans (k.mono h.size)
/-- the cells lie in a block from a place on -/
def RowAt (b o : Nat) (l : List Ce) (w : World) : Prop := b < w.heap.size ∧ ∀ i, i < l.length → w.rangeAt b (o + i * 3) (ceRow (l.getD i Ce.zero))
/-- a slice that holds the cells -/
def SlAt (s : Value) (l : List Ce) (w : World) : Prop := ∃ A cap, s = .slice A l.length cap ∧ l.length ≤ cap ∧ cap ≤ maxLen ∧ (0 < l.length → ∃ b o, A = some ⟨b, o, none⟩ ∧ RowAt b o l w)
theorem RowAt.cells {b o : Nat} {l : List Ce} {w : World} (h : RowAt b o l w) {i : Nat} (hi : i < l.length) :
    w.cell? ⟨b, o + i * 3, none⟩ = some (.string ⟨(l.getD i Ce.zero).k.toArray⟩) ∧ w.cell? ⟨b, o + i * 3 + 1, none⟩ = some (.int .i64 (l.getD i Ce.zero).q) ∧ w.cell? ⟨b, o + i * 3 + 2, none⟩ = some (.string ⟨(l.getD i Ce.zero).v.toArray⟩) :=
  ⟨h.2 i hi 0 _ rfl, h.2 i hi 1 _ rfl, h.2 i hi 2 _ rfl⟩
theorem range_later {b o B : Nat} {cs : List Value} {w w' : World} (h : w.rangeAt b o cs) (hb : Below B w w') (hlt : b < B) : w'.rangeAt b o cs := fun j v hv => (hb.cell (p := ⟨b, o + j, none⟩) hlt).trans (h j v hv)
theorem RowAt.later {b o : Nat} {l : List Ce} {w w' : World} {B : Nat} (h : RowAt b o l w) (hb : Below B w w') (hlt : b < B) : RowAt b o l w' :=
  ⟨Nat.lt_of_lt_of_le h.1 hb.size, fun i hi => range_later (h.2 i hi) hb hlt⟩
theorem SlAt.later {s : Value} {l : List Ce} {w w' : World} (h : SlAt s l w) (hb : Below w.heap.size w w') : SlAt s l w' := by
  obtain ⟨A, cap, h1, h2, h3, h4⟩ := h
  refine ⟨A, cap, h1, h2, h3, fun hl => ?_⟩
  obtain ⟨b, o, h5, h6⟩ := h4 hl
  exact ⟨b, o, h5, h6.later hb h6.1⟩
/-- a cell lies in a block of its own -/
def CeAt (b : Nat) (c : Ce) (w : World) : Prop := w.heap[b]? = some (.cells #[.string ⟨c.k.toArray⟩, .int .i64 c.q, .string ⟨c.v.toArray⟩] 33 (0, 0))
theorem CeAt.cell {b : Nat} {c : Ce} {w : World} (h : CeAt b c w) : w.cell? ⟨b, 0, none⟩ = some (.string ⟨c.k.toArray⟩) ∧ w.cell? ⟨b, 1, none⟩ = some (.int .i64 c.q) ∧ w.cell? ⟨b, 2, none⟩ = some (.string ⟨c.v.toArray⟩) := by
  refine ⟨?_, ?_, ?_⟩ <;> (rw [cell_of_row w b _ _ _ _ h]; rfl)
theorem CeAt.frees {b : Nat} {c : Ce} {w : World} (h : CeAt b c w) : w.frozen? ⟨b, 0, none⟩ = false ∧ w.frozen? ⟨b, 1, none⟩ = false ∧ w.frozen? ⟨b, 2, none⟩ = false := by
  refine ⟨?_, ?_, ?_⟩ <;> (unfold CeAt at h; simp [World.frozen?, h])
theorem CeAt.boxed (c : Ce) (w : World) : CeAt w.heap.size c (w.alloc (boxC c)) := heap_alloc_new w _
theorem CeAt.lt {b : Nat} {c : Ce} {w : World} (h : CeAt b c w) : b < w.heap.size := (Array.getElem?_eq_some_iff.1 h).1
theorem CeAt.later {B b : Nat} {c : Ce} {w w' : World} (h : CeAt b c w) (hb : Below B w w') (hlt : b < B) : CeAt b c w' := by
  unfold CeAt; rw [hb.block b hlt]; exact h
theorem CeAt.alloc' {b : Nat} {c : Ce} {w : World} (h : CeAt b c w) (o : Obj) : CeAt b c (w.alloc o) := (Below.heap_alloc w o b h.lt).trans h
theorem getD_lt {l : List Ce} {P : Ce → Prop} (h : ∀ c ∈ l, P c) {i : Nat} (hi : i < l.length) : P (l.getD i Ce.zero) := by
  have : l.getD i Ce.zero = l[i] := by simp [List.getD, hi]
  rw [this]
  exact h _ (List.getElem_mem hi)

set_option maxHeartbeats 4000000 in
theorem sortedC_any (s : Value) (l : List Ce) (w : World) (hs : SlAt s l w) (hf : ∀ c ∈ l, FitsC c) :
    Calls Try.prog 54 #[s] w fun e w' => e = .returned (.bool (sortedB l)) ∧ Below w.heap.size w w' := by
  obtain ⟨A, cap, rfl, h1, h2, h3⟩ := hs
  unfold maxLen at h2
  have H3 := Lib.hid h3
  have HF := Lib.hid hf
  obtain ⟨n, hn⟩ : ∃ n, l.length = n := ⟨_, rfl⟩
  have HN := Lib.hid hn
  rw [hn] at h1 ⊢
  clear h3 hf hn
  go_enter Try.func54, Try.ntmps54
  go_wp2_with fail
  go_loopw [8] (fun i wr => ∃ k : Nat, k ≤ n ∧ i = .int .i64 k ∧ sortedB (l.take k) = true ∧ Below w.heap.size w wr) (fun i _ => n - (intOf i).toNat)
  case atStart => exact ⟨0, by omega, rfl, rfl, Below.refl _ _⟩
  case round =>
    obtain ⟨k, hk, rfl, hsk, hb⟩ := hrel
    by_cases hlt : k < n
    · obtain ⟨b, o, rfl, hrow⟩ := H3.out (by rw [HN.out]; omega)
      have hlb := hrow.1
      have hrow := hrow.later hb hlb
      have hc := hrow.cells (i := k) (by rw [HN.out]; exact hlt)
      have hstep := sortedB_step l k (by rw [HN.out]; exact hlt)
      rw [hsk, Bool.true_and] at hstep
      have hfc := getD_lt HF.out (i := k) (by rw [HN.out]; exact hlt)
      have cm := fun W => may_any (l.getD k Ce.zero) W hfc
      have q1 := CeAt.boxed (l.getD k Ce.zero) wr
      have b1 := (Below.refl wr.heap.size wr).alloc (Nat.le_refl _) (boxC (l.getD k Ce.zero))
      have HK := Lib.hid hsk
      clear hsk hfc
      generalize hcc : l.getD k Ce.zero = c at *
      obtain ⟨x0, x1, x2⟩ := hc
      unfold boxC at q1 b1
      unfold ceVal at cm
      have B := btB hb b1
      have hrow1 := hrow.later b1 (Nat.lt_of_lt_of_le hlb hb.size)
      go_wp2_with fail
      generalize wr.alloc _ = w1 at *
      generalize wr.heap.size = g at *
      obtain ⟨y0, y1, y2⟩ := q1.cell
      have lt1 := q1.lt
      have lt2 := hrow1.1
      clear x0 x1 x2 hrow b1 hb q1 hlb
      cases hm : c.may with
      | false =>
        rw [hm] at cm
        have CM := Lib.hid cm
        have hno : sortedB l = false := sortedB_no l (k + 1) (by rw [hstep]; unfold prevOf; split <;> simp [okAfter, hm])
        clear cm hm hstep
        refine wp_region_more (by kernel_rfl) (by kernel_rfl) ?_
        repeat (go_big_quiet_step (fail))
        go_big_quiet_step (exact Calls.more (CM.out _))
        repeat (go_big_quiet_step (fail))
        refine wpQuiet_nil ?_
        rintro _ ⟨ex, rfl⟩
        have b2 := World.below_more w1 ex
        generalize w1.more ex = w2 at *
        have B := btB B b2
        go_wp2_with fail
        go_ret
        exact ⟨ret1 (by rw [hno]; rfl), B⟩
      | true =>
        rw [hm] at cm
        have CM := Lib.hid cm
        clear cm
        by_cases hk0 : k = 0
        · subst hk0
          have hyes : sortedB (l.take (0 + 1)) = true := by rw [hstep]; simp [prevOf, okAfter, hm]
          have HY := Lib.hid hyes
          clear hm hyes hstep
          refine wp_region_more (by kernel_rfl) (by kernel_rfl) ?_
          repeat (go_big_quiet_step (fail))
          go_big_quiet_step (exact Calls.more (CM.out _))
          repeat (go_big_quiet_step (fail))
          refine wpQuiet_nil ?_
          rintro _ ⟨ex, rfl⟩
          have b2 := World.below_more w1 ex
          generalize w1.more ex = w2 at *
          have B := btB B b2
          go_wp2_with fail
          go_roundw
          case rel => exact ⟨0 + 1, by omega, by go_num, HY.out, B⟩
          case measure => simp [intOf]; omega
        · have hpk : k - 1 < l.length := by rw [HN.out]; omega
          have hc2 := hrow1.cells hpk
          have hprev : prevOf l k = some (l.getD (k - 1) Ce.zero) := by unfold prevOf; rw [if_neg hk0]
          have cc := fun W => compare_any (l.getD (k - 1) Ce.zero) c W
          have hr := cmpCe_less (l.getD (k - 1) Ce.zero) c
          rw [hprev] at hstep
          simp only [okAfter, hm, Bool.true_and] at hstep
          generalize l.getD (k - 1) Ce.zero = d at *
          generalize cmpCe d c = r at *
          rw [← hstep] at hr
          obtain ⟨x0, x1, x2⟩ := hc2
          obtain ⟨j, rfl⟩ : ∃ j, k = j + 1 := ⟨k - 1, by omega⟩
          simp only [Nat.add_sub_cancel] at x0 x1 x2
          unfold ceVal at cc
          have CC := Lib.hid cc
          clear cc hm hprev hpk hk0 hstep
          cases hy : sortedB (l.take (j + 1 + 1)) with
          | false =>
            rw [hy] at hr
            have hno : sortedB l = false := sortedB_no l _ hy
            have hr1 : (0 ≤ r) = True := by simpa using hr
            clear hy hr
            refine wp_region_more (by kernel_rfl) (by kernel_rfl) ?_
            repeat (go_big_quiet_step (fail))
            go_big_quiet_step (exact Calls.more (CM.out _))
            repeat (go_big_quiet_step (fail))
            go_big_quiet_step (exact Calls.more (CC.out _))
            repeat (go_big_quiet_step (fail))
            refine wpQuiet_nil ?_
            rintro _ ⟨ex, rfl⟩
            have b2 := World.below_more w1 ex
            generalize w1.more ex = w2 at *
            have B := btB B b2
            go_wp2_with fail
            go_ret
            exact ⟨ret1 (by rw [hno]; rfl), B⟩
          | true =>
            rw [hy] at hr
            have HY := Lib.hid hy
            have hr1 : decide (0 ≤ r) = false := by simpa using hr
            clear hy hr
            refine wp_region_more (by kernel_rfl) (by kernel_rfl) ?_
            repeat (go_big_quiet_step (fail))
            go_big_quiet_step (exact Calls.more (CM.out _))
            repeat (go_big_quiet_step (fail))
            go_big_quiet_step (exact Calls.more (CC.out _))
            repeat (go_big_quiet_step (fail))
            refine wpQuiet_nil ?_
            rintro _ ⟨ex, rfl⟩
            have b2 := World.below_more w1 ex
            generalize w1.more ex = w2 at *
            have B := btB B b2
            go_wp2_with fail
            go_roundw
            case rel => exact ⟨j + 1 + 1, by omega, by go_num, HY.out, B⟩
            case measure => simp [intOf]; omega
    · obtain rfl : k = n := by omega
      go_wp2_with fail
      go_ret
      exact ⟨ret1 (by rw [List.take_of_length_le (by rw [HN.out]; exact Nat.le_refl _)] at hsk; rw [hsk]; rfl), hb⟩
end Go.Proofs.Ytpcapifjbhaeeaa
