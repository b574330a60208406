/- The walk of RowsTell. -/
import Derived.Test.YtfkjdjdgcegniaaRowsO
import Derived.Deep.CutRange
import Derived.Deep.DeepCutAuto
namespace Go.Proofs.Ytfkjdjdgcegniaa
set_option maxRecDepth 16000
open Go.RowKit Spoor
set_option linter.unusedVariables false

theorem eql_sp (x y : Sp) (W : World) : (binOp .eql 23 (spVal x) (spVal y)).run Try.prog W = .ok (.bool (decide (x = y))) W := by
  unfold spVal
  go_simp
  obtain ⟨a1, a2, a3, a4, a5, a6, a7, a8⟩ := x
  obtain ⟨b1, b2, b3, b4, b5, b6, b7, b8⟩ := y
  simp only [Sp.mk.injEq]
  by_cases h1 : a1 = b1 <;> by_cases h2 : a2 = b2 <;> by_cases h3 : a3 = b3 <;> by_cases h4 : a4 = b4 <;> simp [*]
  by_cases h5 : a5 = b5 <;> by_cases h6 : a6 = b6 <;> by_cases h7 : a7 = b7 <;> by_cases h8 : a8 = b8 <;> simp [*]
def cellsL (x : Sp) : List Ce := if x.ok = true then [cellA x, cellI x] else []
def cellsE (x : Sp) : Int := if x.ok = true then 0 else 2
theorem cells_out {x : Sp} {w : World} {e : Ending} {w' : World} (h : CellsEx x w e w') : Below w.heap.size w w' ∧ ∃ (A : Option Addr) (n cap : Nat), e = .returned (.tuple #[.slice A n cap, .int .i64 (cellsE x)]) ∧ SlAt (.slice A n cap) (cellsL x) w' := by
  obtain ⟨hb, ⟨h1, rfl⟩ | ⟨h1, g, _, rfl, tw⟩⟩ := h
  · refine ⟨hb, none, 0, 0, ?_, ?_⟩
    · unfold cellsE; rw [h1]; rfl
    · unfold cellsL; rw [h1]; exact sl_nil w'
  · refine ⟨hb, some ⟨g, 0, none⟩, 2, 2, ?_, ?_⟩
    · unfold cellsE; rw [h1]; rfl
    · unfold cellsL; rw [h1]; exact tw.sl
theorem one_cell (c : Ce) (w : World) : SlAt (.slice (some ⟨w.heap.size, 0, none⟩) 1 1) [c] (w.alloc (boxC c)) := by
  refine ⟨some ⟨w.heap.size, 0, none⟩, 1, rfl, by simp, by unfold maxLen; omega, fun _ => ⟨w.heap.size, 0, rfl, by simp, fun i hi j v hv => ?_⟩⟩
  obtain rfl : i = 0 := by simpa using hi
  obtain ⟨k0, k1, k2⟩ := (CeAt.boxed c w).cell
  have hj : j < 3 := by
    have := (List.getElem?_eq_some_iff.1 hv).1
    simpa [ceRow] using this
  simp only [Nat.zero_mul, Nat.zero_add]
  match j, hj, hv with
  | 0, _, hv => simp [ceRow] at hv; rw [← hv]; exact k0
  | 1, _, hv => simp [ceRow] at hv; rw [← hv]; exact k1
  | 2, _, hv => simp [ceRow] at hv; rw [← hv]; exact k2
theorem near_fits {x : Sp} {l : List Sp} {many : Nat} (h : farS l many = false) (hx : x ∈ l) : Fits x ∧ x.sv.length ≤ 100 ∧ x.ho.length ≤ 100 ∧ x.no.length ≤ 100 := by
  unfold farS at h
  simp only [Bool.or_eq_false_iff, List.any_eq_false] at h
  have := h.2 x hx
  unfold bigS at this
  simp only [Bool.or_eq_true, decide_eq_true_eq, not_or] at this
  unfold Fits
  omega
theorem near_len {l : List Sp} {many : Nat} (h : farS l many = false) : l.length ≤ many := by
  unfold farS at h
  simp only [Bool.or_eq_false_iff, decide_eq_false_iff_not] at h
  omega
theorem near_fitsC {c : Ce} {l : List Ce} {many : Nat} (h : farC l many = false) (hx : c ∈ l) (hw : WfC c) : FitsC c := by
  unfold farC at h
  simp only [Bool.or_eq_false_iff, List.any_eq_false] at h
  have := h.2 c hx
  unfold bigC at this
  simp only [Bool.or_eq_true, decide_eq_true_eq, not_or] at this
  exact ⟨by omega, by omega, hw.2.2⟩
theorem spanV_form (o : Option Sp) : ∃ (y : Sp) (b : Bool), spanV o = .tuple #[spVal y, .bool b] := by
  cases o with
  | none => exact ⟨Sp.zero, false, rfl⟩
  | some x => exact ⟨x, true, rfl⟩
/-- a span's box, and a cell's, behind it -/
structure TeAt (W : World) (x : Sp) (c : Ce) (wr : World) : Prop where
  sp : SpAt W.heap.size x wr
  ce : CeAt (W.heap.size + 1) c wr
  bel : Below W.heap.size W wr
theorem TeAt.later {W : World} {x : Sp} {c : Ce} {wr w' : World} (h : TeAt W x c wr) (hb : Below wr.heap.size wr w') : TeAt W x c w' :=
  ⟨h.sp.later hb h.sp.lt, h.ce.later hb h.ce.lt, btP h.bel hb⟩
theorem TeAt.start (W : World) (x : Sp) (c : Ce) : TeAt W x c ((W.alloc (boxX x)).alloc (boxC c)) := by
  refine ⟨(SpAt.boxed x W).alloc' _, ?_, ((Below.refl _ _).alloc (Nat.le_refl _) _).alloc (by simp) _⟩
  have := CeAt.boxed c (W.alloc (boxX x))
  rwa [alloc_size] at this
theorem rowsTell_late (st now : Int) (h1 : I64 st) (h2 : I64 now) (h : st ≤ now) : lateB st now = decide ((60 : Int) ≤ IntKind.u64.wrap (IntKind.u64.wrap now - IntKind.u64.wrap st)) := by
  rw [late_wrap st now h1.1 h2.2 h]
  unfold lateB
  rw [decide_eq_decide]
  omega

set_option maxRecDepth 100000 in
set_option maxHeartbeats 16000000 in
theorem rowsTell_law (x : Sp) (c : Ce) (now : Int) (hx : WfS x) (hst : I64 x.st) (hc : WfC c) (hn : I64 now) (W : World) :
    Calls Try.prog 3 #[spVal x, ceVal c, .int .i64 now] W fun e w' => e = .returned (.bool true) ∧ Below W.heap.size W w' := by
  have CDO := Lib.hid lives_true
  have cb := fun v W (h : SlS v [x] W) => beyondS_any v [x] 1 W h (by simpa using hx) (by omega)
  have cb2 := fun v W (h : SlAt v [c] W) => beyondC_any v [c] 1 W h (by simpa using hc) (by omega)
  have cells_spec := fun (hf : Fits x) => fun W => (cells_any x W hf).mono fun _ _ h => cells_out h
  have cells_spec2 := fun (hf : Fits x) => fun W => (refCells_any x W hf).mono fun _ _ h => cells_out h
  have M := Lib.hid (TeAt.start W x c)
  have span_spec := fun (hf : FitsC c) => fun W => span_any c W hf
  have span_spec2 := fun (hf : FitsC c) => fun W => refSpan_any c W hf
  have dr := fun (hf : FitsC c) => fun W => dropped_any c now W hf hn
  have dr2 := fun (hf : FitsC c) => fun W => refDropped_any c now W hf hn
  have ex := fun W => expired_any x now W hst hn
  cases hfar : farS [x] 1 with
  | true =>
    rw [hfar] at cb
    have CB := Lib.hid cb
    clear cb cb2 cells_spec cells_spec2 span_spec span_spec2 dr dr2 ex hfar hx hst hc hn
    obtain ⟨w2, hw2⟩ : ∃ w2, (W.alloc (boxX x)).alloc (boxC c) = w2 := ⟨_, rfl⟩
    rw [hw2] at M
    unfold boxX boxC at hw2
    have HW := Lib.hid hw2
    clear hw2
    obtain ⟨a0, a1, a2, a3, a4, a5, a6, a7⟩ := M.out.sp.cell
    unfold spVal ceVal at *
    go_enter Try.func3, Try.ntmps3
    go_upto_region 1 with fail
    rw [HW.out]
    clear HW
    have bx := box_latS (w := w2) (boxX x)
    have SL := Lib.hid (one_span x w2)
    have M := Lib.hid (M.out.later bx)
    unfold boxX at SL M
    clear bx
    go_wp2_with fail
    refine (CB.out _ _ SL.out).mono ?_
    rintro e w3 ⟨rfl, b3⟩
    have M := Lib.hid (M.out.later b3)
    clear b3 a0 a1 a2 a3 a4 a5 a6 a7
    go_wp2_with fail
    refine (CDO.out _).mono ?_
    rintro e w4 ⟨rfl, b4⟩
    go_wp2_with fail
    go_ret
    exact ⟨rfl, btP M.out.bel b4⟩
  | false =>
    have hfx := (near_fits hfar (by simp : x ∈ [x])).1
    rw [hfar] at cb
    have CB := Lib.hid cb
    cases hfarc : farC [c] 1 with
    | true =>
      rw [hfarc] at cb2
      have CB2 := Lib.hid cb2
      clear cb cb2 cells_spec cells_spec2 span_spec span_spec2 dr dr2 ex hfar hfarc hx hst hc hn hfx
      obtain ⟨w2, hw2⟩ : ∃ w2, (W.alloc (boxX x)).alloc (boxC c) = w2 := ⟨_, rfl⟩
      rw [hw2] at M
      unfold boxX boxC at hw2
      have HW := Lib.hid hw2
      clear hw2
      obtain ⟨a0, a1, a2, a3, a4, a5, a6, a7⟩ := M.out.sp.cell
      unfold spVal ceVal at *
      go_enter Try.func3, Try.ntmps3
      go_upto_region 1 with fail
      rw [HW.out]
      clear HW
      have bx := box_latS (w := w2) (boxX x)
      have SL := Lib.hid (one_span x w2)
      have M := Lib.hid (M.out.later bx)
      unfold boxX at SL M
      clear bx
      go_wp2_with fail
      refine (CB.out _ _ SL.out).mono ?_
      rintro e w3 ⟨rfl, b3⟩
      have M := Lib.hid (M.out.later b3)
      clear b3 a0 a1 a2 a3 a4 a5 a6 a7
      obtain ⟨k0, k1, k2⟩ := M.out.ce.cell
      have bc := box_latS (w := w3) (boxC c)
      have SC := Lib.hid (one_cell c w3)
      have M := Lib.hid (M.out.later bc)
      unfold boxC at SC M
      clear bc
      go_wp2_with fail
      refine (CB2.out _ _ SC.out).mono ?_
      rintro e w4 ⟨rfl, b4⟩
      have M := Lib.hid (M.out.later b4)
      clear b4 k0 k1 k2
      go_wp2_with fail
      refine (CDO.out _).mono ?_
      rintro e w5 ⟨rfl, b5⟩
      go_wp2_with fail
      go_ret
      exact ⟨rfl, btP M.out.bel b5⟩
    | false =>
      have hfc := near_fitsC hfarc (by simp : c ∈ [c]) hc
      rw [hfarc] at cb2
      have CB2 := Lib.hid cb2
      have c1 := cells_spec hfx
      have c2 := cells_spec2 hfx
      have c3 := span_spec hfc
      have c4 := span_spec2 hfc
      have c5 := dr hfc
      have c6 := dr2 hfc
      obtain ⟨y, ok, hy⟩ := spanV_form (spanR c)
      rw [hy] at c3 c4
      have SC : Hid (∀ (A B : Option Addr) (n m p q : Nat) (W : World), SlAt (.slice A n p) (cellsL x) W → SlAt (.slice B m q) (cellsL x) W → Calls Try.prog 16 #[.slice A n p, .slice B m q] W fun e w' => e = .returned (.bool true) ∧ Below W.heap.size W w') := Lib.hid (fun A B n m p q W h k => by
        have := sameCells_any (.slice A n p) (.slice B m q) (cellsL x) (cellsL x) W h k
        rwa [decide_eq_true rfl] at this)
      have el := fun W => eql_sp y y W
      rw [decide_eq_true rfl] at el
      obtain ⟨E, hE⟩ : ∃ E, cellsE x = E := ⟨_, rfl⟩
      rw [hE] at c1 c2
      obtain ⟨R, hR⟩ : ∃ R, dropR c now = R := ⟨_, rfl⟩
      rw [hR] at c5 c6
      have hl := rowsTell_late x.st now hst hn
      have hl2 : ¬ x.st ≤ now → lateB x.st now = false := fun h => by unfold lateB; exact decide_eq_false (by omega)
      have HLT := Lib.hid (And.intro hl hl2)
      obtain ⟨L, hL⟩ : ∃ L, lateB x.st now = L := ⟨_, rfl⟩
      rw [hL] at ex HLT
      unfold spVal at c1 c2 c3 c4 el ex
      unfold ceVal at c3 c4 c5 c6
      have C1 := Lib.hid c1
      have C2 := Lib.hid c2
      have C3 := Lib.hid c3
      have C4 := Lib.hid c4
      have C5 := Lib.hid c5
      have C6 := Lib.hid c6
      have EX := Lib.hid ex
      have EL := Lib.hid el
      clear cb cb2 cells_spec cells_spec2 span_spec span_spec2 dr dr2 ex hfar hfarc hx hst hc hn hfx hfc c1 c2 c3 c4 c5 c6 hy el hE hR hl hl2 hL
      obtain ⟨w2, hw2⟩ : ∃ w2, (W.alloc (boxX x)).alloc (boxC c) = w2 := ⟨_, rfl⟩
      rw [hw2] at M
      unfold boxX boxC at hw2
      have HW := Lib.hid hw2
      clear hw2
      obtain ⟨a0, a1, a2, a3, a4, a5, a6, a7⟩ := M.out.sp.cell
      unfold spVal ceVal
      go_enter Try.func3, Try.ntmps3
      go_upto_region 1 with fail
      rw [HW.out]
      clear HW
      have bx := box_latS (w := w2) (boxX x)
      have SL := Lib.hid (one_span x w2)
      have M := Lib.hid (M.out.later bx)
      unfold boxX at SL M
      clear bx
      go_wp2_with fail
      refine (CB.out _ _ SL.out).mono ?_
      rintro e w3 ⟨rfl, b3⟩
      have M := Lib.hid (M.out.later b3)
      clear b3 a0 a1 a2 a3 a4 a5 a6 a7 SL
      obtain ⟨k0, k1, k2⟩ := M.out.ce.cell
      have bc := box_latS (w := w3) (boxC c)
      have SL := Lib.hid (one_cell c w3)
      have M := Lib.hid (M.out.later bc)
      unfold boxC at SL M
      clear bc
      go_wp2_with fail
      refine (CB2.out _ _ SL.out).mono ?_
      rintro e w4 ⟨rfl, b4⟩
      have M := Lib.hid (M.out.later b4)
      clear b4 k0 k1 k2 SL
      obtain ⟨a0, a1, a2, a3, a4, a5, a6, a7⟩ := M.out.sp.cell
      go_wp2_with fail
      refine (C1.out _).mono ?_
      rintro e w5 ⟨b5, A, n, p, rfl, sa⟩
      have M := Lib.hid (M.out.later b5)
      have SA := Lib.hid sa
      clear b5 sa a0 a1 a2 a3 a4 a5 a6 a7
      obtain ⟨a0, a1, a2, a3, a4, a5, a6, a7⟩ := M.out.sp.cell
      go_wp2_with fail
      refine (C2.out _).mono ?_
      rintro e w6 ⟨b6, B, m, q, rfl, sb⟩
      have M := Lib.hid (M.out.later b6)
      have SA := Lib.hid (SA.out.later b6)
      have SB := Lib.hid sb
      clear b6 sb a0 a1 a2 a3 a4 a5 a6 a7
      obtain ⟨k0, k1, k2⟩ := M.out.ce.cell
      go_wp2_with fail
      refine (C3.out _).mono ?_
      rintro e w7 ⟨rfl, b7⟩
      have bx := spBox y w7
      have M := Lib.hid ((M.out.later b7).later bx)
      have SA := Lib.hid ((SA.out.later b7).later bx)
      have SB := Lib.hid ((SB.out.later b7).later bx)
      have QY := Lib.hid (SpAt.boxed y w7)
      clear b7 bx k0 k1 k2
      obtain ⟨k0, k1, k2⟩ := M.out.ce.cell
      go_wp2_with fail
      refine (C4.out _).mono ?_
      rintro e w8 ⟨rfl, b8⟩
      have bx := spBox y w8
      have M := Lib.hid ((M.out.later b8).later bx)
      have SA := Lib.hid ((SA.out.later b8).later bx)
      have SB := Lib.hid ((SB.out.later b8).later bx)
      have QY := Lib.hid (SpAt.later (SpAt.later QY.out b8 (SpAt.lt QY.out)) bx (Nat.lt_of_lt_of_le (SpAt.lt QY.out) b8.size))
      have QZ := Lib.hid (SpAt.boxed y w8)
      clear b8 bx k0 k1 k2
      go_upto_region 7 with fail

      obtain ⟨wz, hwz⟩ : ∃ wz, w8.alloc (.cells #[.int .i64 y.tr, .int .i64 y.id, .int .i64 y.pa, .string ⟨y.sv.toArray⟩, .string ⟨y.ho.toArray⟩, .int .i64 y.st, .int .i64 y.du, .string ⟨y.no.toArray⟩] 23) = wz := ⟨_, rfl⟩
      rw [hwz] at M SA SB QY QZ ⊢
      clear hwz
      obtain ⟨a0, a1, a2, a3, a4, a5, a6, a7⟩ := M.out.sp.cell
      have hp0 : W.heap.size < wz.heap.size := SpAt.lt M.out.sp
      go_cut [60] (fun v wx => v = .bool false ∧ Hid (TeAt W x c wx) ∧ Hid (SlAt (.slice A n p) (cellsL x) wx) ∧ Hid (SlAt (.slice B m q) (cellsL x) wx) ∧ Hid (SpAt w7.heap.size y wx) ∧ Hid (SpAt w8.heap.size y wx))
      case first =>
        by_cases h : x.st ≤ now
        · obtain rfl := HLT.out.1 (by omega)
          skip
          refine wp_region_more (by kernel_rfl) (by kernel_rfl) ?_
          repeat (go_big_quiet_step (fail))
          go_big_quiet_step (exact Calls.more (EX.out _))
          repeat (go_big_quiet_step (fail))
          refine wpQuiet_nil ?_
          rintro _ ⟨ex, rfl⟩
          have BB := World.below_more wz ex
          go_wp2_with fail
          go_meet
          exact ⟨rfl, Lib.hid (M.out.later BB), Lib.hid (SA.out.later BB), Lib.hid (SB.out.later BB), Lib.hid (SpAt.later QY.out BB (SpAt.lt QY.out)), Lib.hid (SpAt.later QZ.out BB (SpAt.lt QZ.out))⟩
        · obtain rfl := HLT.out.2 (by omega)
          have h5 : (x.st ≤ now) = False := eq_false h; have h6 : decide (x.st ≤ now) = false := decide_eq_false h; clear h HLT
          refine wp_region_more (by kernel_rfl) (by kernel_rfl) ?_
          repeat (go_big_quiet_step (fail))
          go_big_quiet_step (exact Calls.more (EX.out _))
          repeat (go_big_quiet_step (fail))
          refine wpQuiet_nil ?_
          rintro _ ⟨ex, rfl⟩
          have BB := World.below_more wz ex
          go_wp2_with fail
          go_meet
          exact ⟨rfl, Lib.hid (M.out.later BB), Lib.hid (SA.out.later BB), Lib.hid (SB.out.later BB), Lib.hid (SpAt.later QY.out BB (SpAt.lt QY.out)), Lib.hid (SpAt.later QZ.out BB (SpAt.lt QZ.out))⟩
      case rest =>
        obtain ⟨rfl, HM, HA, HB, HY, HZ⟩ := hcut
        clear M SA SB QY QZ EX C1 C2 C3 C4 CB CB2
        obtain ⟨k0, k1, k2⟩ := HM.out.ce.cell
        obtain ⟨y0, y1, y2, y3, y4, y5, y6, y7⟩ := HY.out.cell
        obtain ⟨z0, z1, z2, z3, z4, z5, z6, z7⟩ := HZ.out.cell
        have hp0 := SpAt.lt HY.out
        have hp1 := SpAt.lt HZ.out
        have hp2 := CeAt.lt HM.out.ce
        have el := EL.out
        go_upto_region 9 with fail
        go_region_held3 (fun W' => W'.cell? ⟨w7.heap.size, 0, none⟩ = some (.int .i64 y.tr) ∧ W'.cell? ⟨w7.heap.size, 1, none⟩ = some (.int .i64 y.id) ∧ W'.cell? ⟨w7.heap.size, 2, none⟩ = some (.int .i64 y.pa) ∧ W'.cell? ⟨w7.heap.size, 3, none⟩ = some (.string ⟨y.sv.toArray⟩) ∧ W'.cell? ⟨w7.heap.size, 4, none⟩ = some (.string ⟨y.ho.toArray⟩) ∧ W'.cell? ⟨w7.heap.size, 5, none⟩ = some (.int .i64 y.st) ∧ W'.cell? ⟨w7.heap.size, 6, none⟩ = some (.int .i64 y.du) ∧ W'.cell? ⟨w7.heap.size, 7, none⟩ = some (.string ⟨y.no.toArray⟩) ∧ W'.cell? ⟨w8.heap.size, 0, none⟩ = some (.int .i64 y.tr) ∧ W'.cell? ⟨w8.heap.size, 1, none⟩ = some (.int .i64 y.id) ∧ W'.cell? ⟨w8.heap.size, 2, none⟩ = some (.int .i64 y.pa) ∧ W'.cell? ⟨w8.heap.size, 3, none⟩ = some (.string ⟨y.sv.toArray⟩) ∧ W'.cell? ⟨w8.heap.size, 4, none⟩ = some (.string ⟨y.ho.toArray⟩) ∧ W'.cell? ⟨w8.heap.size, 5, none⟩ = some (.int .i64 y.st) ∧ W'.cell? ⟨w8.heap.size, 6, none⟩ = some (.int .i64 y.du) ∧ W'.cell? ⟨w8.heap.size, 7, none⟩ = some (.string ⟨y.no.toArray⟩) ∧ W'.cell? ⟨W.heap.size + 1, 0, none⟩ = some (.string ⟨c.k.toArray⟩) ∧ W'.cell? ⟨W.heap.size + 1, 1, none⟩ = some (.int .i64 c.q) ∧ W'.cell? ⟨W.heap.size + 1, 2, none⟩ = some (.string ⟨c.v.toArray⟩)) (go_keep)
          (first
            | (go_at_call 16; refine (SC.out _ _ _ _ _ _ _ (HA.out.later (_root_.Go.below_drewN (Below.refl _ _) _)) (HB.out.later (_root_.Go.below_drewN (Below.refl _ _) _))).mono ?_; rintro e w9 ⟨rfl, b9⟩; have BB := btP (_root_.Go.below_drewN HM.out.bel _) b9; have u0 := (b9.cell (p := ⟨w7.heap.size, 0, none⟩) (by assumption)).trans (by assumption); have u1 := (b9.cell (p := ⟨w7.heap.size, 1, none⟩) (by assumption)).trans (by assumption); have u2 := (b9.cell (p := ⟨w7.heap.size, 2, none⟩) (by assumption)).trans (by assumption); have u3 := (b9.cell (p := ⟨w7.heap.size, 3, none⟩) (by assumption)).trans (by assumption); have u4 := (b9.cell (p := ⟨w7.heap.size, 4, none⟩) (by assumption)).trans (by assumption); have u5 := (b9.cell (p := ⟨w7.heap.size, 5, none⟩) (by assumption)).trans (by assumption); have u6 := (b9.cell (p := ⟨w7.heap.size, 6, none⟩) (by assumption)).trans (by assumption); have u7 := (b9.cell (p := ⟨w7.heap.size, 7, none⟩) (by assumption)).trans (by assumption); have u8 := (b9.cell (p := ⟨w8.heap.size, 0, none⟩) (by assumption)).trans (by assumption); have u9 := (b9.cell (p := ⟨w8.heap.size, 1, none⟩) (by assumption)).trans (by assumption); have u10 := (b9.cell (p := ⟨w8.heap.size, 2, none⟩) (by assumption)).trans (by assumption); have u11 := (b9.cell (p := ⟨w8.heap.size, 3, none⟩) (by assumption)).trans (by assumption); have u12 := (b9.cell (p := ⟨w8.heap.size, 4, none⟩) (by assumption)).trans (by assumption); have u13 := (b9.cell (p := ⟨w8.heap.size, 5, none⟩) (by assumption)).trans (by assumption); have u14 := (b9.cell (p := ⟨w8.heap.size, 6, none⟩) (by assumption)).trans (by assumption); have u15 := (b9.cell (p := ⟨w8.heap.size, 7, none⟩) (by assumption)).trans (by assumption); have u16 := (b9.cell (p := ⟨W.heap.size + 1, 0, none⟩) (by assumption)).trans (by assumption); have u17 := (b9.cell (p := ⟨W.heap.size + 1, 1, none⟩) (by assumption)).trans (by assumption); have u18 := (b9.cell (p := ⟨W.heap.size + 1, 2, none⟩) (by assumption)).trans (by assumption); have hp0 := Nat.lt_of_lt_of_le (by assumption : w7.heap.size < _) b9.size; have hp1 := Nat.lt_of_lt_of_le (by assumption : w8.heap.size < _) b9.size; have hp2 := Nat.lt_of_lt_of_le (by assumption : W.heap.size + 1 < _) b9.size)
            | (go_at_call 17; refine (C5.out _).mono ?_; rintro e w9 ⟨rfl, b9⟩; have BB := btP BB b9; have u0 := (b9.cell (p := ⟨w7.heap.size, 0, none⟩) (by assumption)).trans (by assumption); have u1 := (b9.cell (p := ⟨w7.heap.size, 1, none⟩) (by assumption)).trans (by assumption); have u2 := (b9.cell (p := ⟨w7.heap.size, 2, none⟩) (by assumption)).trans (by assumption); have u3 := (b9.cell (p := ⟨w7.heap.size, 3, none⟩) (by assumption)).trans (by assumption); have u4 := (b9.cell (p := ⟨w7.heap.size, 4, none⟩) (by assumption)).trans (by assumption); have u5 := (b9.cell (p := ⟨w7.heap.size, 5, none⟩) (by assumption)).trans (by assumption); have u6 := (b9.cell (p := ⟨w7.heap.size, 6, none⟩) (by assumption)).trans (by assumption); have u7 := (b9.cell (p := ⟨w7.heap.size, 7, none⟩) (by assumption)).trans (by assumption); have u8 := (b9.cell (p := ⟨w8.heap.size, 0, none⟩) (by assumption)).trans (by assumption); have u9 := (b9.cell (p := ⟨w8.heap.size, 1, none⟩) (by assumption)).trans (by assumption); have u10 := (b9.cell (p := ⟨w8.heap.size, 2, none⟩) (by assumption)).trans (by assumption); have u11 := (b9.cell (p := ⟨w8.heap.size, 3, none⟩) (by assumption)).trans (by assumption); have u12 := (b9.cell (p := ⟨w8.heap.size, 4, none⟩) (by assumption)).trans (by assumption); have u13 := (b9.cell (p := ⟨w8.heap.size, 5, none⟩) (by assumption)).trans (by assumption); have u14 := (b9.cell (p := ⟨w8.heap.size, 6, none⟩) (by assumption)).trans (by assumption); have u15 := (b9.cell (p := ⟨w8.heap.size, 7, none⟩) (by assumption)).trans (by assumption); have u16 := (b9.cell (p := ⟨W.heap.size + 1, 0, none⟩) (by assumption)).trans (by assumption); have u17 := (b9.cell (p := ⟨W.heap.size + 1, 1, none⟩) (by assumption)).trans (by assumption); have u18 := (b9.cell (p := ⟨W.heap.size + 1, 2, none⟩) (by assumption)).trans (by assumption); have hp0 := Nat.lt_of_lt_of_le (by assumption : w7.heap.size < _) b9.size; have hp1 := Nat.lt_of_lt_of_le (by assumption : w8.heap.size < _) b9.size; have hp2 := Nat.lt_of_lt_of_le (by assumption : W.heap.size + 1 < _) b9.size)
            | (go_at_call 18; refine (C6.out _).mono ?_; rintro e w9 ⟨rfl, b9⟩; have BB := btP BB b9; have u0 := (b9.cell (p := ⟨w7.heap.size, 0, none⟩) (by assumption)).trans (by assumption); have u1 := (b9.cell (p := ⟨w7.heap.size, 1, none⟩) (by assumption)).trans (by assumption); have u2 := (b9.cell (p := ⟨w7.heap.size, 2, none⟩) (by assumption)).trans (by assumption); have u3 := (b9.cell (p := ⟨w7.heap.size, 3, none⟩) (by assumption)).trans (by assumption); have u4 := (b9.cell (p := ⟨w7.heap.size, 4, none⟩) (by assumption)).trans (by assumption); have u5 := (b9.cell (p := ⟨w7.heap.size, 5, none⟩) (by assumption)).trans (by assumption); have u6 := (b9.cell (p := ⟨w7.heap.size, 6, none⟩) (by assumption)).trans (by assumption); have u7 := (b9.cell (p := ⟨w7.heap.size, 7, none⟩) (by assumption)).trans (by assumption); have u8 := (b9.cell (p := ⟨w8.heap.size, 0, none⟩) (by assumption)).trans (by assumption); have u9 := (b9.cell (p := ⟨w8.heap.size, 1, none⟩) (by assumption)).trans (by assumption); have u10 := (b9.cell (p := ⟨w8.heap.size, 2, none⟩) (by assumption)).trans (by assumption); have u11 := (b9.cell (p := ⟨w8.heap.size, 3, none⟩) (by assumption)).trans (by assumption); have u12 := (b9.cell (p := ⟨w8.heap.size, 4, none⟩) (by assumption)).trans (by assumption); have u13 := (b9.cell (p := ⟨w8.heap.size, 5, none⟩) (by assumption)).trans (by assumption); have u14 := (b9.cell (p := ⟨w8.heap.size, 6, none⟩) (by assumption)).trans (by assumption); have u15 := (b9.cell (p := ⟨w8.heap.size, 7, none⟩) (by assumption)).trans (by assumption); have u16 := (b9.cell (p := ⟨W.heap.size + 1, 0, none⟩) (by assumption)).trans (by assumption); have u17 := (b9.cell (p := ⟨W.heap.size + 1, 1, none⟩) (by assumption)).trans (by assumption); have u18 := (b9.cell (p := ⟨W.heap.size + 1, 2, none⟩) (by assumption)).trans (by assumption); have hp0 := Nat.lt_of_lt_of_le (by assumption : w7.heap.size < _) b9.size; have hp1 := Nat.lt_of_lt_of_le (by assumption : w8.heap.size < _) b9.size; have hp2 := Nat.lt_of_lt_of_le (by assumption : W.heap.size + 1 < _) b9.size)
            | (go_at_call 10; refine (CDO.out _).mono ?_; rintro e w9 ⟨rfl, b9⟩; have BB := btP BB b9; have u0 := (b9.cell (p := ⟨w7.heap.size, 0, none⟩) (by assumption)).trans (by assumption); have u1 := (b9.cell (p := ⟨w7.heap.size, 1, none⟩) (by assumption)).trans (by assumption); have u2 := (b9.cell (p := ⟨w7.heap.size, 2, none⟩) (by assumption)).trans (by assumption); have u3 := (b9.cell (p := ⟨w7.heap.size, 3, none⟩) (by assumption)).trans (by assumption); have u4 := (b9.cell (p := ⟨w7.heap.size, 4, none⟩) (by assumption)).trans (by assumption); have u5 := (b9.cell (p := ⟨w7.heap.size, 5, none⟩) (by assumption)).trans (by assumption); have u6 := (b9.cell (p := ⟨w7.heap.size, 6, none⟩) (by assumption)).trans (by assumption); have u7 := (b9.cell (p := ⟨w7.heap.size, 7, none⟩) (by assumption)).trans (by assumption); have u8 := (b9.cell (p := ⟨w8.heap.size, 0, none⟩) (by assumption)).trans (by assumption); have u9 := (b9.cell (p := ⟨w8.heap.size, 1, none⟩) (by assumption)).trans (by assumption); have u10 := (b9.cell (p := ⟨w8.heap.size, 2, none⟩) (by assumption)).trans (by assumption); have u11 := (b9.cell (p := ⟨w8.heap.size, 3, none⟩) (by assumption)).trans (by assumption); have u12 := (b9.cell (p := ⟨w8.heap.size, 4, none⟩) (by assumption)).trans (by assumption); have u13 := (b9.cell (p := ⟨w8.heap.size, 5, none⟩) (by assumption)).trans (by assumption); have u14 := (b9.cell (p := ⟨w8.heap.size, 6, none⟩) (by assumption)).trans (by assumption); have u15 := (b9.cell (p := ⟨w8.heap.size, 7, none⟩) (by assumption)).trans (by assumption); have u16 := (b9.cell (p := ⟨W.heap.size + 1, 0, none⟩) (by assumption)).trans (by assumption); have u17 := (b9.cell (p := ⟨W.heap.size + 1, 1, none⟩) (by assumption)).trans (by assumption); have u18 := (b9.cell (p := ⟨W.heap.size + 1, 2, none⟩) (by assumption)).trans (by assumption); have hp0 := Nat.lt_of_lt_of_le (by assumption : w7.heap.size < _) b9.size; have hp1 := Nat.lt_of_lt_of_le (by assumption : w8.heap.size < _) b9.size; have hp2 := Nat.lt_of_lt_of_le (by assumption : W.heap.size + 1 < _) b9.size))
        go_wp2_with fail
        go_ret
        exact ⟨rfl, BB⟩
end Go.Proofs.Ytfkjdjdgcegniaa
