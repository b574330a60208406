/- The walk of keys.Parse. -/
import Derived.Test.YtfkjdjdgcegniaaKeysC
namespace Go.Proofs.Ytfkjdjdgcegniaa
set_option maxRecDepth 16000
open Go.RowKit Spoor

theorem parse_other {l : List UInt8} (h1 : ¬ l.head? = some 115) (h2 : ¬ l.head? = some 120) : parseK l = none := by
  cases l with
  | nil => rfl
  | cons c r =>
    simp only [List.head?_cons, Option.some.injEq] at h1 h2
    rw [parseK, if_neg h1, if_neg h2]
theorem head_cons {l : List UInt8} {c : UInt8} (h : l.head? = some c) : ∃ r, l = c :: r := by
  cases l with
  | nil => simp at h
  | cons d r => simp only [List.head?_cons, Option.some.injEq] at h; exact ⟨r, by rw [h]⟩
theorem keyV_form (o : Option (List UInt8)) : ∃ (x : List UInt8) (b : Bool), keyV o = .tuple #[.string ⟨x.toArray⟩, .bool b] := by
  cases o with
  | none => exact ⟨[], false, rfl⟩
  | some l => exact ⟨l, true, rfl⟩
theorem below_set6 {B b : Nat} {a W : World} (h : Below B a W) (hb : B ≤ b) (v0 v1 v2 v3 v4 v5 : Value) :
    Below B a ((((((W.setCell ⟨b, 0, none⟩ v0).setCell ⟨b, 1, none⟩ v1).setCell ⟨b, 2, none⟩ v2).setCell ⟨b, 3, none⟩ v3).setCell ⟨b, 4, none⟩ v4).setCell ⟨b, 5, none⟩ v5) :=
  (((((h.setCell (p := ⟨b, 0, none⟩) hb _).setCell (p := ⟨b, 1, none⟩) hb _).setCell (p := ⟨b, 2, none⟩) hb _).setCell (p := ⟨b, 3, none⟩) hb _).setCell (p := ⟨b, 4, none⟩) hb _).setCell (p := ⟨b, 5, none⟩) hb _
theorem cut0_le (l : List UInt8) : (cut0 l).1.length ≤ l.length ∧ (cut0 l).2.1.length ≤ l.length := by
  cases h : nz l with
  | true =>
    rw [cut0_false (by simp [cut0, h])]
    simp
  | false =>
    obtain ⟨h1, _, _⟩ := cut0_len h
    omega

set_option maxHeartbeats 1000000 in
theorem parse_any (l : List UInt8) (hl : l.length ≤ 140737488351232) (w : World) :
    Calls Try.prog 36 #[.string ⟨l.toArray⟩] w fun e w' => e = .returned (parseV (parseK l)) ∧ Below w.heap.size w w' := by
  have c1 := fun W => cutPre l 115 W
  have c2 := fun W => cutPre l 120 W
  obtain ⟨R, hR⟩ : ∃ R, parseV (parseK l) = R := ⟨_, rfl⟩
  rw [hR]
  have HR := Lib.hid hR
  have qr : PtAt w.heap.size KP.zero ((w.alloc (boxK KP.zero)).alloc (boxK KP.zero)) := (PtAt.boxed KP.zero w).alloc' _
  have qp : PtAt (w.heap.size + 1) KP.zero ((w.alloc (boxK KP.zero)).alloc (boxK KP.zero)) := by
    have := PtAt.boxed KP.zero (w.alloc (boxK KP.zero))
    rwa [alloc_size] at this
  have bw : Below w.heap.size w ((w.alloc (boxK KP.zero)).alloc (boxK KP.zero)) := below_new2' _ _
  have hi1 : ∀ W, (Instr.index 9 (.string ⟨#[115]⟩) (.int .i64 0)).run Try.prog W = .ok (.int .u8 115) W := fun _ => by kernel_rfl
  have hi2 : ∀ W, (Instr.index 9 (.string ⟨#[120]⟩) (.int .i64 0)).run Try.prog W = .ok (.int .u8 120) W := fun _ => by kernel_rfl
  have C1 := Lib.hid c1
  have C2 := Lib.hid c2
  clear c1 c2 hR
  unfold boxK KP.zero at *
  try dsimp only at qr qp bw
  go_enter Try.func36, Try.ntmps36
  go_wp2_with fail
  generalize World.alloc _ _ = w2 at *
  refine (C1.out _).mono ?_
  rintro e w1 ⟨rfl, rfl⟩
  go_upto_if 17 with fail
  go_cut [5, 7] (fun v _v7 wx => ∃ (p : KP) (b : Bool), v = .bool b ∧ Hid (PtAt (w.heap.size + 1) p wx) ∧ Hid (PtAt w.heap.size KP.zero wx) ∧ Hid (Below w.heap.size w wx) ∧ Hid (parseK l = resK p b l) ∧ Hid (FitsK p))
  case first =>
    have lp := qp.lt
    have hne : w.heap.size ≠ w.heap.size + 1 := by omega
    obtain ⟨a0, a1, a2, a3, a4, a5⟩ := qp.cell
    obtain ⟨f0, f1, f2, f3, f4, f5⟩ := qp.frees
    by_cases h1 : l.head? = some 115
    · obtain ⟨r, rfl⟩ := head_cons h1
      have hlr : r.length ≤ 140737488351232 := by simp at hl; omega
      obtain ⟨e1, e2⟩ := pre_yes 115 r
      have q3 := (qp.kind 115)
      have r3 := block_set (i := 0) (v := .int .u8 (115 : Nat)) qr hne
      have b3 := bw.setCell (p := ⟨w.heap.size + 1, 0, none⟩) (by simp) (.int .u8 (115 : Nat))
      clear h1 C2
      go_wp2_with fail
      refine (knumbers_any r (w.heap.size + 1) _ 2 [1, 2] ⟨115, 0, 0, 0, [], []⟩ _ hlr rfl (by omega) (q3.alloc' _) (by simp; omega) (fun i hi => by match i, hi with | 0, _ => simp | 1, _ => simp) (fun i hi => by match i, hi with | 0, _ => exact new_cell (by simp) rfl | 1, _ => exact new_cell (by simp) rfl)).mono ?_
      rintro e w3 ⟨rfl, q4, b4⟩
      go_wp2_with fail
      go_meet
      obtain ⟨s1, s2, s3⟩ := numOf_same [1, 2] ⟨115, 0, 0, 0, [], []⟩ r
      exact ⟨_, _, rfl, q4, PtAt.later (PtAt.alloc' (p := KP.zero) r3 _) b4 (by omega), (b3.alloc b3.size _).trans (b4.mono (by omega)), parse_s r, ⟨by rw [s2]; simp, by rw [s3]; simp⟩⟩
    · by_cases h2 : l.head? = some 120
      · obtain ⟨r, rfl⟩ := head_cons h2
        have hlr : r.length ≤ 140737488351232 := by simp at hl; omega
        obtain ⟨e1, e2⟩ := pre_yes 120 r
        have e3 := pre_no 115 _ h1
        have q3 := (qp.kind 120)
        have r3 := block_set (i := 0) (v := .int .u8 (120 : Nat)) qr hne
        have b3 := bw.setCell (p := ⟨w.heap.size + 1, 0, none⟩) (by simp) (.int .u8 (120 : Nat))
        have c3 := fun W => cut_any r hlr W
        obtain ⟨m1, m2⟩ := cut0_le r
        have c4 := fun W => cut_any (cut0 r).2.1 (by omega) W
        obtain ⟨m3, m4⟩ := cut0_le (cut0 r).2.1
        have hx := parse_x r
        have hn := parse_not r
        unfold cutV at c3 c4
        generalize (cut0 r).1 = sv at *
        generalize (cut0 r).2.1 = r1 at *
        generalize (cut0 r).2.2 = z at *
        have hs1 : sv.length ≤ 140737488351232 := by omega
        have hs2 : (cut0 r1).1.length ≤ 140737488351232 := by omega
        have hs3 : (cut0 r1).2.1.length ≤ 140737488351232 := by omega
        generalize (cut0 r1).1 = ho at *
        generalize (cut0 r1).2.1 = r2 at *
        generalize (cut0 r1).2.2 = is at *
        have C3 := Lib.hid c3
        have C4 := Lib.hid c4
        have HX := Lib.hid hx
        have HN := Lib.hid hn
        have HS1 := Lib.hid hs1
        have HS2 := Lib.hid hs2
        have HS3 := Lib.hid hs3
        clear h1 h2 c3 c4 hx hn m1 m2 m3 m4 hs1 hs2 hs3
        go_wp2_with fail
        refine (C2.out _).mono ?_
        rintro e w1 ⟨rfl, rfl⟩
        go_wp2_with fail
        generalize w2.setCell _ _ = w3 at *
        refine (C3.out _).mono ?_
        rintro e w4 ⟨rfl, b4⟩
        have q4 := q3.later b4 q3.lt
        have r4 : PtAt w.heap.size KP.zero w4 := PtAt.later (p := KP.zero) r3 b4 (PtAt.lt (p := KP.zero) r3)
        have b5 := bt b3 b4
        clear a0 a1 a2 a3 a4 a5 f0 f1 f2 f3 f4 f5 q3 r3 b3 b4
        obtain ⟨a0, a1, a2, a3, a4, a5⟩ := q4.cell
        obtain ⟨f0, f1, f2, f3, f4, f5⟩ := q4.frees
        have q5 := q4.serv sv
        have r5 : PtAt w.heap.size KP.zero (w4.setCell ⟨w.heap.size + 1, 4, none⟩ (.string ⟨sv.toArray⟩)) := block_set (i := 4) r4 hne
        have b6 := b5.setCell (p := ⟨w.heap.size + 1, 4, none⟩) (by simp) (.string ⟨sv.toArray⟩)
        go_wp2_with fail
        generalize w4.setCell _ _ = w5 at *
        refine (C4.out _).mono ?_
        rintro e w6 ⟨rfl, b7⟩
        have q6 := q5.later b7 q5.lt
        have r6 := r5.later b7 r5.lt
        have b8 := bt b6 b7
        clear a0 a1 a2 a3 a4 a5 f0 f1 f2 f3 f4 f5 q5 r5 b6 b7 q4 r4 b5
        obtain ⟨a0, a1, a2, a3, a4, a5⟩ := q6.cell
        obtain ⟨f0, f1, f2, f3, f4, f5⟩ := q6.frees
        have q7 := q6.host ho
        have r7 : PtAt w.heap.size KP.zero (w6.setCell ⟨w.heap.size + 1, 5, none⟩ (.string ⟨ho.toArray⟩)) := block_set (i := 5) r6 hne
        have b9 := b8.setCell (p := ⟨w.heap.size + 1, 5, none⟩) (by simp) (.string ⟨ho.toArray⟩)
        cases is with
        | false =>
          go_wp2_with fail
          go_meet
          exact ⟨_, _, rfl, q7, r7, b9, by show _ = _; rw [HN.out (by first | rfl | trivial), resK_no], ⟨HS1.out, HS2.out⟩⟩
        | true =>
          have l7 := q7.lt
          have hz7 : Hid ((w6.setCell ⟨w.heap.size + 1, 5, none⟩ (.string ⟨ho.toArray⟩)).heap.size = w6.heap.size) := by show _ = _; simp
          go_wp2_with fail
          generalize w6.setCell _ _ = w7 at *
          rw [← hz7.out]
          refine (knumbers_any r2 (w.heap.size + 1) _ 3 [3, 1, 2] ⟨120, 0, 0, 0, sv, ho⟩ _ HS3.out rfl (by omega) (q7.alloc' _) (Nat.ne_of_gt l7) (fun i hi => by match i, hi with | 0, _ => simp | 1, _ => simp | 2, _ => simp) (fun i hi => by match i, hi with | 0, _ => exact new_cell rfl rfl | 1, _ => exact new_cell rfl rfl | 2, _ => exact new_cell rfl rfl)).mono ?_
          rintro e w8 ⟨rfl, q8, b10⟩
          go_wp2_with fail
          go_meet
          obtain ⟨s1, s2, s3⟩ := numOf_same [3, 1, 2] ⟨120, 0, 0, 0, sv, ho⟩ r2
          exact ⟨_, _, rfl, q8, PtAt.later (PtAt.alloc' (p := KP.zero) r7 _) b10 (by omega), (b9.alloc b9.size _).trans (b10.mono (by omega)), HX.out (by first | rfl | trivial), ⟨by rw [s2]; exact HS1.out, by rw [s3]; exact HS2.out⟩⟩
      · have hp := parse_other h1 h2
        have HP := Lib.hid hp
        have d1 := pre_no 120 _ h2
        have d2 := pre_no 115 _ h1
        clear h1 h2
        clear hp
        rw [d2]
        go_wp2_with fail
        refine (C2.out _).mono ?_
        rintro e w1 ⟨rfl, rfl⟩
        rw [d1]
        go_wp2_with fail
        go_meet
        exact ⟨KP.zero, false, rfl, qp, qr, bw, by show _ = _; rw [HP.out, resK_no], ⟨by simp [KP.zero], by simp [KP.zero]⟩⟩
  case rest =>
    obtain ⟨p, b, rfl, q1, q2, b1, hp, hf⟩ := hcut
    have c := fun W => key_any p W hf.out
    unfold kpVal at c
    obtain ⟨a0, a1, a2, a3, a4, a5⟩ := q1.out.cell
    clear C1 C2 qr qp bw hi1 hi2
    cases b with
    | false =>
      obtain ⟨x, is, hk⟩ := keyV_form p.key
      rw [hk] at c
      have C := Lib.hid c
      have hn : parseV (parseK l) = .tuple #[kpVal KP.zero, .bool false] := by rw [hp.out, resK_no]; rfl
      rw [HR.out] at hn
      have HN := Lib.hid hn
      clear c hk hp hn HR
      go_wp2_with fail
      refine (C.out _).mono ?_
      rintro e w3 ⟨rfl, b3⟩
      have r3 := q2.out.later b3 q2.out.lt
      have b4 := bt b1.out b3
      clear a0 a1 a2 a3 a4 a5
      obtain ⟨c0, c1, c2, c3, c4, c5⟩ := r3.cell
      obtain ⟨f0, f1, f2, f3, f4, f5⟩ := r3.frees
      go_wp2_with fail
      refine bodyPost_ret (v := R) ?_ rfl ⟨rfl, ?_⟩
      · rw [HN.out]
        simp [results, kpVal, KP.zero, Try.results36, go_sem, *]
      · exact below_set6 b4 (Nat.le_refl _) _ _ _ _ _ _
    | true =>
      have hp2 : parseK l = if p.key = some l then some p else none := by rw [hp.out]; unfold resK; simp
      cases hk : p.key with
      | none =>
        rw [hk] at c
        unfold keyV at c
        have C := Lib.hid c
        have hn : parseV (parseK l) = .tuple #[kpVal KP.zero, .bool false] := by rw [hp2, hk]; rfl
        rw [HR.out] at hn
        have HN := Lib.hid hn
        clear c hk hp hn HR hp2
        go_wp2_with fail
        refine (C.out _).mono ?_
        rintro e w3 ⟨rfl, b3⟩
        have r3 := q2.out.later b3 q2.out.lt
        have b4 := bt b1.out b3
        clear a0 a1 a2 a3 a4 a5
        obtain ⟨c0, c1, c2, c3, c4, c5⟩ := r3.cell
        obtain ⟨f0, f1, f2, f3, f4, f5⟩ := r3.frees
        go_wp2_with fail
        refine bodyPost_ret (v := R) ?_ rfl ⟨rfl, ?_⟩
        · rw [HN.out]
          simp [results, kpVal, KP.zero, Try.results36, go_sem, *]
        · exact below_set6 b4 (Nat.le_refl _) _ _ _ _ _ _
      | some m =>
        by_cases hml : m = l
        · subst hml
          rw [hk] at c
          unfold keyV at c
          have C := Lib.hid c
          have hn : parseV (parseK m) = .tuple #[kpVal p, .bool true] := by rw [hp2, hk, if_pos rfl]; rfl
          rw [HR.out] at hn
          have HN := Lib.hid hn
          clear c hk hp hn HR hp2
          go_wp2_with fail
          refine (C.out _).mono ?_
          rintro e w3 ⟨rfl, b3⟩
          have q3 := q1.out.later b3 q1.out.lt
          have r3 := q2.out.later b3 q2.out.lt
          have b4 := bt b1.out b3
          clear a0 a1 a2 a3 a4 a5
          obtain ⟨a0, a1, a2, a3, a4, a5⟩ := q3.cell
          obtain ⟨c0, c1, c2, c3, c4, c5⟩ := r3.cell
          obtain ⟨f0, f1, f2, f3, f4, f5⟩ := r3.frees
          go_wp2_with fail
          refine bodyPost_ret (v := R) ?_ rfl ⟨rfl, ?_⟩
          · rw [HN.out]
            simp [results, kpVal, Try.results36, go_sem, *]
          · exact below_set6 b4 (Nat.le_refl _) _ _ _ _ _ _
        · rw [hk] at c
          unfold keyV at c
          have C := Lib.hid c
          have hn : parseV (parseK l) = .tuple #[kpVal KP.zero, .bool false] := by
            rw [hp2, hk, if_neg (by simpa using hml)]; rfl
          rw [HR.out] at hn
          have HN := Lib.hid hn
          have hbl : (m == l) = false := by simpa using hml
          clear c hk hp hn HR hp2
          go_wp2_with fail
          refine (C.out _).mono ?_
          rintro e w3 ⟨rfl, b3⟩
          have r3 := q2.out.later b3 q2.out.lt
          have b4 := bt b1.out b3
          clear a0 a1 a2 a3 a4 a5
          obtain ⟨c0, c1, c2, c3, c4, c5⟩ := r3.cell
          obtain ⟨f0, f1, f2, f3, f4, f5⟩ := r3.frees
          go_wp2_with fail
          refine bodyPost_ret (v := R) ?_ rfl ⟨rfl, ?_⟩
          · rw [HN.out]
            simp [results, kpVal, KP.zero, Try.results36, go_sem, *]
          · exact below_set6 b4 (Nat.le_refl _) _ _ _ _ _ _
end Go.Proofs.Ytfkjdjdgcegniaa
