/- The walk of the reference's Take. -/
import Derived.Test.YtfkjdjdgcegniaaSpansG
namespace Go.Proofs.Ytfkjdjdgcegniaa
set_option maxRecDepth 16000
open Go.RowKit Spoor

/-- five numbers lie in a block; three texts -/
def A5 (b : Nat) (ns : List Nat) (w : World) : Prop := w.heap[b]? = some (.cells #[.int .i64 (ns.getD 0 0 : Nat), .int .i64 (ns.getD 1 0 : Nat), .int .i64 (ns.getD 2 0 : Nat), .int .i64 (ns.getD 3 0 : Nat), .int .i64 (ns.getD 4 0 : Nat)] 118 (0, 0))
def A3 (b : Nat) (ts : List (List UInt8)) (w : World) : Prop := w.heap[b]? = some (.cells #[.string ⟨(ts.getD 0 []).toArray⟩, .string ⟨(ts.getD 1 []).toArray⟩, .string ⟨(ts.getD 2 []).toArray⟩] 119 (0, 0))
theorem A5.set {b i : Nat} {ns : List Nat} {w : World} (h : A5 b ns w) (hl : ns.length = i) (hi : i < 5) (n : Nat) : A5 b (ns ++ [n]) (w.setCell ⟨b, i, none⟩ (.int .i64 n)) := by
  unfold A5 at h ⊢
  rw [heap_setCell_same w b _ _ _ _ h]
  subst hl
  match ns, hi with
  | [], _ => rfl
  | [_], _ => rfl
  | [_, _], _ => rfl
  | [_, _, _], _ => rfl
  | [_, _, _, _], _ => rfl
theorem A3.set {b i : Nat} {ts : List (List UInt8)} {w : World} (h : A3 b ts w) (hl : ts.length = i) (hi : i < 3) (t : List UInt8) : A3 b (ts ++ [t]) (w.setCell ⟨b, i, none⟩ (.string ⟨t.toArray⟩)) := by
  unfold A3 at h ⊢
  rw [heap_setCell_same w b _ _ _ _ h]
  subst hl
  match ts, hi with
  | [], _ => rfl
  | [_], _ => rfl
  | [_, _], _ => rfl
theorem A5.at {b : Nat} {ns : List Nat} {w : World} (h : A5 b ns w) (i : Nat) (hi : i < 5) : (∃ v, w.cell? ⟨b, i, none⟩ = some (.int .i64 v)) ∧ w.frozen? ⟨b, i, none⟩ = false := by
  refine ⟨?_, frozen_of_row w b i _ _ h⟩
  rw [cell_of_row w b _ _ _ _ h]
  match i, hi with
  | 0, _ => exact ⟨_, rfl⟩
  | 1, _ => exact ⟨_, rfl⟩
  | 2, _ => exact ⟨_, rfl⟩
  | 3, _ => exact ⟨_, rfl⟩
  | 4, _ => exact ⟨_, rfl⟩
theorem A3.at {b : Nat} {ts : List (List UInt8)} {w : World} (h : A3 b ts w) (i : Nat) (hi : i < 3) : (∃ v, w.cell? ⟨b, i, none⟩ = some (.string v)) ∧ w.frozen? ⟨b, i, none⟩ = false := by
  refine ⟨?_, frozen_of_row w b i _ _ h⟩
  rw [cell_of_row w b _ _ _ _ h]
  match i, hi with
  | 0, _ => exact ⟨_, rfl⟩
  | 1, _ => exact ⟨_, rfl⟩
  | 2, _ => exact ⟨_, rfl⟩
theorem A5.cells {b : Nat} {ns : List Nat} {w : World} (h : A5 b ns w) : w.cell? ⟨b, 0, none⟩ = some (.int .i64 (ns.getD 0 0 : Nat)) ∧ w.cell? ⟨b, 1, none⟩ = some (.int .i64 (ns.getD 1 0 : Nat)) ∧ w.cell? ⟨b, 2, none⟩ = some (.int .i64 (ns.getD 2 0 : Nat)) ∧ w.cell? ⟨b, 3, none⟩ = some (.int .i64 (ns.getD 3 0 : Nat)) ∧ w.cell? ⟨b, 4, none⟩ = some (.int .i64 (ns.getD 4 0 : Nat)) := by
  refine ⟨?_, ?_, ?_, ?_, ?_⟩ <;> (rw [cell_of_row w b _ _ _ _ h]; rfl)
theorem A3.cells {b : Nat} {ts : List (List UInt8)} {w : World} (h : A3 b ts w) : w.cell? ⟨b, 0, none⟩ = some (.string ⟨(ts.getD 0 []).toArray⟩) ∧ w.cell? ⟨b, 1, none⟩ = some (.string ⟨(ts.getD 1 []).toArray⟩) ∧ w.cell? ⟨b, 2, none⟩ = some (.string ⟨(ts.getD 2 []).toArray⟩) := by
  refine ⟨?_, ?_, ?_⟩ <;> (rw [cell_of_row w b _ _ _ _ h]; rfl)
theorem block_set {w : World} {b c i : Nat} {v : Value} {o : Obj} (h : w.heap[b]? = some o) (hne : b ≠ c) : (w.setCell ⟨c, i, none⟩ v).heap[b]? = some o := (Below.heap_setCell w ⟨c, i, none⟩ v b hne).trans h

theorem A5.later {B b : Nat} {ns : List Nat} {w w' : World} (h : A5 b ns w) (hb : Below B w w') (hlt : b < B) : A5 b ns w' := by
  unfold A5; rw [hb.block b hlt]; exact h
theorem A3.later {B b : Nat} {ts : List (List UInt8)} {w w' : World} (h : A3 b ts w) (hb : Below B w w') (hlt : b < B) : A3 b ts w' := by
  unfold A3; rw [hb.block b hlt]; exact h
theorem A5.lt {b : Nat} {ns : List Nat} {w : World} (h : A5 b ns w) : b < w.heap.size := (Array.getElem?_eq_some_iff.1 h).1
theorem A3.lt {b : Nat} {ts : List (List UInt8)} {w : World} (h : A3 b ts w) : b < w.heap.size := (Array.getElem?_eq_some_iff.1 h).1
theorem heap_new_at (w : World) (o : Obj) (n : Nat) (h : n = w.heap.size) : (w.alloc o).heap[n]? = some o := by subst h; exact heap_alloc_new w o

set_option maxHeartbeats 4000000 in
theorem refTake_any (s : ByteArray) (at' : Nat) (w : World) (hs : s.size ≤ maxLen) :
    Calls Try.prog 56 #[.string s, .int .i64 at'] w fun e w' => e = .returned (takeV (takeSp s.data.toList at')) ∧ Below w.heap.size w w' := by
  obtain ⟨R, hR⟩ : ∃ R, takeV (takeSp s.data.toList at') = R := ⟨_, rfl⟩
  rw [hR]
  have HR := Lib.hid hR
  have HS := Lib.hid hs
  clear hR hs
  obtain ⟨W0, hW0⟩ : ∃ W0, W0 = ((w.alloc (.cells #[.int .i64 0, .int .i64 0, .int .i64 0, .string ⟨#[]⟩, .string ⟨#[]⟩, .int .i64 0, .int .i64 0, .string ⟨#[]⟩] 23)).alloc (.cells #[.int .i64 0, .int .i64 0, .int .i64 0, .int .i64 0, .int .i64 0] 118)).alloc (.cells #[.string ⟨#[]⟩, .string ⟨#[]⟩, .string ⟨#[]⟩] 119) := ⟨_, rfl⟩
  have hat0 : SpAt w.heap.size Sp.zero W0 := by subst hW0; exact (Below.heap_alloc _ _ _ (by simp; omega)).trans ((Below.heap_alloc _ _ _ (by simp)).trans (heap_alloc_new w _))
  have ha5 : A5 (w.heap.size + 1) [] W0 := by
    subst hW0
    exact (Below.heap_alloc _ _ _ (by simp)).trans (heap_new_at _ _ _ (by simp))
  have ha3 : A3 (w.heap.size + 1 + 1) [] W0 := by
    subst hW0
    exact heap_new_at _ _ _ (by simp)
  have hbw0 : Below w.heap.size w W0 := by subst hW0; exact (((Below.refl _ _).alloc (Nat.le_refl _) _).alloc (by simp) _).alloc (by simp; omega) _
  have HA0 := Lib.hid hat0
  have H5 := Lib.hid ha5
  have H3 := Lib.hid ha3
  have HB0 := Lib.hid hbw0
  have HW0 := Lib.hid hW0
  clear hat0 ha5 ha3 hbw0 hW0
  go_enter Try.func56, Try.ntmps56
  go_upto_region 5 with fail
  rw [← HW0.out]
  clear HW0
  go_loopw [1, 9, 10] (fun a okv v wr => ∃ (i : Nat), i ≤ 5 ∧ v = .int .i64 i ∧ Hid (SpAt w.heap.size Sp.zero wr) ∧ Hid (Below w.heap.size w wr) ∧ Hid (A3 (w.heap.size + 1 + 1) [] wr) ∧
    ((∃ (p : Nat) (ns : List Nat), okv = .bool true ∧ a = .int .i64 p ∧ Hid (getN s.data.toList at' i = some (p, ns)) ∧ Hid (A5 (w.heap.size + 1) ns wr)) ∨ (okv = .bool false ∧ a = .int .i64 0 ∧ Hid (takeSp s.data.toList at' = none)))) (fun _ _ v _ => 5 - (intOf v).toNat)
  case atStart => exact ⟨0, by omega, rfl, HA0.out, HB0.out, H3.out, .inl ⟨at', [], rfl, rfl, rfl, H5.out⟩⟩
  case round =>
    obtain ⟨i, hi, rfl, hat, hbw, h3, ⟨p, ns, rfl, rfl, hg, h5⟩ | ⟨rfl, rfl, hn⟩⟩ := hrel
    · by_cases hlt : i < 5
      · obtain ⟨⟨v0, cn⟩, hfz⟩ := h5.out.at i hlt
        cases hget : get (s.data.toList.drop p) with
        | none =>
          have c := fun W => getAt_none hget ▸ refGet_any s (p : Int) W HS.out
          have C := Lib.hid c
          have hn := takeSp_noneN hg.out hlt hget
          have HN := Lib.hid hn
          clear c hget hn
          go_wp2_with fail
          refine (C.out _).mono ?_
          rintro e w1 ⟨rfl, hb1⟩
          have hat1 := hat.out.later hb1 hat.out.lt
          have h51 := h5.out.later hb1 h5.out.lt
          have h31 := h3.out.later hb1 h3.out.lt
          have hbw1 := hbw.out.trans (hb1.mono hbw.out.size)
          obtain ⟨⟨v1, cn1⟩, hfz1⟩ := h51.at i hlt
          have A1 := Lib.hid hat1
          have A2 := Lib.hid h31
          have A4 := Lib.hid hbw1
          clear hb1 hat1 h51 h31 hbw1 cn hfz
          go_wp2_with fail
          go_roundw
          case rel => exact ⟨i + 1, by omega, by go_num, block_set A1.out (by omega), A4.out.setCell (p := ⟨w.heap.size + 1, i, none⟩) (by simp) _, block_set A2.out (by omega), .inr ⟨rfl, rfl, HN.out⟩⟩
          case measure => simp [intOf]; omega
        | some q =>
          obtain ⟨n, k⟩ := q
          have c := fun W => getAt_some hget ▸ refGet_any s (p : Int) W HS.out
          have C := Lib.hid c
          have hst : getN s.data.toList at' (i + 1) = some (p + k, ns ++ [n]) := by rw [getN, hg.out]; simp only; rw [hget]
          have HSt := Lib.hid hst
          clear c hget hst
          go_wp2_with fail
          refine (C.out _).mono ?_
          rintro e w1 ⟨rfl, hb1⟩
          have hat1 := hat.out.later hb1 hat.out.lt
          have h51 := h5.out.later hb1 h5.out.lt
          have h31 := h3.out.later hb1 h3.out.lt
          have hbw1 := hbw.out.trans (hb1.mono hbw.out.size)
          obtain ⟨⟨v1, cn1⟩, hfz1⟩ := h51.at i hlt
          have A1 := Lib.hid hat1
          have A2 := Lib.hid h31
          have A4 := Lib.hid hbw1
          have A6 := Lib.hid (h51.set (getN_length _ _ _ _ _ hg.out) hlt n)
          clear hb1 hat1 h51 h31 hbw1 cn hfz
          go_wp2_with fail
          go_roundw
          case rel => exact ⟨i + 1, by omega, by go_num, block_set A1.out (by omega), A4.out.setCell (p := ⟨w.heap.size + 1, i, none⟩) (by simp) _, block_set A2.out (by omega), .inl ⟨p + k, ns ++ [n], rfl, by go_num, HSt.out, A6.out⟩⟩
          case measure => simp [intOf]; omega
      · obtain rfl : i = 5 := by omega
        have hgN := hg.out
        have HgN := Lib.hid hgN
        clear hgN
        have A1 := Lib.hid hat.out
        have A2 := Lib.hid h3.out
        have A4 := Lib.hid hbw.out
        have A6 := Lib.hid h5.out
        clear hat h3 hbw h5 hg
        go_wp2_with fail
        rw [show ((5 : Nat) : Int) = 5 from rfl]
        go_loopw [1, 9, 11] (fun a okv v wr => ∃ (i : Nat), i ≤ 3 ∧ v = .int .i64 i ∧ Hid (SpAt w.heap.size Sp.zero wr) ∧ Hid (Below w.heap.size w wr) ∧ Hid (A5 (w.heap.size + 1) ns wr) ∧
          ((∃ (q : Nat) (ts : List (List UInt8)), okv = .bool true ∧ a = .int .i64 q ∧ Hid (getT s.data.toList p i = some (q, ts)) ∧ Hid (A3 (w.heap.size + 1 + 1) ts wr)) ∨ (okv = .bool false ∧ a = .int .i64 0 ∧ Hid (takeSp s.data.toList at' = none)))) (fun _ _ v _ => 3 - (intOf v).toNat)
        case atStart => exact ⟨0, by omega, rfl, A1.out, A4.out, A6.out, .inl ⟨p, [], rfl, rfl, rfl, A2.out⟩⟩
        case round =>
          clear A1 A2 A4 A6
          obtain ⟨i, hi, rfl, hat, hbw, h5, ⟨q, ts, rfl, rfl, hg, h3⟩ | ⟨rfl, rfl, hn⟩⟩ := hrel
          · by_cases hlt : i < 3
            · obtain ⟨⟨v0, cn⟩, hfz⟩ := h3.out.at i hlt
              cases hget : getText (s.data.toList.drop q) with
              | none =>
                have c := fun W => getTextAt_none hget ▸ refGetText_any s (q : Int) W HS.out
                have C := Lib.hid c
                have hn := takeSp_noneT HgN.out hg.out hlt hget
                have HN := Lib.hid hn
                clear c hget hn
                go_wp2_with fail
                refine (C.out _).mono ?_
                rintro e w1 ⟨rfl, hb1⟩
                have hat1 := hat.out.later hb1 hat.out.lt
                have h51 := h5.out.later hb1 h5.out.lt
                have h31 := h3.out.later hb1 h3.out.lt
                have hbw1 := hbw.out.trans (hb1.mono hbw.out.size)
                obtain ⟨⟨v1, cn1⟩, hfz1⟩ := h31.at i hlt
                have A1 := Lib.hid hat1
                have A2 := Lib.hid h51
                have A4 := Lib.hid hbw1
                clear hb1 hat1 h51 h31 hbw1 cn hfz
                go_wp2_with fail
                go_roundw
                case rel => exact ⟨i + 1, by omega, by go_num, block_set A1.out (by omega), A4.out.setCell (p := ⟨w.heap.size + 1 + 1, i, none⟩) (by simp; omega) _, block_set A2.out (by omega), .inr ⟨rfl, rfl, HN.out⟩⟩
                case measure => simp [intOf]; omega
              | some r =>
                obtain ⟨t, k⟩ := r
                have c := fun W => getTextAt_some hget ▸ refGetText_any s (q : Int) W HS.out
                have C := Lib.hid c
                have hst : getT s.data.toList p (i + 1) = some (q + k, ts ++ [t]) := by rw [getT, hg.out]; simp only; rw [hget]
                have HSt := Lib.hid hst
                clear c hget hst
                go_wp2_with fail
                refine (C.out _).mono ?_
                rintro e w1 ⟨rfl, hb1⟩
                have hat1 := hat.out.later hb1 hat.out.lt
                have h51 := h5.out.later hb1 h5.out.lt
                have h31 := h3.out.later hb1 h3.out.lt
                have hbw1 := hbw.out.trans (hb1.mono hbw.out.size)
                obtain ⟨⟨v1, cn1⟩, hfz1⟩ := h31.at i hlt
                have A1 := Lib.hid hat1
                have A2 := Lib.hid h51
                have A4 := Lib.hid hbw1
                have A6 := Lib.hid (h31.set (getT_length _ _ _ _ _ hg.out) hlt t)
                clear hb1 hat1 h51 h31 hbw1 cn hfz
                go_wp2_with fail
                go_roundw
                case rel => exact ⟨i + 1, by omega, by go_num, block_set A1.out (by omega), A4.out.setCell (p := ⟨w.heap.size + 1 + 1, i, none⟩) (by simp; omega) _, block_set A2.out (by omega), .inl ⟨q + k, ts ++ [t], rfl, by go_num, HSt.out, A6.out⟩⟩
                case measure => simp [intOf]; omega
            · obtain rfl : i = 3 := by omega
              obtain ⟨c0, c1, c2, c3, c4, c5, c6, c7⟩ := hat.out.cell
              obtain ⟨f0, f1, f2, f3, f4, f5, f6, f7⟩ := hat.out.frees
              obtain ⟨d0, d1, d2, d3, d4⟩ := h5.out.cells
              obtain ⟨g0, g1, g2⟩ := h3.out.cells
              have hn := takeSp_of HgN.out hg.out
              have HN := Lib.hid hn
              have hsp : spVal (spOf ns ts) = .agg #[.int .i64 (ns.getD 0 0 : Nat), .int .i64 (ns.getD 1 0 : Nat), .int .i64 (ns.getD 2 0 : Nat), .string ⟨(ts.getD 0 []).toArray⟩, .string ⟨(ts.getD 1 []).toArray⟩, .int .i64 (ns.getD 3 0 : Nat), .int .i64 (ns.getD 4 0 : Nat), .string ⟨(ts.getD 2 []).toArray⟩] := rfl
              have HSp := Lib.hid hsp
              clear hn hsp
              generalize ns.getD 0 0 = n0 at *
              generalize ns.getD 1 0 = n1 at *
              generalize ns.getD 2 0 = n2 at *
              generalize ns.getD 3 0 = n3 at *
              generalize ns.getD 4 0 = n4 at *
              generalize ts.getD 0 [] = t0 at *
              generalize ts.getD 1 [] = t1 at *
              generalize ts.getD 2 [] = t2 at *
              go_wp2_with fail
              refine bodyPost_ret (v := R) ?_ rfl ⟨rfl, ?_⟩
              · rw [← HR.out, HN.out, show takeV (some (spOf ns ts, q)) = .tuple #[spVal (spOf ns ts), .int .i64 (q : Int), .bool true] from rfl, HSp.out]
                simp [results, Try.results56, go_sem, *]
              · exact below_set8 hbw.out (Nat.le_refl _) _ _ _ _ _ _ _ _
          · obtain ⟨c0, c1, c2, c3, c4, c5, c6, c7⟩ := hat.out.cell
            obtain ⟨f0, f1, f2, f3, f4, f5, f6, f7⟩ := hat.out.frees
            by_cases hlt : i < 3
            · go_wp2_with fail
              refine bodyPost_ret (v := R) ?_ rfl ⟨rfl, ?_⟩
              · rw [← HR.out, hn.out]
                simp [results, takeV, spVal, Sp.zero, Try.results56, go_sem, *]
              · exact below_set8 hbw.out (Nat.le_refl _) _ _ _ _ _ _ _ _
            · obtain rfl : i = 3 := by omega
              go_wp2_with fail
              refine bodyPost_ret (v := R) ?_ rfl ⟨rfl, ?_⟩
              · rw [← HR.out, hn.out]
                simp [results, takeV, spVal, Sp.zero, Try.results56, go_sem, *]
              · exact below_set8 hbw.out (Nat.le_refl _) _ _ _ _ _ _ _ _
    · obtain ⟨c0, c1, c2, c3, c4, c5, c6, c7⟩ := hat.out.cell
      obtain ⟨f0, f1, f2, f3, f4, f5, f6, f7⟩ := hat.out.frees
      by_cases hlt : i < 5
      · go_wp2_with fail
        refine wp_loop_rounds 1 ?_
        rw [rounds_succ]
        go_wp2_with fail
        refine bodyPost_ret (v := R) ?_ rfl ⟨rfl, ?_⟩
        · rw [← HR.out, hn.out]
          simp [results, takeV, spVal, Sp.zero, Try.results56, go_sem, *]
        · exact below_set8 hbw.out (Nat.le_refl _) _ _ _ _ _ _ _ _
      · obtain rfl : i = 5 := by omega
        go_wp2_with fail
        refine wp_loop_rounds 1 ?_
        rw [rounds_succ]
        go_wp2_with fail
        refine bodyPost_ret (v := R) ?_ rfl ⟨rfl, ?_⟩
        · rw [← HR.out, hn.out]
          simp [results, takeV, spVal, Sp.zero, Try.results56, go_sem, *]
        · exact below_set8 hbw.out (Nat.le_refl _) _ _ _ _ _ _ _ _
end Go.Proofs.Ytfkjdjdgcegniaa
