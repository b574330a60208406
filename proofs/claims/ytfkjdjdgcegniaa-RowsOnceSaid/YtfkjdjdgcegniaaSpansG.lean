/- The walk of spans.Take. -/
import Derived.Test.YtfkjdjdgcegniaaSpansF
import Derived.Deep.DeepCutAuto
import Derived.Deep.RegionWith
namespace Go.Proofs.Ytfkjdjdgcegniaa
set_option maxRecDepth 16000
open Go.RowKit Spoor

/-- a span of so many first numbers, and of so many first texts -/
def spOf (ns : List Nat) (ts : List (List UInt8)) : Sp := ⟨ns.getD 0 0, ns.getD 1 0, ns.getD 2 0, ts.getD 0 [], ts.getD 1 [], ns.getD 3 0, ns.getD 4 0, ts.getD 2 []⟩
theorem SpAt.setN {b i : Nat} {ns : List Nat} {w : World} (h : SpAt b (spOf ns []) w) (hl : ns.length = i) (hi : i < 5) (n : Nat) : SpAt b (spOf (ns ++ [n]) []) (w.setCell ⟨b, offN i, none⟩ (.int .i64 n)) := by
  unfold SpAt at h ⊢
  rw [heap_setCell_same w b _ _ _ _ h]
  subst hl
  match ns, hi with
  | [], _ => rfl
  | [_], _ => rfl
  | [_, _], _ => rfl
  | [_, _, _], _ => rfl
  | [_, _, _, _], _ => rfl
theorem SpAt.setT {b i : Nat} {ns : List Nat} {ts : List (List UInt8)} {w : World} (h : SpAt b (spOf ns ts) w) (hl : ts.length = i) (hi : i < 3) (t : List UInt8) : SpAt b (spOf ns (ts ++ [t])) (w.setCell ⟨b, offT i, none⟩ (.string ⟨t.toArray⟩)) := by
  unfold SpAt at h ⊢
  rw [heap_setCell_same w b _ _ _ _ h]
  subst hl
  match ts, hi with
  | [], _ => rfl
  | [_], _ => rfl
  | [_, _], _ => rfl

theorem SpAt.free {b : Nat} {x : Sp} {w : World} (h : SpAt b x w) (j : Nat) : w.frozen? ⟨b, j, none⟩ = false := frozen_of_row w b j _ _ h
theorem SpAt.frees {b : Nat} {x : Sp} {w : World} (h : SpAt b x w) : w.frozen? ⟨b, 0, none⟩ = false ∧ w.frozen? ⟨b, 1, none⟩ = false ∧ w.frozen? ⟨b, 2, none⟩ = false ∧ w.frozen? ⟨b, 3, none⟩ = false ∧
    w.frozen? ⟨b, 4, none⟩ = false ∧ w.frozen? ⟨b, 5, none⟩ = false ∧ w.frozen? ⟨b, 6, none⟩ = false ∧ w.frozen? ⟨b, 7, none⟩ = false := ⟨h.free 0, h.free 1, h.free 2, h.free 3, h.free 4, h.free 5, h.free 6, h.free 7⟩
/-- what Take tells -/
def takeV : Option (Sp × Nat) → Value
  | none => .tuple #[spVal Sp.zero, .int .i64 0, .bool false]
  | some (x, q) => .tuple #[spVal x, .int .i64 (q : Int), .bool true]
theorem getAt_some {l : List UInt8} {p n k : Nat} (h : get (l.drop p) = some (n, k)) : getAt l (p : Int) = .tuple #[.int .i64 n, .int .i64 ((p + k : Nat) : Int), .bool true] := by
  rw [getAt, if_neg (by omega), Int.toNat_natCast, h]; rfl
theorem getAt_none {l : List UInt8} {p : Nat} (h : get (l.drop p) = none) : getAt l (p : Int) = .tuple #[.int .i64 0, .int .i64 0, .bool false] := by
  rw [getAt, if_neg (by omega), Int.toNat_natCast, h]; rfl
theorem getTextAt_some {l t : List UInt8} {p k : Nat} (h : getText (l.drop p) = some (t, k)) : getTextAt l (p : Int) = .tuple #[.string ⟨t.toArray⟩, .int .i64 ((p + k : Nat) : Int), .bool true] := by
  rw [getTextAt, if_neg (by omega), Int.toNat_natCast, h]; rfl
theorem getTextAt_none {l : List UInt8} {p : Nat} (h : getText (l.drop p) = none) : getTextAt l (p : Int) = .tuple #[.string ⟨#[]⟩, .int .i64 0, .bool false] := by
  rw [getTextAt, if_neg (by omega), Int.toNat_natCast, h]; rfl
theorem getN_none {l : List UInt8} {at' i : Nat} (h : getN l at' i = none) : ∀ j, i ≤ j → getN l at' j = none := by
  intro j hj
  induction j with
  | zero => have : i = 0 := by omega
            subst this; exact h
  | succ j ih =>
    by_cases hij : i = j + 1
    · subst hij; exact h
    · rw [getN, ih (by omega)]
theorem getT_none {l : List UInt8} {at' i : Nat} (h : getT l at' i = none) : ∀ j, i ≤ j → getT l at' j = none := by
  intro j hj
  induction j with
  | zero => have : i = 0 := by omega
            subst this; exact h
  | succ j ih =>
    by_cases hij : i = j + 1
    · subst hij; exact h
    · rw [getT, ih (by omega)]
theorem takeSp_noneN {l : List UInt8} {at' i p : Nat} {ns : List Nat} (h : getN l at' i = some (p, ns)) (hi : i < 5) (hg : get (l.drop p) = none) : takeSp l at' = none := by
  have h1 : getN l at' (i + 1) = none := by rw [getN, h]; simp only; rw [hg]
  unfold takeSp
  rw [getN_none h1 5 (by omega)]
theorem takeSp_noneT {l : List UInt8} {at' i p q : Nat} {ns : List Nat} {ts : List (List UInt8)} (h : getN l at' 5 = some (p, ns)) (ht : getT l p i = some (q, ts)) (hi : i < 3) (hg : getText (l.drop q) = none) : takeSp l at' = none := by
  have h1 : getT l p (i + 1) = none := by rw [getT, ht]; simp only; rw [hg]
  unfold takeSp
  rw [h]
  simp only
  rw [getT_none h1 3 (by omega)]
theorem takeSp_of {l : List UInt8} {at' p q : Nat} {ns : List Nat} {ts : List (List UInt8)} (h : getN l at' 5 = some (p, ns)) (ht : getT l p 3 = some (q, ts)) : takeSp l at' = some (spOf ns ts, q) := by
  unfold takeSp
  rw [h]
  simp only
  rw [ht]
  rfl

theorem below_set8 {B b : Nat} {a W : World} (h : Below B a W) (hb : B ≤ b) (v0 v1 v2 v3 v4 v5 v6 v7 : Value) :
    Below B a ((((((((W.setCell ⟨b, 0, none⟩ v0).setCell ⟨b, 1, none⟩ v1).setCell ⟨b, 2, none⟩ v2).setCell ⟨b, 3, none⟩ v3).setCell ⟨b, 4, none⟩ v4).setCell ⟨b, 5, none⟩ v5).setCell ⟨b, 6, none⟩ v6).setCell ⟨b, 7, none⟩ v7) :=
  (((((((h.setCell (p := ⟨b, 0, none⟩) hb _).setCell (p := ⟨b, 1, none⟩) hb _).setCell (p := ⟨b, 2, none⟩) hb _).setCell (p := ⟨b, 3, none⟩) hb _).setCell (p := ⟨b, 4, none⟩) hb _).setCell (p := ⟨b, 5, none⟩) hb _).setCell (p := ⟨b, 6, none⟩) hb _).setCell (p := ⟨b, 7, none⟩) hb _

set_option maxHeartbeats 4000000 in
theorem take_any (s : ByteArray) (at' : Nat) (w : World) (hs : s.size ≤ maxLen) :
    Calls Try.prog 55 #[.string s, .int .i64 at'] w fun e w' => e = .returned (takeV (takeSp s.data.toList at')) ∧ Below w.heap.size w w' := by
  obtain ⟨R, hR⟩ : ∃ R, takeV (takeSp s.data.toList at') = R := ⟨_, rfl⟩
  rw [hR]
  have HR := Lib.hid hR
  have HS := Lib.hid hs
  clear hR hs
  go_enter Try.func55, Try.ntmps55
  go_wp2_with fail
  refine (numbers_any _ _).mono ?_
  rintro e w1 ⟨rfl, hb1⟩
  have hat : SpAt w.heap.size (spOf [] []) w1 := (SpAt.boxed Sp.zero w).later hb1 (by simp)
  have hbw : Below w.heap.size w w1 := ((Below.refl _ _).alloc (Nat.le_refl _) _).trans (hb1.mono (by simp))
  have HB := Lib.hid hbw
  have HA := Lib.hid hat
  clear hb1 hbw hat
  go_wp2_with fail
  go_loopw [1, 12] (fun a v wr => ∃ (i p : Nat) (ns : List Nat), i ≤ 5 ∧ v = .int .i64 i ∧ a = .int .i64 p ∧ Hid (getN s.data.toList at' i = some (p, ns)) ∧ Hid (SpAt w.heap.size (spOf ns []) wr) ∧ Hid (Below w.heap.size w wr)) (fun _ v _ => 5 - (intOf v).toNat)
  case atStart => exact ⟨0, at', [], by omega, rfl, rfl, rfl, HA.out, HB.out⟩
  case round =>
    obtain ⟨i, p, ns, hi, rfl, rfl, hg, hat, hbw⟩ := hrel
    by_cases hlt : i < 5
    · have gi := nums_index w.heap.size i hlt
      have cn := hat.out.num i
      have hlt0 := hat.out.lt
      have hfz := hat.out.free (offN i)
      cases hget : get (s.data.toList.drop p) with
      | none =>
        have c := fun W => getAt_none hget ▸ get_any s (p : Int) W HS.out
        have C := Lib.hid c
        have hn := takeSp_noneN hg.out hlt hget
        have HN := Lib.hid hn
        clear c hget hn
        go_wp2_with fail
        go_region_with ((go_at_call 70; refine (C.out _).mono ?_; rintro e w' ⟨rfl, rfl⟩))
        all_goals
          go_upto_region 5 with fail
          have hat4 : SpAt w.heap.size (spOf (ns ++ [0]) []) ((wr.setCell ⟨w.heap.size, offN i, none⟩ (.int .i64 0)).alloc (.cells #[.pointer (some ⟨w.heap.size, offN i, none⟩), .int .i64 (Spoor.leastOf i), .int .i64 (Spoor.mostOf i)] 74)).drew :=
            (Below.heap_alloc _ _ _ (by simpa using hlt0)).trans (hat.out.setN (getN_length _ _ _ _ _ hg.out) hlt 0)
          have hbw4 : Below w.heap.size w ((wr.setCell ⟨w.heap.size, offN i, none⟩ (.int .i64 0)).alloc (.cells #[.pointer (some ⟨w.heap.size, offN i, none⟩), .int .i64 (Spoor.leastOf i), .int .i64 (Spoor.mostOf i)] 74)).drew :=
            ((hbw.out.setCell (p := ⟨w.heap.size, offN i, none⟩) (Nat.le_refl _) _).alloc (by simp; omega) _).drew
          generalize ((wr.setCell ⟨w.heap.size, offN i, none⟩ (.int .i64 0)).alloc (.cells #[.pointer (some ⟨w.heap.size, offN i, none⟩), .int .i64 (Spoor.leastOf i), .int .i64 (Spoor.mostOf i)] 74)).drew = W4 at *
          obtain ⟨c0, c1, c2, c3, c4, c5, c6, c7⟩ := hat4.cell
          obtain ⟨f0, f1, f2, f3, f4, f5, f6, f7⟩ := hat4.frees
          clear cn hfz hat4
          go_wp2_with fail
          refine bodyPost_ret (v := R) ?_ rfl ⟨rfl, ?_⟩
          · rw [← HR.out, HN.out]
            simp [results, takeV, spVal, Sp.zero, Try.results55, go_sem, *]
          · exact below_set8 hbw4 (Nat.le_refl _) _ _ _ _ _ _ _ _
      | some q =>
        obtain ⟨n, k⟩ := q
        have c := fun W => getAt_some hget ▸ get_any s (p : Int) W HS.out
        have C := Lib.hid c
        have hst : getN s.data.toList at' (i + 1) = some (p + k, ns ++ [n]) := by rw [getN, hg.out]; simp only; rw [hget]
        have HSt := Lib.hid hst
        clear c hget hst
        go_wp2_with fail
        go_region_with ((go_at_call 70; refine (C.out _).mono ?_; rintro e w' ⟨rfl, rfl⟩))
        all_goals
          go_upto_region 5 with fail
          have hat4 : SpAt w.heap.size (spOf (ns ++ [n]) []) ((wr.setCell ⟨w.heap.size, offN i, none⟩ (.int .i64 (n : Nat))).alloc (.cells #[.pointer (some ⟨w.heap.size, offN i, none⟩), .int .i64 (Spoor.leastOf i), .int .i64 (Spoor.mostOf i)] 74)).drew :=
            (Below.heap_alloc _ _ _ (by simpa using hlt0)).trans (hat.out.setN (getN_length _ _ _ _ _ hg.out) hlt n)
          have hbw4 : Below w.heap.size w ((wr.setCell ⟨w.heap.size, offN i, none⟩ (.int .i64 (n : Nat))).alloc (.cells #[.pointer (some ⟨w.heap.size, offN i, none⟩), .int .i64 (Spoor.leastOf i), .int .i64 (Spoor.mostOf i)] 74)).drew :=
            ((hbw.out.setCell (p := ⟨w.heap.size, offN i, none⟩) (Nat.le_refl _) _).alloc (by simp; omega) _).drew
          clear cn hfz
          generalize ((wr.setCell ⟨w.heap.size, offN i, none⟩ (.int .i64 (n : Nat))).alloc (.cells #[.pointer (some ⟨w.heap.size, offN i, none⟩), .int .i64 (Spoor.leastOf i), .int .i64 (Spoor.mostOf i)] 74)).drew = W4 at *
          go_wp2_with fail
          go_roundw
          case rel => exact ⟨i + 1, p + k, ns ++ [n], by omega, by go_num, by go_num, HSt.out, hat4, hbw4⟩
          case measure => simp [intOf]; omega
    · obtain rfl : i = 5 := by omega
      have hlt0 := hat.out.lt
      have hgN := hg.out
      have HgN := Lib.hid hgN
      clear hgN
      go_wp2_with fail
      refine (texts_any _ _).mono ?_
      rintro e w3 ⟨rfl, hb3⟩
      have hat3 := hat.out.later hb3 hlt0
      have hbw3 := hbw.out.trans (hb3.mono (by omega))
      have HAt3 := Lib.hid hat3
      have HBw3 := Lib.hid hbw3
      clear hb3 hat3 hbw3
      go_wp2_with fail
      go_loopw [1, 30] (fun a v wr => ∃ (i q : Nat) (ts : List (List UInt8)), i ≤ 3 ∧ v = .int .i64 i ∧ a = .int .i64 q ∧ Hid (getT s.data.toList p i = some (q, ts)) ∧ Hid (SpAt w.heap.size (spOf ns ts) wr) ∧ Hid (Below w.heap.size w wr)) (fun _ v _ => 3 - (intOf v).toNat)
      case atStart => exact ⟨0, p, [], by omega, rfl, rfl, rfl, HAt3.out, HBw3.out⟩
      case round =>
        clear hat hbw HAt3 HBw3 hlt0
        obtain ⟨i, q, ts, hi, rfl, rfl, hg, hat, hbw⟩ := hrel
        by_cases hlt : i < 3
        · have gi := texts_index w.heap.size i hlt
          have cn := hat.out.txt i
          have hlt0 := hat.out.lt
          have hfz := hat.out.free (offT i)
          cases hget : getText (s.data.toList.drop q) with
          | none =>
            have c := fun W => getTextAt_none hget ▸ getText_any s (q : Int) W HS.out
            have C := Lib.hid c
            have hn := takeSp_noneT HgN.out hg.out hlt hget
            have HN := Lib.hid hn
            clear c hget hn
            go_upto_region 12 with (go_at_call 71; refine (C.out _).mono ?_; rintro e w' ⟨rfl, rfl⟩)
            have hat4 : SpAt w.heap.size (spOf ns (ts ++ [[]])) (wr.setCell ⟨w.heap.size, offT i, none⟩ (.string ⟨#[]⟩)) := hat.out.setT (getT_length _ _ _ _ _ hg.out) hlt []
            have hbw4 : Below w.heap.size w (wr.setCell ⟨w.heap.size, offT i, none⟩ (.string ⟨#[]⟩)) := hbw.out.setCell (p := ⟨w.heap.size, offT i, none⟩) (Nat.le_refl _) _
            generalize (wr.setCell ⟨w.heap.size, offT i, none⟩ (.string ⟨#[]⟩)) = W4 at *
            obtain ⟨c0, c1, c2, c3, c4, c5, c6, c7⟩ := hat4.cell
            obtain ⟨f0, f1, f2, f3, f4, f5, f6, f7⟩ := hat4.frees
            clear cn hfz hat4
            go_wp2_with fail
            refine bodyPost_ret (v := R) ?_ rfl ⟨rfl, ?_⟩
            · rw [← HR.out, HN.out]
              simp [results, takeV, spVal, Sp.zero, Try.results55, go_sem, *]
            · exact below_set8 hbw4 (Nat.le_refl _) _ _ _ _ _ _ _ _
          | some r =>
            obtain ⟨t, k⟩ := r
            have c := fun W => getTextAt_some hget ▸ getText_any s (q : Int) W HS.out
            have C := Lib.hid c
            have hst : getT s.data.toList p (i + 1) = some (q + k, ts ++ [t]) := by rw [getT, hg.out]; simp only; rw [hget]
            have HSt := Lib.hid hst
            clear c hget hst
            go_upto_region 12 with (go_at_call 71; refine (C.out _).mono ?_; rintro e w' ⟨rfl, rfl⟩)
            have hat4 : SpAt w.heap.size (spOf ns (ts ++ [t])) (wr.setCell ⟨w.heap.size, offT i, none⟩ (.string ⟨t.toArray⟩)) := hat.out.setT (getT_length _ _ _ _ _ hg.out) hlt t
            have hbw4 : Below w.heap.size w (wr.setCell ⟨w.heap.size, offT i, none⟩ (.string ⟨t.toArray⟩)) := hbw.out.setCell (p := ⟨w.heap.size, offT i, none⟩) (Nat.le_refl _) _
            clear cn hfz
            generalize (wr.setCell ⟨w.heap.size, offT i, none⟩ (.string ⟨t.toArray⟩)) = W4 at *
            go_wp2_with fail
            go_roundw
            case rel => exact ⟨i + 1, q + k, ts ++ [t], by omega, by go_num, by go_num, HSt.out, hat4, hbw4⟩
            case measure => simp [intOf]; omega
        · obtain rfl : i = 3 := by omega
          obtain ⟨c0, c1, c2, c3, c4, c5, c6, c7⟩ := hat.out.cell
          obtain ⟨f0, f1, f2, f3, f4, f5, f6, f7⟩ := hat.out.frees
          have hn := takeSp_of HgN.out hg.out
          have HN := Lib.hid hn
          clear hn
          generalize spOf ns ts = x at *
          go_wp2_with fail
          refine bodyPost_ret (v := R) ?_ rfl ⟨rfl, ?_⟩
          · rw [← HR.out, HN.out]
            simp [results, takeV, spVal, Try.results55, go_sem, *]
          · exact below_set8 hbw.out (Nat.le_refl _) _ _ _ _ _ _ _ _
end Go.Proofs.Ytfkjdjdgcegniaa
