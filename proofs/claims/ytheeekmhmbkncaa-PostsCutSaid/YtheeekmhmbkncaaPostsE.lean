/- The walk on the document's decoding of an ack. Printed by wip/gen/postsE.py. -/
import Derived.Test.YtheeekmhmbkncaaPostsD
namespace Go.Proofs.Ytheeekmhmbkncaa
open Go.RowKit Spoor

structure RA (w : World) (ns : List Nat) (W : World) : Prop where
  res : AkN w.heap.size [] W
  at' : AkN (w.heap.size + 1) ns W
  bel : Below w.heap.size w W
theorem RA.later {w : World} {ns : List Nat} {W W' : World} (h : RA w ns W) (hb : Below W.heap.size W W') : RA w ns W' := ⟨blk_later h.res hb, blk_later h.at' hb, btP h.bel hb⟩
theorem RA.set {w : World} {ns : List Nat} {W : World} (h : RA w ns W) (i : Nat) (hl : ns.length = i) (hi : i < 3) (n : Nat) : RA w (ns ++ [n]) (W.setCell ⟨w.heap.size + 1, i, none⟩ (.int .i64 (n : Nat))) := by
  subst hl
  exact ⟨blk_other h.res _ (by simp) _, h.at'.set hi n, h.bel.setCell (p := ⟨w.heap.size + 1, ns.length, none⟩) (by simp) _⟩
theorem RA.facts {w : World} {ns : List Nat} {W : World} (h : RA w ns W) :
    (W.cell? ⟨w.heap.size, 0, none⟩ = some (.int .i64 0) ∧ W.cell? ⟨w.heap.size, 1, none⟩ = some (.int .i64 0) ∧ W.cell? ⟨w.heap.size, 2, none⟩ = some (.int .i64 0)) ∧
    (W.cell? ⟨w.heap.size + 1, 0, none⟩ = some (.int .i64 (ns.getD 0 0 : Nat)) ∧ W.cell? ⟨w.heap.size + 1, 1, none⟩ = some (.int .i64 (ns.getD 1 0 : Nat)) ∧ W.cell? ⟨w.heap.size + 1, 2, none⟩ = some (.int .i64 (ns.getD 2 0 : Nat))) ∧
    (W.frozen? ⟨w.heap.size, 0, none⟩ = false ∧ W.frozen? ⟨w.heap.size, 1, none⟩ = false ∧ W.frozen? ⟨w.heap.size, 2, none⟩ = false) ∧
    (W.frozen? ⟨w.heap.size + 1, 0, none⟩ = false ∧ W.frozen? ⟨w.heap.size + 1, 1, none⟩ = false ∧ W.frozen? ⟨w.heap.size + 1, 2, none⟩ = false) := by
  refine ⟨⟨?_, ?_, ?_⟩, ⟨?_, ?_, ?_⟩, ⟨?_, ?_, ?_⟩, ⟨?_, ?_, ?_⟩⟩
  all_goals first
    | (rw [cell_of_row W _ _ _ _ _ h.res]; rfl)
    | (rw [cell_of_row W _ _ _ _ _ h.at']; rfl)
    | exact frozen_of_row W _ _ _ _ h.res
    | exact frozen_of_row W _ _ _ _ h.at'
theorem RA.start (w : World) : RA w [] ((w.alloc (.cells #[.int .i64 0, .int .i64 0, .int .i64 0] 26)).alloc (.cells #[.int .i64 0, .int .i64 0, .int .i64 0] 26)) := by
  refine ⟨?_, ?_, ?_⟩
  · unfold AkN
    rw [heap_alloc_old _ _ (by simp)]
    exact heap_alloc_new w _
  · unfold AkN
    exact heap_new_at _ _ _ (by simp)
  · exact ((Below.refl _ _).alloc (Nat.le_refl _) _).alloc (by simp) _
set_option maxHeartbeats 16000000 in
theorem refDecodeAck_any (s : List UInt8) (w : World) (hs : s.length ≤ 140737488351232) :
    Calls Try.prog 19 #[.string ⟨s.toArray⟩] w fun e w' => e = .returned (decAkV (decAk s)) ∧ Below w.heap.size w w' := by
  have ZS := Lib.hid (RA.start w)
  have hbeh : (∃ l, s = 65 :: l) ∨ ((s = [] ∨ ∃ c l, s = c :: l ∧ c ≠ 65) ∧ decAk s = none) := by
    cases s with
    | nil => exact .inr ⟨.inl rfl, rfl⟩
    | cons c l =>
      by_cases e : c = 65
      · exact .inl ⟨l, by rw [e]⟩
      · exact .inr ⟨.inr ⟨c, l, rfl, e⟩, by unfold decAk; simp only [behind, if_neg e]⟩
  rcases hbeh with ⟨l, rfl⟩ | ⟨(rfl | ⟨c, l, rfl, hc⟩), hdn⟩
  rotate_left
  · have z := ZS.out
    obtain ⟨⟨g0, g1, g2⟩, ⟨k0, k1, k2⟩, ⟨f0, f1, f2⟩, ⟨p0, p1, p2⟩⟩ := z.facts
    simp at k0 k1 k2
    have Z := Lib.hid z
    clear z
    go_enter Try.func19, Try.ntmps19
    go_wp2_with fail
    exact bodyPost_ret (v := decAkV none) (by simp [results, decAkV, akVal, Try.results19, go_sem, *]) rfl ⟨by rw [hdn], Z.out.bel⟩
  · have hc2 : (c.toNat : Int) ≠ 65 := fun h => hc (UInt8.toNat_inj.1 (by show c.toNat = 65; omega))
    have hi : (((⟨(c :: l).toArray⟩ : ByteArray)[0]'(by simp [ByteArray.size])).toNat : Int) ≠ 65 := hc2
    have z := ZS.out
    obtain ⟨⟨g0, g1, g2⟩, ⟨k0, k1, k2⟩, ⟨f0, f1, f2⟩, ⟨p0, p1, p2⟩⟩ := z.facts
    simp at k0 k1 k2
    have Z := Lib.hid z
    clear z
    go_enter Try.func19, Try.ntmps19
    go_wp2_with fail
    exact bodyPost_ret (v := decAkV none) (by simp [results, decAkV, akVal, Try.results19, go_sem, *]) rfl ⟨by rw [hdn], Z.out.bel⟩
  · have hi : (((⟨(65 :: l).toArray⟩ : ByteArray)[0]'(by simp [ByteArray.size])).toNat : Int) = 65 := rfl
    have hst := gets_cons 65 l
    have c1 := fun W => refGetN_any (65 :: l) 1 W hs
    rw [show (65 :: l).drop 1 = l from rfl] at c1
    cases e1 : get l with
    | none =>
      have hdn : decAk (65 :: l) = none := decAk_no (by rw [hst, stepR_none e1])
      rw [e1] at c1
      unfold getV at c1
      have C1 := Lib.hid c1
      clear c1 e1 hst
      have z := ZS.out
      obtain ⟨⟨g0, g1, g2⟩, ⟨k0, k1, k2⟩, ⟨f0, f1, f2⟩, ⟨p0, p1, p2⟩⟩ := z.facts
      simp at k0 k1 k2
      have Z := Lib.hid z
      clear z
      go_enter Try.func19, Try.ntmps19
      go_wp2_with fail
      refine (C1.out _).mono ?_
      rintro e w1 ⟨rfl, b1⟩
      have z := Z.out.later b1
      clear Z g0 g1 g2 k0 k1 k2 f0 f1 f2 p0 p1 p2 b1
      obtain ⟨⟨g0, g1, g2⟩, ⟨k0, k1, k2⟩, ⟨f0, f1, f2⟩, ⟨p0, p1, p2⟩⟩ := z.facts
      simp at k0 k1 k2
      have Z := Lib.hid z
      clear z
      go_wp2_with fail
      have Z2 := Lib.hid (Z.out.set 0 rfl (by decide) 0)
      refine bodyPost_ret (v := decAkV none) (by simp [results, decAkV, akVal, Try.results19, go_sem, *]) rfl ⟨by rw [hdn], ((Z2.out.bel.setCell (p := ⟨w.heap.size, 0, none⟩) (Nat.le_refl _) _).setCell (p := ⟨w.heap.size, 1, none⟩) (Nat.le_refl _) _).setCell (p := ⟨w.heap.size, 2, none⟩) (Nat.le_refl _) _⟩
    | some q1 =>
      obtain ⟨h, j1⟩ := q1
      obtain ⟨_, _, gk1, gn1, _⟩ := get_some e1
      have hst1 : getsR 65 (65 :: l) = stepR 2 [h] (l.drop j1) := by rw [hst, stepR_some e1]; rfl
      have c2 := fun W => refGetN_any (65 :: l) (1 + j1) W hs
      rw [show (65 :: l).drop (1 + j1) = l.drop j1 by rw [Nat.add_comm]; rfl] at c2
      rw [e1] at c1
      unfold getV at c1
      have C1 := Lib.hid c1
      clear c1 e1 hst
      cases e2 : get (l.drop j1) with
      | none =>
        have hdn : decAk (65 :: l) = none := decAk_no (by rw [hst1, stepR_none e2])
        rw [e2] at c2
        unfold getV at c2
        have C2 := Lib.hid c2
        clear c2 e2 hst1
        have z := ZS.out
        obtain ⟨⟨g0, g1, g2⟩, ⟨k0, k1, k2⟩, ⟨f0, f1, f2⟩, ⟨p0, p1, p2⟩⟩ := z.facts
        simp at k0 k1 k2
        have Z := Lib.hid z
        clear z
        go_enter Try.func19, Try.ntmps19
        go_wp2_with fail
        refine (C1.out _).mono ?_
        rintro e w1 ⟨rfl, b1⟩
        have z := Z.out.later b1
        clear Z g0 g1 g2 k0 k1 k2 f0 f1 f2 p0 p1 p2 b1
        obtain ⟨⟨g0, g1, g2⟩, ⟨k0, k1, k2⟩, ⟨f0, f1, f2⟩, ⟨p0, p1, p2⟩⟩ := z.facts
        simp at k0 k1 k2
        have Z := Lib.hid z
        clear z
        go_wp2_with fail
        have z := Z.out.set 0 rfl (by decide) h
        clear Z g0 g1 g2 k0 k1 k2 f0 f1 f2 p0 p1 p2
        have Z := Lib.hid z
        clear z
        obtain ⟨⟨g0, g1, g2⟩, ⟨k0, k1, k2⟩, ⟨f0, f1, f2⟩, ⟨p0, p1, p2⟩⟩ := Z.out.facts
        refine (C2.out _).mono ?_
        rintro e w2 ⟨rfl, b2⟩
        have z := Z.out.later b2
        clear Z g0 g1 g2 k0 k1 k2 f0 f1 f2 p0 p1 p2 b2
        obtain ⟨⟨g0, g1, g2⟩, ⟨k0, k1, k2⟩, ⟨f0, f1, f2⟩, ⟨p0, p1, p2⟩⟩ := z.facts
        simp at k0 k1 k2
        have Z := Lib.hid z
        clear z
        go_wp2_with fail
        have Z2 := Lib.hid (Z.out.set 1 rfl (by decide) 0)
        refine bodyPost_ret (v := decAkV none) (by simp [results, decAkV, akVal, Try.results19, go_sem, *]) rfl ⟨by rw [hdn], ((Z2.out.bel.setCell (p := ⟨w.heap.size, 0, none⟩) (Nat.le_refl _) _).setCell (p := ⟨w.heap.size, 1, none⟩) (Nat.le_refl _) _).setCell (p := ⟨w.heap.size, 2, none⟩) (Nat.le_refl _) _⟩
      | some q2 =>
        obtain ⟨f, j2⟩ := q2
        obtain ⟨_, _, gk2, gn2, _⟩ := get_some e2
        have hst2 : getsR 65 (65 :: l) = stepR 1 [h, f] ((l.drop j1).drop j2) := by rw [hst1, stepR_some e2]; rfl
        have c3 := fun W => refGetN_any (65 :: l) (1 + j1 + j2) W hs
        rw [show (65 :: l).drop (1 + j1 + j2) = (l.drop j1).drop j2 by rw [List.drop_drop, show 1 + j1 + j2 = (j1 + j2) + 1 by omega]; rfl] at c3
        rw [e2] at c2
        unfold getV at c2
        rw [List.length_drop] at gk2
        have C2 := Lib.hid c2
        clear c2 e2 hst1
        cases e3 : get ((l.drop j1).drop j2) with
        | none =>
          have hdn : decAk (65 :: l) = none := decAk_no (by rw [hst2, stepR_none e3])
          rw [e3] at c3
          unfold getV at c3
          have C3 := Lib.hid c3
          clear c3 e3 hst2
          have z := ZS.out
          obtain ⟨⟨g0, g1, g2⟩, ⟨k0, k1, k2⟩, ⟨f0, f1, f2⟩, ⟨p0, p1, p2⟩⟩ := z.facts
          simp at k0 k1 k2
          have Z := Lib.hid z
          clear z
          go_enter Try.func19, Try.ntmps19
          go_wp2_with fail
          refine (C1.out _).mono ?_
          rintro e w1 ⟨rfl, b1⟩
          have z := Z.out.later b1
          clear Z g0 g1 g2 k0 k1 k2 f0 f1 f2 p0 p1 p2 b1
          obtain ⟨⟨g0, g1, g2⟩, ⟨k0, k1, k2⟩, ⟨f0, f1, f2⟩, ⟨p0, p1, p2⟩⟩ := z.facts
          simp at k0 k1 k2
          have Z := Lib.hid z
          clear z
          go_wp2_with fail
          have z := Z.out.set 0 rfl (by decide) h
          clear Z g0 g1 g2 k0 k1 k2 f0 f1 f2 p0 p1 p2
          have Z := Lib.hid z
          clear z
          obtain ⟨⟨g0, g1, g2⟩, ⟨k0, k1, k2⟩, ⟨f0, f1, f2⟩, ⟨p0, p1, p2⟩⟩ := Z.out.facts
          refine (C2.out _).mono ?_
          rintro e w2 ⟨rfl, b2⟩
          have z := Z.out.later b2
          clear Z g0 g1 g2 k0 k1 k2 f0 f1 f2 p0 p1 p2 b2
          obtain ⟨⟨g0, g1, g2⟩, ⟨k0, k1, k2⟩, ⟨f0, f1, f2⟩, ⟨p0, p1, p2⟩⟩ := z.facts
          simp at k0 k1 k2
          have Z := Lib.hid z
          clear z
          go_wp2_with fail
          have z := Z.out.set 1 rfl (by decide) f
          clear Z g0 g1 g2 k0 k1 k2 f0 f1 f2 p0 p1 p2
          have Z := Lib.hid z
          clear z
          obtain ⟨⟨g0, g1, g2⟩, ⟨k0, k1, k2⟩, ⟨f0, f1, f2⟩, ⟨p0, p1, p2⟩⟩ := Z.out.facts
          refine (C3.out _).mono ?_
          rintro e w3 ⟨rfl, b3⟩
          have z := Z.out.later b3
          clear Z g0 g1 g2 k0 k1 k2 f0 f1 f2 p0 p1 p2 b3
          obtain ⟨⟨g0, g1, g2⟩, ⟨k0, k1, k2⟩, ⟨f0, f1, f2⟩, ⟨p0, p1, p2⟩⟩ := z.facts
          simp at k0 k1 k2
          have Z := Lib.hid z
          clear z
          go_wp2_with fail
          refine bodyPost_ret (v := decAkV none) (by simp [results, decAkV, akVal, Try.results19, go_sem, *]) rfl ⟨by rw [hdn], ((Z.out.bel.setCell (p := ⟨w.heap.size, 0, none⟩) (Nat.le_refl _) _).setCell (p := ⟨w.heap.size, 1, none⟩) (Nat.le_refl _) _).setCell (p := ⟨w.heap.size, 2, none⟩) (Nat.le_refl _) _⟩
        | some q3 =>
          obtain ⟨m, j3⟩ := q3
          obtain ⟨_, _, gk3, gn3, _⟩ := get_some e3
          have hst3 : getsR 65 (65 :: l) = some ([h, f, m], (((l.drop j1).drop j2).drop j3)) := by rw [hst2, stepR_some e3]; rfl
          have hdec := decAk_ref hst3
          rw [e3] at c3
          unfold getV at c3
          have C3 := Lib.hid c3
          clear c3 e3 hst2 hst3
          by_cases hf : (f : Int) ≤ 2147483647
          · by_cases hm : (m : Int) ≤ 2147483647
            · have he := fun W => refEncodeAck_any ⟨(h : Int), (f : Int), (f : Int) + m⟩ W
              unfold encAkV akVal at he
              simp only at he
              cases hok : (⟨(h : Int), (f : Int), (f : Int) + m⟩ : Ak).ok with
              | false =>
                have hdn : decAk (65 :: l) = none := by rw [hdec, hok]; simp
                rw [hok] at he
                simp only [Bool.false_eq_true, if_false] at he
                have HE := Lib.hid he
                clear he hdec hok
                have z := ZS.out
                obtain ⟨⟨g0, g1, g2⟩, ⟨k0, k1, k2⟩, ⟨f0, f1, f2⟩, ⟨p0, p1, p2⟩⟩ := z.facts
                simp at k0 k1 k2
                have Z := Lib.hid z
                clear z
                go_enter Try.func19, Try.ntmps19
                go_wp2_with fail
                refine (C1.out _).mono ?_
                rintro e w1 ⟨rfl, b1⟩
                have z := Z.out.later b1
                clear Z g0 g1 g2 k0 k1 k2 f0 f1 f2 p0 p1 p2 b1
                obtain ⟨⟨g0, g1, g2⟩, ⟨k0, k1, k2⟩, ⟨f0, f1, f2⟩, ⟨p0, p1, p2⟩⟩ := z.facts
                simp at k0 k1 k2
                have Z := Lib.hid z
                clear z
                go_wp2_with fail
                have z := Z.out.set 0 rfl (by decide) h
                clear Z g0 g1 g2 k0 k1 k2 f0 f1 f2 p0 p1 p2
                have Z := Lib.hid z
                clear z
                obtain ⟨⟨g0, g1, g2⟩, ⟨k0, k1, k2⟩, ⟨f0, f1, f2⟩, ⟨p0, p1, p2⟩⟩ := Z.out.facts
                refine (C2.out _).mono ?_
                rintro e w2 ⟨rfl, b2⟩
                have z := Z.out.later b2
                clear Z g0 g1 g2 k0 k1 k2 f0 f1 f2 p0 p1 p2 b2
                obtain ⟨⟨g0, g1, g2⟩, ⟨k0, k1, k2⟩, ⟨f0, f1, f2⟩, ⟨p0, p1, p2⟩⟩ := z.facts
                simp at k0 k1 k2
                have Z := Lib.hid z
                clear z
                go_wp2_with fail
                have z := Z.out.set 1 rfl (by decide) f
                clear Z g0 g1 g2 k0 k1 k2 f0 f1 f2 p0 p1 p2
                have Z := Lib.hid z
                clear z
                obtain ⟨⟨g0, g1, g2⟩, ⟨k0, k1, k2⟩, ⟨f0, f1, f2⟩, ⟨p0, p1, p2⟩⟩ := Z.out.facts
                refine (C3.out _).mono ?_
                rintro e w3 ⟨rfl, b3⟩
                have z := Z.out.later b3
                clear Z g0 g1 g2 k0 k1 k2 f0 f1 f2 p0 p1 p2 b3
                obtain ⟨⟨g0, g1, g2⟩, ⟨k0, k1, k2⟩, ⟨f0, f1, f2⟩, ⟨p0, p1, p2⟩⟩ := z.facts
                simp at k0 k1 k2
                have Z := Lib.hid z
                clear z
                go_wp2_with fail
                refine (HE.out _).mono ?_
                rintro e w4 ⟨rfl, b4⟩
                have z := (Z.out.set 2 rfl (by decide) (f + m)).later b4
                clear Z g0 g1 g2 k0 k1 k2 f0 f1 f2 p0 p1 p2 b4
                obtain ⟨⟨g0, g1, g2⟩, ⟨k0, k1, k2⟩, ⟨f0, f1, f2⟩, ⟨p0, p1, p2⟩⟩ := z.facts
                simp at k0 k1 k2
                have Z := Lib.hid z
                clear z
                go_wp2_with fail
                refine bodyPost_ret (v := decAkV none) (by simp [results, decAkV, akVal, Try.results19, go_sem, *]) rfl ⟨by rw [hdn], ((Z.out.bel.setCell (p := ⟨w.heap.size, 0, none⟩) (Nat.le_refl _) _).setCell (p := ⟨w.heap.size, 1, none⟩) (Nat.le_refl _) _).setCell (p := ⟨w.heap.size, 2, none⟩) (Nat.le_refl _) _⟩
              | true =>
                rw [hok] at he
                simp only [if_true] at he
                by_cases hb : (⟨(h : Int), (f : Int), (f : Int) + m⟩ : Ak).bytes = 65 :: l
                · have hdn : decAk (65 :: l) = some ⟨(h : Int), (f : Int), (f : Int) + m⟩ := by rw [hdec, hok, hb]; simp
                  rw [hb] at he
                  have HE := Lib.hid he
                  clear he hdec hok hb
                  have z := ZS.out
                  obtain ⟨⟨g0, g1, g2⟩, ⟨k0, k1, k2⟩, ⟨f0, f1, f2⟩, ⟨p0, p1, p2⟩⟩ := z.facts
                  simp at k0 k1 k2
                  have Z := Lib.hid z
                  clear z
                  go_enter Try.func19, Try.ntmps19
                  go_wp2_with fail
                  refine (C1.out _).mono ?_
                  rintro e w1 ⟨rfl, b1⟩
                  have z := Z.out.later b1
                  clear Z g0 g1 g2 k0 k1 k2 f0 f1 f2 p0 p1 p2 b1
                  obtain ⟨⟨g0, g1, g2⟩, ⟨k0, k1, k2⟩, ⟨f0, f1, f2⟩, ⟨p0, p1, p2⟩⟩ := z.facts
                  simp at k0 k1 k2
                  have Z := Lib.hid z
                  clear z
                  go_wp2_with fail
                  have z := Z.out.set 0 rfl (by decide) h
                  clear Z g0 g1 g2 k0 k1 k2 f0 f1 f2 p0 p1 p2
                  have Z := Lib.hid z
                  clear z
                  obtain ⟨⟨g0, g1, g2⟩, ⟨k0, k1, k2⟩, ⟨f0, f1, f2⟩, ⟨p0, p1, p2⟩⟩ := Z.out.facts
                  refine (C2.out _).mono ?_
                  rintro e w2 ⟨rfl, b2⟩
                  have z := Z.out.later b2
                  clear Z g0 g1 g2 k0 k1 k2 f0 f1 f2 p0 p1 p2 b2
                  obtain ⟨⟨g0, g1, g2⟩, ⟨k0, k1, k2⟩, ⟨f0, f1, f2⟩, ⟨p0, p1, p2⟩⟩ := z.facts
                  simp at k0 k1 k2
                  have Z := Lib.hid z
                  clear z
                  go_wp2_with fail
                  have z := Z.out.set 1 rfl (by decide) f
                  clear Z g0 g1 g2 k0 k1 k2 f0 f1 f2 p0 p1 p2
                  have Z := Lib.hid z
                  clear z
                  obtain ⟨⟨g0, g1, g2⟩, ⟨k0, k1, k2⟩, ⟨f0, f1, f2⟩, ⟨p0, p1, p2⟩⟩ := Z.out.facts
                  refine (C3.out _).mono ?_
                  rintro e w3 ⟨rfl, b3⟩
                  have z := Z.out.later b3
                  clear Z g0 g1 g2 k0 k1 k2 f0 f1 f2 p0 p1 p2 b3
                  obtain ⟨⟨g0, g1, g2⟩, ⟨k0, k1, k2⟩, ⟨f0, f1, f2⟩, ⟨p0, p1, p2⟩⟩ := z.facts
                  simp at k0 k1 k2
                  have Z := Lib.hid z
                  clear z
                  go_wp2_with fail
                  refine (HE.out _).mono ?_
                  rintro e w4 ⟨rfl, b4⟩
                  have z := (Z.out.set 2 rfl (by decide) (f + m)).later b4
                  clear Z g0 g1 g2 k0 k1 k2 f0 f1 f2 p0 p1 p2 b4
                  obtain ⟨⟨g0, g1, g2⟩, ⟨k0, k1, k2⟩, ⟨f0, f1, f2⟩, ⟨p0, p1, p2⟩⟩ := z.facts
                  simp at k0 k1 k2
                  have Z := Lib.hid z
                  clear z
                  go_wp2_with fail
                  refine bodyPost_ret (v := decAkV (some ⟨(h : Int), (f : Int), (f : Int) + m⟩)) (by simp [results, decAkV, akVal, Try.results19, go_sem, *]) rfl ⟨by rw [hdn], ((Z.out.bel.setCell (p := ⟨w.heap.size, 0, none⟩) (Nat.le_refl _) _).setCell (p := ⟨w.heap.size, 1, none⟩) (Nat.le_refl _) _).setCell (p := ⟨w.heap.size, 2, none⟩) (Nat.le_refl _) _⟩
                · have hdn : decAk (65 :: l) = none := by rw [hdec, hok]; simp [hb]
                  have hne : ((⟨(h : Int), (f : Int), (f : Int) + m⟩ : Ak).bytes == 65 :: l) = false := beq_eq_false_iff_ne.2 hb
                  generalize (⟨(h : Int), (f : Int), (f : Int) + m⟩ : Ak).bytes = B at *
                  have HE := Lib.hid he
                  clear he hdec hok hb
                  have z := ZS.out
                  obtain ⟨⟨g0, g1, g2⟩, ⟨k0, k1, k2⟩, ⟨f0, f1, f2⟩, ⟨p0, p1, p2⟩⟩ := z.facts
                  simp at k0 k1 k2
                  have Z := Lib.hid z
                  clear z
                  go_enter Try.func19, Try.ntmps19
                  go_wp2_with fail
                  refine (C1.out _).mono ?_
                  rintro e w1 ⟨rfl, b1⟩
                  have z := Z.out.later b1
                  clear Z g0 g1 g2 k0 k1 k2 f0 f1 f2 p0 p1 p2 b1
                  obtain ⟨⟨g0, g1, g2⟩, ⟨k0, k1, k2⟩, ⟨f0, f1, f2⟩, ⟨p0, p1, p2⟩⟩ := z.facts
                  simp at k0 k1 k2
                  have Z := Lib.hid z
                  clear z
                  go_wp2_with fail
                  have z := Z.out.set 0 rfl (by decide) h
                  clear Z g0 g1 g2 k0 k1 k2 f0 f1 f2 p0 p1 p2
                  have Z := Lib.hid z
                  clear z
                  obtain ⟨⟨g0, g1, g2⟩, ⟨k0, k1, k2⟩, ⟨f0, f1, f2⟩, ⟨p0, p1, p2⟩⟩ := Z.out.facts
                  refine (C2.out _).mono ?_
                  rintro e w2 ⟨rfl, b2⟩
                  have z := Z.out.later b2
                  clear Z g0 g1 g2 k0 k1 k2 f0 f1 f2 p0 p1 p2 b2
                  obtain ⟨⟨g0, g1, g2⟩, ⟨k0, k1, k2⟩, ⟨f0, f1, f2⟩, ⟨p0, p1, p2⟩⟩ := z.facts
                  simp at k0 k1 k2
                  have Z := Lib.hid z
                  clear z
                  go_wp2_with fail
                  have z := Z.out.set 1 rfl (by decide) f
                  clear Z g0 g1 g2 k0 k1 k2 f0 f1 f2 p0 p1 p2
                  have Z := Lib.hid z
                  clear z
                  obtain ⟨⟨g0, g1, g2⟩, ⟨k0, k1, k2⟩, ⟨f0, f1, f2⟩, ⟨p0, p1, p2⟩⟩ := Z.out.facts
                  refine (C3.out _).mono ?_
                  rintro e w3 ⟨rfl, b3⟩
                  have z := Z.out.later b3
                  clear Z g0 g1 g2 k0 k1 k2 f0 f1 f2 p0 p1 p2 b3
                  obtain ⟨⟨g0, g1, g2⟩, ⟨k0, k1, k2⟩, ⟨f0, f1, f2⟩, ⟨p0, p1, p2⟩⟩ := z.facts
                  simp at k0 k1 k2
                  have Z := Lib.hid z
                  clear z
                  go_wp2_with fail
                  refine (HE.out _).mono ?_
                  rintro e w4 ⟨rfl, b4⟩
                  have z := (Z.out.set 2 rfl (by decide) (f + m)).later b4
                  clear Z g0 g1 g2 k0 k1 k2 f0 f1 f2 p0 p1 p2 b4
                  obtain ⟨⟨g0, g1, g2⟩, ⟨k0, k1, k2⟩, ⟨f0, f1, f2⟩, ⟨p0, p1, p2⟩⟩ := z.facts
                  simp at k0 k1 k2
                  have Z := Lib.hid z
                  clear z
                  go_wp2_with fail
                  refine bodyPost_ret (v := decAkV none) (by simp [results, decAkV, akVal, Try.results19, go_sem, *]) rfl ⟨by rw [hdn], ((Z.out.bel.setCell (p := ⟨w.heap.size, 0, none⟩) (Nat.le_refl _) _).setCell (p := ⟨w.heap.size, 1, none⟩) (Nat.le_refl _) _).setCell (p := ⟨w.heap.size, 2, none⟩) (Nat.le_refl _) _⟩
            · have hdn : decAk (65 :: l) = none := by rw [hdec, if_neg]; rintro ⟨e, _⟩; have := okAck e; simp only at this; omega
              clear hdec
              have z := ZS.out
              obtain ⟨⟨g0, g1, g2⟩, ⟨k0, k1, k2⟩, ⟨f0, f1, f2⟩, ⟨p0, p1, p2⟩⟩ := z.facts
              simp at k0 k1 k2
              have Z := Lib.hid z
              clear z
              go_enter Try.func19, Try.ntmps19
              go_wp2_with fail
              refine (C1.out _).mono ?_
              rintro e w1 ⟨rfl, b1⟩
              have z := Z.out.later b1
              clear Z g0 g1 g2 k0 k1 k2 f0 f1 f2 p0 p1 p2 b1
              obtain ⟨⟨g0, g1, g2⟩, ⟨k0, k1, k2⟩, ⟨f0, f1, f2⟩, ⟨p0, p1, p2⟩⟩ := z.facts
              simp at k0 k1 k2
              have Z := Lib.hid z
              clear z
              go_wp2_with fail
              have z := Z.out.set 0 rfl (by decide) h
              clear Z g0 g1 g2 k0 k1 k2 f0 f1 f2 p0 p1 p2
              have Z := Lib.hid z
              clear z
              obtain ⟨⟨g0, g1, g2⟩, ⟨k0, k1, k2⟩, ⟨f0, f1, f2⟩, ⟨p0, p1, p2⟩⟩ := Z.out.facts
              refine (C2.out _).mono ?_
              rintro e w2 ⟨rfl, b2⟩
              have z := Z.out.later b2
              clear Z g0 g1 g2 k0 k1 k2 f0 f1 f2 p0 p1 p2 b2
              obtain ⟨⟨g0, g1, g2⟩, ⟨k0, k1, k2⟩, ⟨f0, f1, f2⟩, ⟨p0, p1, p2⟩⟩ := z.facts
              simp at k0 k1 k2
              have Z := Lib.hid z
              clear z
              go_wp2_with fail
              have z := Z.out.set 1 rfl (by decide) f
              clear Z g0 g1 g2 k0 k1 k2 f0 f1 f2 p0 p1 p2
              have Z := Lib.hid z
              clear z
              obtain ⟨⟨g0, g1, g2⟩, ⟨k0, k1, k2⟩, ⟨f0, f1, f2⟩, ⟨p0, p1, p2⟩⟩ := Z.out.facts
              refine (C3.out _).mono ?_
              rintro e w3 ⟨rfl, b3⟩
              have z := Z.out.later b3
              clear Z g0 g1 g2 k0 k1 k2 f0 f1 f2 p0 p1 p2 b3
              obtain ⟨⟨g0, g1, g2⟩, ⟨k0, k1, k2⟩, ⟨f0, f1, f2⟩, ⟨p0, p1, p2⟩⟩ := z.facts
              simp at k0 k1 k2
              have Z := Lib.hid z
              clear z
              go_wp2_with fail
              refine bodyPost_ret (v := decAkV none) (by simp [results, decAkV, akVal, Try.results19, go_sem, *]) rfl ⟨by rw [hdn], ((Z.out.bel.setCell (p := ⟨w.heap.size, 0, none⟩) (Nat.le_refl _) _).setCell (p := ⟨w.heap.size, 1, none⟩) (Nat.le_refl _) _).setCell (p := ⟨w.heap.size, 2, none⟩) (Nat.le_refl _) _⟩
          · have hdn : decAk (65 :: l) = none := by rw [hdec, if_neg]; rintro ⟨e, _⟩; have := okAck e; simp only at this; omega
            clear hdec
            have z := ZS.out
            obtain ⟨⟨g0, g1, g2⟩, ⟨k0, k1, k2⟩, ⟨f0, f1, f2⟩, ⟨p0, p1, p2⟩⟩ := z.facts
            simp at k0 k1 k2
            have Z := Lib.hid z
            clear z
            go_enter Try.func19, Try.ntmps19
            go_wp2_with fail
            refine (C1.out _).mono ?_
            rintro e w1 ⟨rfl, b1⟩
            have z := Z.out.later b1
            clear Z g0 g1 g2 k0 k1 k2 f0 f1 f2 p0 p1 p2 b1
            obtain ⟨⟨g0, g1, g2⟩, ⟨k0, k1, k2⟩, ⟨f0, f1, f2⟩, ⟨p0, p1, p2⟩⟩ := z.facts
            simp at k0 k1 k2
            have Z := Lib.hid z
            clear z
            go_wp2_with fail
            have z := Z.out.set 0 rfl (by decide) h
            clear Z g0 g1 g2 k0 k1 k2 f0 f1 f2 p0 p1 p2
            have Z := Lib.hid z
            clear z
            obtain ⟨⟨g0, g1, g2⟩, ⟨k0, k1, k2⟩, ⟨f0, f1, f2⟩, ⟨p0, p1, p2⟩⟩ := Z.out.facts
            refine (C2.out _).mono ?_
            rintro e w2 ⟨rfl, b2⟩
            have z := Z.out.later b2
            clear Z g0 g1 g2 k0 k1 k2 f0 f1 f2 p0 p1 p2 b2
            obtain ⟨⟨g0, g1, g2⟩, ⟨k0, k1, k2⟩, ⟨f0, f1, f2⟩, ⟨p0, p1, p2⟩⟩ := z.facts
            simp at k0 k1 k2
            have Z := Lib.hid z
            clear z
            go_wp2_with fail
            have z := Z.out.set 1 rfl (by decide) f
            clear Z g0 g1 g2 k0 k1 k2 f0 f1 f2 p0 p1 p2
            have Z := Lib.hid z
            clear z
            obtain ⟨⟨g0, g1, g2⟩, ⟨k0, k1, k2⟩, ⟨f0, f1, f2⟩, ⟨p0, p1, p2⟩⟩ := Z.out.facts
            refine (C3.out _).mono ?_
            rintro e w3 ⟨rfl, b3⟩
            have z := Z.out.later b3
            clear Z g0 g1 g2 k0 k1 k2 f0 f1 f2 p0 p1 p2 b3
            obtain ⟨⟨g0, g1, g2⟩, ⟨k0, k1, k2⟩, ⟨f0, f1, f2⟩, ⟨p0, p1, p2⟩⟩ := z.facts
            simp at k0 k1 k2
            have Z := Lib.hid z
            clear z
            go_wp2_with fail
            refine bodyPost_ret (v := decAkV none) (by simp [results, decAkV, akVal, Try.results19, go_sem, *]) rfl ⟨by rw [hdn], ((Z.out.bel.setCell (p := ⟨w.heap.size, 0, none⟩) (Nat.le_refl _) _).setCell (p := ⟨w.heap.size, 1, none⟩) (Nat.le_refl _) _).setCell (p := ⟨w.heap.size, 2, none⟩) (Nat.le_refl _) _⟩
end Go.Proofs.Ytheeekmhmbkncaa
