/- The walk on the document's decoding of a batch. Printed by wip/gen/postsI.py. -/
import Derived.Test.YtheeekmhmbkncaaPostsH
namespace Go.Proofs.Ytheeekmhmbkncaa
open Go.RowKit Spoor

theorem ok_fits {x : Sp} (h : x.ok = true) : Fits x := by
  obtain ⟨_, _, _, _, _, f, g, k⟩ := ok_of h
  have fl := (nameOk_of f)
  have gl := (nameOk_of g)
  exact ⟨by omega, by omega, by omega⟩
theorem all_fits {l : List Sp} (h : l.all Sp.ok = true) : ∀ x ∈ l, Fits x := fun x hx => ok_fits (List.all_eq_true.1 h x hx)
def appR (acc : List Sp) (o : Option (List Sp × List UInt8)) : Option (List Sp × List UInt8) := o.map fun q => (acc ++ q.1, q.2)
theorem appR_step {m : Nat} {acc : List Sp} {r t : List UInt8} {j : Nat} {x : Sp} (h1 : getText r = some (t, j)) (h2 : decodeSp t = some x) : appR acc (spansR (m + 1) r) = appR (acc ++ [x]) (spansR m (r.drop j)) := by
  rw [spansR, h1]
  simp only [h2]
  cases spansR m (r.drop j) <;> simp [appR]
theorem appR_no1 {m : Nat} {acc : List Sp} {r : List UInt8} (h1 : getText r = none) : appR acc (spansR (m + 1) r) = none := by
  rw [spansR, h1]; rfl
theorem appR_no2 {m : Nat} {acc : List Sp} {r t : List UInt8} {j : Nat} (h1 : getText r = some (t, j)) (h2 : decodeSp t = none) : appR acc (spansR (m + 1) r) = none := by
  rw [spansR, h1]; simp only [h2]; rfl
theorem decBa_no {s : List UInt8} (h : getsR 66 s = none) : decBa s = none := by rw [decBa_gets, h]
theorem decBa_no2 {s r : List UInt8} {h f m : Nat} (hg : getsR 66 s = some ([h, f, m], r)) (hn : spansR m r = none) : decBa s = none := by
  rw [decBa_gets, hg]
  simp only [hn, finB]
  split <;> rfl
theorem decBa_big {s r : List UInt8} {h f m : Nat} (hg : getsR 66 s = some ([h, f, m], r)) (hm : 8 < m) : decBa s = none := by
  rw [decBa_gets, hg]
  have : numsOk h f m = false := by unfold numsOk; rw [decide_eq_false (by omega : ¬ (1 ≤ m ∧ m ≤ 8))]; simp
  simp only [this, Bool.false_eq_true, if_false]
theorem decBa_ref {s r rest : List UInt8} {h f m : Nat} {acc : List Sp} (hg : getsR 66 s = some ([h, f, m], r)) (hs : spansR m r = some (acc, rest)) :
    decBa s = if (⟨(h : Int), (f : Int), acc⟩ : Ba).ok = true ∧ (⟨(h : Int), (f : Int), acc⟩ : Ba).bytes = s then some ⟨(h : Int), (f : Int), acc⟩ else none := by
  split
  · rename_i e
    have := decBa_bytes e.1
    rwa [e.2] at this
  · rename_i e
    cases hd : decBa s with
    | none => rfl
    | some x =>
      exfalso
      have h2 := decBa_some hd
      rw [decBa_gets, hg] at hd
      simp only [hs] at hd
      split at hd
      · cases rest with
        | cons c t => simp [finB] at hd
        | nil =>
          simp only [finB, List.nil_append, Option.some.injEq] at hd
          subst hd
          exact e h2
      · cases hd
structure RZ (w : World) (ns : List Nat) (W : World) : Prop where
  res : BaZ w.heap.size W
  at' : BaN (w.heap.size + 1) ns W
  bel : Below w.heap.size w W
theorem RZ.later {w : World} {ns : List Nat} {W W' : World} (h : RZ w ns W) (hb : Below W.heap.size W W') : RZ w ns W' := ⟨blk_later h.res hb, blk_later h.at' hb, btP h.bel hb⟩
theorem RZ.set {w : World} {ns : List Nat} {W : World} (h : RZ w ns W) (i : Nat) (hl : ns.length = i) (hi : i < 2) (n : Nat) : RZ w (ns ++ [n]) (W.setCell ⟨w.heap.size + 1, i, none⟩ (.int .i64 (n : Nat))) := by
  subst hl
  refine ⟨blk_other h.res _ (by simp) _, ?_, h.bel.setCell (p := ⟨w.heap.size + 1, ns.length, none⟩) (by simp) _⟩
  have h1 := h.at'
  unfold BaN at h1 ⊢
  rw [heap_setCell_same W _ _ _ _ _ h1]
  match ns, hi with
  | [], _ => rfl
  | [_], _ => rfl
theorem RZ.facts {w : World} {ns : List Nat} {W : World} (h : RZ w ns W) :
    ((W.cell? ⟨w.heap.size, 0, none⟩ = some (.int .i64 0) ∧ W.cell? ⟨w.heap.size, 1, none⟩ = some (.int .i64 0) ∧ W.cell? ⟨w.heap.size, 2, none⟩ = some (.slice none 0 0)) ∧ W.frozen? ⟨w.heap.size, 0, none⟩ = false ∧ W.frozen? ⟨w.heap.size, 1, none⟩ = false ∧ W.frozen? ⟨w.heap.size, 2, none⟩ = false) ∧
    (W.cell? ⟨w.heap.size + 1, 0, none⟩ = some (.int .i64 (ns.getD 0 0 : Nat)) ∧ W.cell? ⟨w.heap.size + 1, 1, none⟩ = some (.int .i64 (ns.getD 1 0 : Nat)) ∧ W.cell? ⟨w.heap.size + 1, 2, none⟩ = some (.slice none 0 0)) ∧
    (W.frozen? ⟨w.heap.size + 1, 0, none⟩ = false ∧ W.frozen? ⟨w.heap.size + 1, 1, none⟩ = false ∧ W.frozen? ⟨w.heap.size + 1, 2, none⟩ = false) := by
  refine ⟨h.res.facts, ⟨?_, ?_, ?_⟩, ⟨?_, ?_, ?_⟩⟩
  all_goals first
    | (rw [cell_of_row W _ _ _ _ _ h.at']; rfl)
    | exact frozen_of_row W _ _ _ _ h.at'
theorem RZ.start (w : World) : RZ w [] ((w.alloc (.cells #[.int .i64 0, .int .i64 0, .slice none 0 0] 24)).alloc (.cells #[.int .i64 0, .int .i64 0, .slice none 0 0] 24)) := by
  refine ⟨?_, ?_, ?_⟩
  · unfold BaZ
    rw [heap_alloc_old _ _ (by simp)]
    exact heap_alloc_new w _
  · unfold BaN
    exact heap_new_at _ _ _ (by simp)
  · exact ((Below.refl _ _).alloc (Nat.le_refl _) _).alloc (by simp) _
theorem refGetTextN_any (s : List UInt8) (n : Nat) (W : World) (hs : s.length ≤ 140737488351232) :
    Calls Try.prog 36 #[.string ⟨s.toArray⟩, .int .i64 n] W fun e w' => e = .returned (getTextV n (getText (s.drop n))) ∧ Below W.heap.size W w' := by
  have h := refGetText_any ⟨s.toArray⟩ (n : Int) W (by show s.toArray.size ≤ maxLen; simp [maxLen]; omega)
  have e : getTextAt s (n : Int) = getTextV n (getText (s.drop n)) := by unfold getTextAt; rw [if_neg (by omega), Int.toNat_natCast]
  rw [← e]
  exact h
theorem refDecodeL_any (t : List UInt8) (W : World) (hs : t.length ≤ 140737488351232) :
    Calls Try.prog 37 #[.string ⟨t.toArray⟩] W fun e w' => e = .returned (decodeV (decodeSp t)) ∧ Below W.heap.size W w' :=
  refDecode_any ⟨t.toArray⟩ W (by show t.toArray.size ≤ _; simpa using hs)
/-- where the reading stands: so many spans are laid -/
structure RD (w : World) (s : List UInt8) (h f m k p : Nat) (R : Option (List Sp × List UInt8)) (acc : List Sp) (v : Value) (wr : World) : Prop where
  le : k ≤ m
  small : m ≤ 8
  len : acc.length = k
  size : p ≤ s.length
  all : acc.all Sp.ok = true
  own : wr.ownsRow (w.heap.size + 2) 29 8 v acc.length (rowS acc)
  res : BaZ w.heap.size wr
  at' : BaAt (w.heap.size + 1) ⟨(h : Int), (f : Int), []⟩ v wr
  room : w.heap.size + 2 ≤ wr.heap.size
  bel : Below w.heap.size w wr
  dec : R = appR acc (spansR (m - k) (s.drop p))
theorem RD.later {w : World} {s : List UInt8} {h f m k p : Nat} {R : Option (List Sp × List UInt8)} {acc : List Sp} {v : Value} {wr w' : World} (E : RD w s h f m k p R acc v wr) (hb : Below wr.heap.size wr w') : RD w s h f m k p R acc v w' :=
  ⟨E.le, E.small, E.len, E.size, E.all, own_laterS E.own hb, blk_later E.res hb, E.at'.later hb, Nat.le_trans E.room hb.size, btP E.bel hb, E.dec⟩
theorem RD.blk {w : World} {s : List UInt8} {h f m k p : Nat} {R : Option (List Sp × List UInt8)} {acc : List Sp} {v : Value} {W4 W5 : World} {o : Obj} (E : RD w s h f m k p R acc v W4) (hgr : (W4.alloc o).grownBy W5 v.ownBlock) (b : Nat) (hb : b < w.heap.size + 2) : W5.heap[b]? = W4.heap[b]? := by
  have hr := E.room
  have hne : v.ownBlock ≠ some b := fun e => by have := (E.own.lt b e).1; omega
  rw [hgr.block b (by simp; omega) (fun e => hne e.symm)]
  exact heap_alloc_old W4 o (by omega)
theorem RD.step {w : World} {s : List UInt8} {h f m k p : Nat} {R : Option (List Sp × List UInt8)} {t : List UInt8} {j : Nat} {x : Sp} {acc : List Sp} {v v' : Value} {W4 W5 : World} {o : Obj} (E : RD w s h f m k p R acc v W4) (hk : k < m) (ht : getText (s.drop p) = some (t, j)) (hx : decodeSp t = some x) (hj : p + j ≤ s.length)
    (hgr : (W4.alloc o).grownBy W5 v.ownBlock) (own5 : W5.ownsRow (w.heap.size + 2) 29 8 v' (acc.length + 1) (rowS acc ++ spRow x)) : RD w s h f m (k + 1) (p + j) R (acc ++ [x]) v' (W5.setCell ⟨w.heap.size + 1, 2, none⟩ v') := by
  have hr := E.room
  have hs5 := hgr.size
  simp only [alloc_size] at hs5
  have hbel : Below w.heap.size w W5 := Below.grown (w := W4.alloc o) (E.bel.alloc (by omega) _) hgr (by simp; omega) (fun b hb => by have := (E.own.lt b hb).1; omega)
  have hgl : v'.ownBlock ≠ some (w.heap.size + 1) := fun e => by have := (own5.lt _ e).1; omega
  refine ⟨by omega, E.small, by simp [E.len], hj, by rw [List.all_append, E.all]; simpa using (decodeSp_some hx).1, ?_, ?_, ?_, ?_, ?_, ?_⟩
  · rw [rowS_snoc, List.length_append]
    exact ownsRow_setCell_other own5 (a := ⟨w.heap.size + 1, 2, none⟩) hgl _
  · have h1 := E.res
    unfold BaZ at h1 ⊢
    rw [Below.heap_setCell _ _ _ _ (by simp), E.blk hgr _ (by omega)]
    exact h1
  · have h1 := E.at'
    unfold BaAt at h1 ⊢
    rw [← E.blk hgr _ (by omega)] at h1
    exact (heap_setCell_same W5 (w.heap.size + 1) 2 _ _ _ h1).trans rfl
  · have : (W5.setCell ⟨w.heap.size + 1, 2, none⟩ v').heap.size = W5.heap.size := by simp
    omega
  · exact hbel.setCell (p := ⟨w.heap.size + 1, 2, none⟩) (by simp) _
  · obtain ⟨q, hq⟩ : ∃ q, m - k = q + 1 := ⟨m - k - 1, by omega⟩
    rw [E.dec, hq, appR_step ht hx, show m - (k + 1) = q by omega, List.drop_drop]
theorem RD.fin {w : World} {s : List UInt8} {h f m p : Nat} {R : Option (List Sp × List UInt8)} {acc : List Sp} {v : Value} {W : World} (E : RD w s h f m m p R acc v W) : R = some (acc, s.drop p) := by
  rw [E.dec, Nat.sub_self, spansR]
  simp [appR]
set_option maxHeartbeats 16000000 in
theorem refDecodeBatch_any (s : List UInt8) (w : World) (hs : s.length ≤ 1000000000) : Calls Try.prog 17 #[.string ⟨s.toArray⟩] w (DecBaEx s w) := by
  have ZS := Lib.hid (RZ.start w)
  have HS := Lib.hid hs
  have hbeh : (∃ l, s = 66 :: l) ∨ ((s = [] ∨ ∃ c l, s = c :: l ∧ c ≠ 66) ∧ decBa s = none) := by
    cases s with
    | nil => exact .inr ⟨.inl rfl, rfl⟩
    | cons c l =>
      by_cases e : c = 66
      · exact .inl ⟨l, by rw [e]⟩
      · exact .inr ⟨.inr ⟨c, l, rfl, e⟩, by unfold decBa; simp only [behind, if_neg e]⟩
  rcases hbeh with ⟨l, rfl⟩ | ⟨(rfl | ⟨c, l, rfl, hc⟩), hdn⟩
  rotate_left
  · have z := ZS.out
    obtain ⟨⟨⟨g0, g1, g2⟩, f0, f1, f2⟩, ⟨k0, k1, k2⟩, ⟨p0, p1, p2⟩⟩ := z.facts
    simp at k0 k1
    have Z := Lib.hid z
    clear z
    go_enter Try.func17, Try.ntmps17
    go_wp2_with fail
    exact bodyPost_ret (v := .tuple #[baZero, .int .i64 30]) (by simp [results, baZero, Try.results17, go_sem, *]) rfl ⟨Z.out.bel, .inl ⟨hdn, rfl⟩⟩
  · have hc2 : (c.toNat : Int) ≠ 66 := fun h => hc (UInt8.toNat_inj.1 (by show c.toNat = 66; omega))
    have hi : (((⟨(c :: l).toArray⟩ : ByteArray)[0]'(by simp [ByteArray.size])).toNat : Int) ≠ 66 := hc2
    have z := ZS.out
    obtain ⟨⟨⟨g0, g1, g2⟩, f0, f1, f2⟩, ⟨k0, k1, k2⟩, ⟨p0, p1, p2⟩⟩ := z.facts
    simp at k0 k1
    have Z := Lib.hid z
    clear z
    go_enter Try.func17, Try.ntmps17
    go_wp2_with fail
    exact bodyPost_ret (v := .tuple #[baZero, .int .i64 30]) (by simp [results, baZero, Try.results17, go_sem, *]) rfl ⟨Z.out.bel, .inl ⟨hdn, rfl⟩⟩
  · have hi : (((⟨(66 :: l).toArray⟩ : ByteArray)[0]'(by simp [ByteArray.size])).toNat : Int) = 66 := rfl
    have hst := gets_cons 66 l
    have c1 := fun W => refGetN_any (66 :: l) 1 W (by omega)
    rw [show (66 :: l).drop 1 = l from rfl] at c1
    cases e1 : get l with
    | none =>
      have hdn : decBa (66 :: l) = none := decBa_no (by rw [hst, stepR_none e1])
      rw [e1] at c1
      unfold getV at c1
      have C1 := Lib.hid c1
      clear c1 e1 hst
      have z := ZS.out
      obtain ⟨⟨⟨g0, g1, g2⟩, f0, f1, f2⟩, ⟨k0, k1, k2⟩, ⟨p0, p1, p2⟩⟩ := z.facts
      simp at k0 k1
      have Z := Lib.hid z
      clear z
      go_enter Try.func17, Try.ntmps17
      go_wp2_with fail
      refine (C1.out _).mono ?_
      rintro e w1 ⟨rfl, b1⟩
      have z := Z.out.later b1
      clear Z g0 g1 g2 k0 k1 k2 f0 f1 f2 p0 p1 p2 b1
      obtain ⟨⟨⟨g0, g1, g2⟩, f0, f1, f2⟩, ⟨k0, k1, k2⟩, ⟨p0, p1, p2⟩⟩ := z.facts
      simp at k0 k1
      have Z := Lib.hid z
      clear z
      go_wp2_with fail
      have Z2 := Lib.hid (Z.out.set 0 rfl (by decide) 0)
      exact bodyPost_ret (v := .tuple #[baZero, .int .i64 30]) (by simp [results, baZero, Try.results17, go_sem, *]) rfl ⟨(((Z2.out.bel).setCell (p := ⟨w.heap.size, 0, none⟩) (Nat.le_refl _) _).setCell (p := ⟨w.heap.size, 1, none⟩) (Nat.le_refl _) _).setCell (p := ⟨w.heap.size, 2, none⟩) (Nat.le_refl _) _, .inl ⟨hdn, rfl⟩⟩
    | some q1 =>
      obtain ⟨h, j1⟩ := q1
      obtain ⟨_, _, gk1, gn1, _⟩ := get_some e1
      have hst1 : getsR 66 (66 :: l) = stepR 2 [h] (l.drop j1) := by rw [hst, stepR_some e1]; rfl
      have c2 := fun W => refGetN_any (66 :: l) (1 + j1) W (by omega)
      rw [show (66 :: l).drop (1 + j1) = l.drop j1 by rw [Nat.add_comm]; rfl] at c2
      rw [e1] at c1
      unfold getV at c1
      have C1 := Lib.hid c1
      clear c1 e1 hst
      cases e2 : get (l.drop j1) with
      | none =>
        have hdn : decBa (66 :: l) = none := decBa_no (by rw [hst1, stepR_none e2])
        rw [e2] at c2
        unfold getV at c2
        have C2 := Lib.hid c2
        clear c2 e2 hst1
        have z := ZS.out
        obtain ⟨⟨⟨g0, g1, g2⟩, f0, f1, f2⟩, ⟨k0, k1, k2⟩, ⟨p0, p1, p2⟩⟩ := z.facts
        simp at k0 k1
        have Z := Lib.hid z
        clear z
        go_enter Try.func17, Try.ntmps17
        go_wp2_with fail
        refine (C1.out _).mono ?_
        rintro e w1 ⟨rfl, b1⟩
        have z := Z.out.later b1
        clear Z g0 g1 g2 k0 k1 k2 f0 f1 f2 p0 p1 p2 b1
        obtain ⟨⟨⟨g0, g1, g2⟩, f0, f1, f2⟩, ⟨k0, k1, k2⟩, ⟨p0, p1, p2⟩⟩ := z.facts
        simp at k0 k1
        have Z := Lib.hid z
        clear z
        go_wp2_with fail
        have z := Z.out.set 0 rfl (by decide) h
        clear Z g0 g1 g2 k0 k1 k2 f0 f1 f2 p0 p1 p2
        have Z := Lib.hid z
        clear z
        obtain ⟨⟨⟨g0, g1, g2⟩, f0, f1, f2⟩, ⟨k0, k1, k2⟩, ⟨p0, p1, p2⟩⟩ := Z.out.facts
        refine (C2.out _).mono ?_
        rintro e w2 ⟨rfl, b2⟩
        have z := Z.out.later b2
        clear Z g0 g1 g2 k0 k1 k2 f0 f1 f2 p0 p1 p2 b2
        obtain ⟨⟨⟨g0, g1, g2⟩, f0, f1, f2⟩, ⟨k0, k1, k2⟩, ⟨p0, p1, p2⟩⟩ := z.facts
        simp at k0 k1
        have Z := Lib.hid z
        clear z
        go_wp2_with fail
        have Z2 := Lib.hid (Z.out.set 1 rfl (by decide) 0)
        exact bodyPost_ret (v := .tuple #[baZero, .int .i64 30]) (by simp [results, baZero, Try.results17, go_sem, *]) rfl ⟨(((Z2.out.bel).setCell (p := ⟨w.heap.size, 0, none⟩) (Nat.le_refl _) _).setCell (p := ⟨w.heap.size, 1, none⟩) (Nat.le_refl _) _).setCell (p := ⟨w.heap.size, 2, none⟩) (Nat.le_refl _) _, .inl ⟨hdn, rfl⟩⟩
      | some q2 =>
        obtain ⟨f, j2⟩ := q2
        obtain ⟨_, _, gk2, gn2, _⟩ := get_some e2
        have hst2 : getsR 66 (66 :: l) = stepR 1 [h, f] ((l.drop j1).drop j2) := by rw [hst1, stepR_some e2]; rfl
        have c3 := fun W => refGetN_any (66 :: l) (1 + j1 + j2) W (by omega)
        rw [show (66 :: l).drop (1 + j1 + j2) = (l.drop j1).drop j2 by rw [List.drop_drop, show 1 + j1 + j2 = (j1 + j2) + 1 by omega]; rfl] at c3
        rw [e2] at c2
        unfold getV at c2
        rw [List.length_drop] at gk2
        have C2 := Lib.hid c2
        clear c2 e2 hst1
        cases e3 : get ((l.drop j1).drop j2) with
        | none =>
          have hdn : decBa (66 :: l) = none := decBa_no (by rw [hst2, stepR_none e3])
          rw [e3] at c3
          unfold getV at c3
          have C3 := Lib.hid c3
          clear c3 e3 hst2
          have z := ZS.out
          obtain ⟨⟨⟨g0, g1, g2⟩, f0, f1, f2⟩, ⟨k0, k1, k2⟩, ⟨p0, p1, p2⟩⟩ := z.facts
          simp at k0 k1
          have Z := Lib.hid z
          clear z
          go_enter Try.func17, Try.ntmps17
          go_wp2_with fail
          refine (C1.out _).mono ?_
          rintro e w1 ⟨rfl, b1⟩
          have z := Z.out.later b1
          clear Z g0 g1 g2 k0 k1 k2 f0 f1 f2 p0 p1 p2 b1
          obtain ⟨⟨⟨g0, g1, g2⟩, f0, f1, f2⟩, ⟨k0, k1, k2⟩, ⟨p0, p1, p2⟩⟩ := z.facts
          simp at k0 k1
          have Z := Lib.hid z
          clear z
          go_wp2_with fail
          have z := Z.out.set 0 rfl (by decide) h
          clear Z g0 g1 g2 k0 k1 k2 f0 f1 f2 p0 p1 p2
          have Z := Lib.hid z
          clear z
          obtain ⟨⟨⟨g0, g1, g2⟩, f0, f1, f2⟩, ⟨k0, k1, k2⟩, ⟨p0, p1, p2⟩⟩ := Z.out.facts
          refine (C2.out _).mono ?_
          rintro e w2 ⟨rfl, b2⟩
          have z := Z.out.later b2
          clear Z g0 g1 g2 k0 k1 k2 f0 f1 f2 p0 p1 p2 b2
          obtain ⟨⟨⟨g0, g1, g2⟩, f0, f1, f2⟩, ⟨k0, k1, k2⟩, ⟨p0, p1, p2⟩⟩ := z.facts
          simp at k0 k1
          have Z := Lib.hid z
          clear z
          go_wp2_with fail
          have z := Z.out.set 1 rfl (by decide) f
          clear Z g0 g1 g2 k0 k1 k2 f0 f1 f2 p0 p1 p2
          have Z := Lib.hid z
          clear z
          obtain ⟨⟨⟨g0, g1, g2⟩, f0, f1, f2⟩, ⟨k0, k1, k2⟩, ⟨p0, p1, p2⟩⟩ := Z.out.facts
          refine (C3.out _).mono ?_
          rintro e w3 ⟨rfl, b3⟩
          have z := Z.out.later b3
          clear Z g0 g1 g2 k0 k1 k2 f0 f1 f2 p0 p1 p2 b3
          obtain ⟨⟨⟨g0, g1, g2⟩, f0, f1, f2⟩, ⟨k0, k1, k2⟩, ⟨p0, p1, p2⟩⟩ := z.facts
          simp at k0 k1
          have Z := Lib.hid z
          clear z
          go_wp2_with fail
          exact bodyPost_ret (v := .tuple #[baZero, .int .i64 30]) (by simp [results, baZero, Try.results17, go_sem, *]) rfl ⟨(((Z.out.bel).setCell (p := ⟨w.heap.size, 0, none⟩) (Nat.le_refl _) _).setCell (p := ⟨w.heap.size, 1, none⟩) (Nat.le_refl _) _).setCell (p := ⟨w.heap.size, 2, none⟩) (Nat.le_refl _) _, .inl ⟨hdn, rfl⟩⟩
        | some q3 =>
          obtain ⟨m, j3⟩ := q3
          obtain ⟨_, _, gk3, gn3, _⟩ := get_some e3
          rw [List.length_drop, List.length_drop] at gk3
          have hst3 : getsR 66 (66 :: l) = some ([h, f, m], (66 :: l).drop (1 + j1 + j2 + j3)) := by
            rw [hst2, stepR_some e3, show 1 + j1 + j2 + j3 = (j1 + j2 + j3) + 1 by omega, List.drop_succ_cons]
            simp [stepR, nums, List.drop_drop, Nat.add_assoc]
          rw [e3] at c3
          unfold getV at c3
          have C3 := Lib.hid c3
          have H3 := Lib.hid hst3
          clear c3 e3 hst2 hst3
          by_cases hm : (8 : Int) < (m : Int)
          · have hdn : decBa (66 :: l) = none := decBa_big H3.out (by omega)
            have z := ZS.out
            obtain ⟨⟨⟨g0, g1, g2⟩, f0, f1, f2⟩, ⟨k0, k1, k2⟩, ⟨p0, p1, p2⟩⟩ := z.facts
            simp at k0 k1
            have Z := Lib.hid z
            clear z
            go_enter Try.func17, Try.ntmps17
            go_wp2_with fail
            refine (C1.out _).mono ?_
            rintro e w1 ⟨rfl, b1⟩
            have z := Z.out.later b1
            clear Z g0 g1 g2 k0 k1 k2 f0 f1 f2 p0 p1 p2 b1
            obtain ⟨⟨⟨g0, g1, g2⟩, f0, f1, f2⟩, ⟨k0, k1, k2⟩, ⟨p0, p1, p2⟩⟩ := z.facts
            simp at k0 k1
            have Z := Lib.hid z
            clear z
            go_wp2_with fail
            have z := Z.out.set 0 rfl (by decide) h
            clear Z g0 g1 g2 k0 k1 k2 f0 f1 f2 p0 p1 p2
            have Z := Lib.hid z
            clear z
            obtain ⟨⟨⟨g0, g1, g2⟩, f0, f1, f2⟩, ⟨k0, k1, k2⟩, ⟨p0, p1, p2⟩⟩ := Z.out.facts
            refine (C2.out _).mono ?_
            rintro e w2 ⟨rfl, b2⟩
            have z := Z.out.later b2
            clear Z g0 g1 g2 k0 k1 k2 f0 f1 f2 p0 p1 p2 b2
            obtain ⟨⟨⟨g0, g1, g2⟩, f0, f1, f2⟩, ⟨k0, k1, k2⟩, ⟨p0, p1, p2⟩⟩ := z.facts
            simp at k0 k1
            have Z := Lib.hid z
            clear z
            go_wp2_with fail
            have z := Z.out.set 1 rfl (by decide) f
            clear Z g0 g1 g2 k0 k1 k2 f0 f1 f2 p0 p1 p2
            have Z := Lib.hid z
            clear z
            obtain ⟨⟨⟨g0, g1, g2⟩, f0, f1, f2⟩, ⟨k0, k1, k2⟩, ⟨p0, p1, p2⟩⟩ := Z.out.facts
            refine (C3.out _).mono ?_
            rintro e w3 ⟨rfl, b3⟩
            have z := Z.out.later b3
            clear Z g0 g1 g2 k0 k1 k2 f0 f1 f2 p0 p1 p2 b3
            obtain ⟨⟨⟨g0, g1, g2⟩, f0, f1, f2⟩, ⟨k0, k1, k2⟩, ⟨p0, p1, p2⟩⟩ := z.facts
            simp at k0 k1
            have Z := Lib.hid z
            clear z
            go_wp2_with fail
            exact bodyPost_ret (v := .tuple #[baZero, .int .i64 30]) (by simp [results, baZero, Try.results17, go_sem, *]) rfl ⟨(((Z.out.bel).setCell (p := ⟨w.heap.size, 0, none⟩) (Nat.le_refl _) _).setCell (p := ⟨w.heap.size, 1, none⟩) (Nat.le_refl _) _).setCell (p := ⟨w.heap.size, 2, none⟩) (Nat.le_refl _) _, .inl ⟨hdn, rfl⟩⟩
          · have hmm : m ≤ 8 := by omega
            obtain ⟨R, hR⟩ : ∃ R, spansR m ((66 :: l).drop (1 + j1 + j2 + j3)) = R := ⟨_, rfl⟩
            have HR := Lib.hid hR
            have hp0 : 1 + j1 + j2 + j3 ≤ (66 :: l).length := by simp; omega
            clear hR
            have z := ZS.out
            obtain ⟨⟨⟨g0, g1, g2⟩, f0, f1, f2⟩, ⟨k0, k1, k2⟩, ⟨p0, p1, p2⟩⟩ := z.facts
            simp at k0 k1
            have Z := Lib.hid z
            clear z
            go_enter Try.func17, Try.ntmps17
            go_wp2_with fail
            refine (C1.out _).mono ?_
            rintro e w1 ⟨rfl, b1⟩
            have z := Z.out.later b1
            clear Z g0 g1 g2 k0 k1 k2 f0 f1 f2 p0 p1 p2 b1
            obtain ⟨⟨⟨g0, g1, g2⟩, f0, f1, f2⟩, ⟨k0, k1, k2⟩, ⟨p0, p1, p2⟩⟩ := z.facts
            simp at k0 k1
            have Z := Lib.hid z
            clear z
            go_wp2_with fail
            have z := Z.out.set 0 rfl (by decide) h
            clear Z g0 g1 g2 k0 k1 k2 f0 f1 f2 p0 p1 p2
            have Z := Lib.hid z
            clear z
            obtain ⟨⟨⟨g0, g1, g2⟩, f0, f1, f2⟩, ⟨k0, k1, k2⟩, ⟨p0, p1, p2⟩⟩ := Z.out.facts
            refine (C2.out _).mono ?_
            rintro e w2 ⟨rfl, b2⟩
            have z := Z.out.later b2
            clear Z g0 g1 g2 k0 k1 k2 f0 f1 f2 p0 p1 p2 b2
            obtain ⟨⟨⟨g0, g1, g2⟩, f0, f1, f2⟩, ⟨k0, k1, k2⟩, ⟨p0, p1, p2⟩⟩ := z.facts
            simp at k0 k1
            have Z := Lib.hid z
            clear z
            go_wp2_with fail
            have z := Z.out.set 1 rfl (by decide) f
            clear Z g0 g1 g2 k0 k1 k2 f0 f1 f2 p0 p1 p2
            have Z := Lib.hid z
            clear z
            obtain ⟨⟨⟨g0, g1, g2⟩, f0, f1, f2⟩, ⟨k0, k1, k2⟩, ⟨p0, p1, p2⟩⟩ := Z.out.facts
            refine (C3.out _).mono ?_
            rintro e w3 ⟨rfl, b3⟩
            have z := Z.out.later b3
            clear Z g0 g1 g2 k0 k1 k2 f0 f1 f2 p0 p1 p2 b3
            obtain ⟨⟨⟨g0, g1, g2⟩, f0, f1, f2⟩, ⟨k0, k1, k2⟩, ⟨p0, p1, p2⟩⟩ := z.facts
            simp at k0 k1
            have Z := Lib.hid z
            clear z
            go_wp2_with fail
            have E0 : RD w (66 :: l) h f m 0 (1 + j1 + j2 + j3) R [] (.slice none 0 0) w3 := by
              refine ⟨by omega, hmm, rfl, hp0, rfl, World.ownsRow_nil _ _ _ _, Z.out.res, Z.out.at', by have := (Array.getElem?_eq_some_iff.1 Z.out.at').1; omega, Z.out.bel, ?_⟩
              rw [Nat.sub_zero, HR.out]
              cases R <;> simp [appR]
            clear Z g0 g1 g2 k0 k1 k2 f0 f1 f2 p0 p1 p2 C1 C2 C3 ZS
            go_loopw [6, 8] (fun a i wr => ∃ (k p : Nat) (acc : List Sp) (v : Value), i = .int .i64 k ∧ a = .int .i64 p ∧ RD w (66 :: l) h f m k p R acc v wr) (fun _ i _ => m - (intOf i).toNat)
            case atStart => exact ⟨0, 1 + j1 + j2 + j3, [], _, rfl, by go_num, E0⟩
            case round =>
              clear E0
              obtain ⟨k, p, acc, v, rfl, rfl, E⟩ := hrel
              have hk := E.le
              have h9 := HS.out
              obtain ⟨⟨g0, g1, g2⟩, f0, f1, f2⟩ := E.res.facts
              have hroom := E.room
              clear hi
              generalize 66 :: l = s at *
              by_cases hlt : k < m
              · have hdec := E.dec
                obtain ⟨q, hq⟩ : ∃ q, m - k = q + 1 := ⟨m - k - 1, by omega⟩
                rw [hq] at hdec
                have hsr := E.size
                have c1 := fun W => refGetTextN_any s p W (by omega)
                have y2 := E.at'.cell.2.2
                cases ht : getText (s.drop p) with
                | none =>
                  have hdn : decBa s = none := decBa_no2 H3.out (by rw [HR.out, hdec, appR_no1 ht])
                  rw [ht] at c1
                  unfold getTextV at c1
                  have c2 := fun W => refDecodeL_any [] W (by simp)
                  rw [decode_nil] at c2
                  unfold decodeV spVal Sp.zero at c2
                  have C1 := Lib.hid c1
                  have C2 := Lib.hid c2
                  have EE := Lib.hid E
                  clear c1 c2 hdec E y2 g0 g1 g2 f0 f1 f2
                  go_wp2_with fail
                  refine (C1.out _).mono ?_
                  rintro e w4 ⟨rfl, b4⟩
                  have E4 := Lib.hid (EE.out.later b4)
                  clear EE b4
                  go_wp2_with fail
                  refine (C2.out _).mono ?_
                  rintro e w5 ⟨rfl, b5⟩
                  have E3 := E4.out.later b5
                  have hr3 := E3.room
                  clear b5 E4
                  obtain ⟨⟨g0, g1, g2⟩, f0, f1, f2⟩ := E3.res.facts
                  have hlt0 : w.heap.size < w5.heap.size := by omega
                  have B3 := Lib.hid (E3.bel)
                  clear E3
                  go_wp2_with fail
                  exact bodyPost_ret (v := .tuple #[baZero, .int .i64 30]) (by simp [results, baZero, Try.results17, go_sem, *]) rfl ⟨((((B3.out).setCell (p := ⟨w.heap.size, 0, none⟩) (Nat.le_refl _) _).setCell (p := ⟨w.heap.size, 1, none⟩) (Nat.le_refl _) _).setCell (p := ⟨w.heap.size, 2, none⟩) (Nat.le_refl _) _).alloc (by simp; omega) _, .inl ⟨hdn, rfl⟩⟩
                | some q1 =>
                  obtain ⟨t, j⟩ := q1
                  obtain ⟨gk, gl, _⟩ := getText_some ht
                  rw [List.length_drop] at gk
                  rw [ht] at c1
                  unfold getTextV at c1
                  have C1 := Lib.hid c1
                  have c2 := fun W => refDecodeL_any t W (by omega)
                  cases hx : decodeSp t with
                  | none =>
                    have hdn : decBa s = none := decBa_no2 H3.out (by rw [HR.out, hdec, appR_no2 ht hx])
                    rw [hx] at c2
                    unfold decodeV spVal Sp.zero at c2
                    have C2 := Lib.hid c2
                    have EE := Lib.hid E
                    clear c1 c2 hdec E y2 g0 g1 g2 f0 f1 f2
                    go_wp2_with fail
                    refine (C1.out _).mono ?_
                    rintro e w4 ⟨rfl, b4⟩
                    have E4 := Lib.hid (EE.out.later b4)
                    clear EE b4
                    go_wp2_with fail
                    refine (C2.out _).mono ?_
                    rintro e w5 ⟨rfl, b5⟩
                    have E3 := E4.out.later b5
                    have hr3 := E3.room
                    clear b5 E4
                    obtain ⟨⟨g0, g1, g2⟩, f0, f1, f2⟩ := E3.res.facts
                    have hlt0 : w.heap.size < w5.heap.size := by omega
                    have B3 := Lib.hid (E3.bel)
                    clear E3
                    go_wp2_with fail
                    exact bodyPost_ret (v := .tuple #[baZero, .int .i64 30]) (by simp [results, baZero, Try.results17, go_sem, *]) rfl ⟨((((B3.out).setCell (p := ⟨w.heap.size, 0, none⟩) (Nat.le_refl _) _).setCell (p := ⟨w.heap.size, 1, none⟩) (Nat.le_refl _) _).setCell (p := ⟨w.heap.size, 2, none⟩) (Nat.le_refl _) _).alloc (by simp; omega) _, .inl ⟨hdn, rfl⟩⟩
                  | some x =>
                    rw [hx] at c2
                    unfold decodeV spVal at c2
                    have C2 := Lib.hid c2
                    have EE := Lib.hid E
                    have HT := Lib.hid ht
                    have HX := Lib.hid hx
                    clear c1 c2 hdec E y2 g0 g1 g2 f0 f1 f2 ht hx
                    go_wp2_with fail
                    refine (C1.out _).mono ?_
                    rintro e w4 ⟨rfl, b4⟩
                    have E4 := Lib.hid (EE.out.later b4)
                    clear EE b4
                    go_wp2_with fail
                    refine (C2.out _).mono ?_
                    rintro e w5 ⟨rfl, b5⟩
                    have E5 := E4.out.later b5
                    have b6 := (Below.refl w5.heap.size w5).alloc (Nat.le_refl _) (.cells #[.int .i64 x.tr, .int .i64 x.id, .int .i64 x.pa, .string ⟨x.sv.toArray⟩, .string ⟨x.ho.toArray⟩, .int .i64 x.st, .int .i64 x.du, .string ⟨x.no.toArray⟩] 29)
                    have hr5 := E5.room
                    have E6 := E5.later b6
                    have q6 := SpAt.boxed x w5
                    have Q6 := Lib.hid q6
                    have hlt0 : w5.heap.size ≠ w.heap.size + 1 := by omega
                    have z2 := E6.at'.cell.2.2
                    have z2f := frozen_of_row _ (w.heap.size + 1) 2 _ _ E6.at'
                    have hs6 : (w5.alloc (.cells #[.int .i64 x.tr, .int .i64 x.id, .int .i64 x.pa, .string ⟨x.sv.toArray⟩, .string ⟨x.ho.toArray⟩, .int .i64 x.st, .int .i64 x.du, .string ⟨x.no.toArray⟩] 29)).heap.size = w5.heap.size + 1 := by simp
                    have HS6 := Lib.hid hs6
                    have hacc := E6.len
                    have hmaxl : acc.length + 1 ≤ maxLen := by unfold maxLen; omega
                    have hbd : (acc.length + 1) * 88 ≤ 140737488355328 := by omega
                    have DK := Lib.hid hlt
                    have EE := Lib.hid E6
                    clear E5 E6 b5 b6 q6 hs6 C1 C2 E4 hacc
                    obtain ⟨i0, hi, hz0, hz1, hz2⟩ := info_parts info_sp
                    go_upto_region 20 with fail
                    generalize hw6 : w5.alloc _ = w6 at *
                    obtain ⟨x0, x1, x2, x3, x4, x5, x6, x7⟩ := Q6.out.cell
                    have hlt1 : w5.heap.size < w6.heap.size := by have := HS6.out; omega
                    have hlt2 : w.heap.size + 1 < w6.heap.size := by have := HS6.out; omega
                    clear hw6
                    go_wp2_with (at_builtin; refine wpList_append_own _ rfl _ _ 22 rfl (w.heap.size + 2) 29 i0 (.agg #[.int .i64 0, .int .i64 0, .int .i64 0, .string ⟨#[]⟩, .string ⟨#[]⟩, .int .i64 0, .int .i64 0, .string ⟨#[]⟩]) 8 88 Try.underlying22 hi hz0 hz1 hz2 rfl (by decide) v acc.length (rowS acc) rfl (EE.out.own.alloc _) ⟨w6.heap.size, 0, none⟩ 1 1 (spRow x) rfl rfl (World.news_of_block (heap_alloc_new w6 _)) (spRow_one x) hmaxl hbd (by simp; omega) ?_)
                    intro v' w7 own7 gr7 _
                    have q7 : BaAt (w.heap.size + 1) ⟨(h : Int), (f : Int), []⟩ v w7 := (EE.out.blk gr7 _ (by omega)).trans EE.out.at'
                    have zz := q7.cell.2.2
                    have zf := q7.frees.2.2
                    have E8 := Lib.hid (EE.out.step DK.out HT.out HX.out (by omega) gr7 own7)
                    have hform : ∃ A cap, v' = .slice A (acc.length + 1) cap := by
                      rcases own7.2 with ⟨rfl, h0⟩ | ⟨g, cap, cur, rfl, _⟩
                      · omega
                      · exact ⟨_, cap, rfl⟩
                    obtain ⟨A, cap, rfl⟩ := hform
                    clear own7 gr7 q7
                    go_wp2_with fail
                    go_roundw
                    case rel => exact ⟨k + 1, p + j, acc ++ [x], _, by go_num, by go_num, E8.out⟩
                    case measure => simp [intOf]; omega
              · obtain rfl : k = m := by omega
                have hfin := decBa_ref H3.out (HR.out.trans E.fin)
                obtain ⟨y0, y1, y2⟩ := E.at'.cell
                obtain ⟨A, cap, rfl, hsl2⟩ := slS_own E.own
                have hsls : SlS (.slice A acc.length cap) acc wr := ⟨A, cap, rfl, hsl2⟩
                have hacc := E.len
                have he := fun (W : World) (hb : Below wr.heap.size wr W) => refEncodeBatch_any ⟨(h : Int), (f : Int), acc⟩ (.slice A acc.length cap) W (hsls.later hb) (all_fits E.all) (by show acc.length ≤ _; omega)
                unfold encBaV baVal at he
                simp only at he
                rw [hacc] at he y2
                have hall := E.all
                cases hok : (⟨(h : Int), (f : Int), acc⟩ : Ba).ok with
                | false =>
                  have hdn : decBa s = none := by rw [hfin, hok]; simp
                  rw [hok] at he
                  simp only [Bool.false_eq_true, if_false] at he
                  have HE := Lib.hid he
                  have EE := Lib.hid E
                  clear he hfin E hsls hsl2
                  go_wp2_with fail
                  refine (HE.out _ (Below.refl _ _)).mono ?_
                  rintro e w4 ⟨rfl, b4⟩
                  have E4 := EE.out.later b4
                  have Z4 := Lib.hid E4
                  clear g0 g1 g2 f0 f1 f2 y0 y1 y2 b4
                  obtain ⟨⟨g0, g1, g2⟩, f0, f1, f2⟩ := E4.res.facts
                  obtain ⟨y0, y1, y2⟩ := E4.at'.cell
                  rw [hacc] at y2
                  clear E4 EE
                  go_wp2_with fail
                  exact bodyPost_ret (v := .tuple #[baZero, .int .i64 30]) (by simp [results, baZero, Try.results17, go_sem, *]) rfl ⟨(((Z4.out.bel).setCell (p := ⟨w.heap.size, 0, none⟩) (Nat.le_refl _) _).setCell (p := ⟨w.heap.size, 1, none⟩) (Nat.le_refl _) _).setCell (p := ⟨w.heap.size, 2, none⟩) (Nat.le_refl _) _, .inl ⟨hdn, rfl⟩⟩
                | true =>
                  rw [hok] at he
                  simp only [if_true] at he
                  by_cases hb : (⟨(h : Int), (f : Int), acc⟩ : Ba).bytes = s
                  · have hdn : decBa s = some ⟨(h : Int), (f : Int), acc⟩ := by rw [hfin, hok, hb]; simp
                    rw [hb] at he
                    have HE := Lib.hid he
                    have EE := Lib.hid E
                    clear he hfin E hsls hsl2
                    go_wp2_with fail
                    refine (HE.out _ (Below.refl _ _)).mono ?_
                    rintro e w4 ⟨rfl, b4⟩
                    have E4 := EE.out.later b4
                    have Z4 := Lib.hid E4
                    clear g0 g1 g2 f0 f1 f2 y0 y1 y2 b4
                    obtain ⟨⟨g0, g1, g2⟩, f0, f1, f2⟩ := E4.res.facts
                    obtain ⟨y0, y1, y2⟩ := E4.at'.cell
                    rw [hacc] at y2
                    clear E4 EE
                    go_wp2_with fail
                    have hne : ∀ i, i = w.heap.size → (Value.slice A acc.length cap).ownBlock ≠ some i := fun i hi e => by have := (Z4.out.own.lt i e).1; omega
                    exact bodyPost_ret (v := .tuple #[baVal ⟨(h : Int), (f : Int), acc⟩ (.slice A acc.length cap), .int .i64 0]) (by simp [results, baVal, Try.results17, go_sem, *]) rfl
                      ⟨((Z4.out.bel.setCell (p := ⟨w.heap.size, 0, none⟩) (Nat.le_refl _) _).setCell (p := ⟨w.heap.size, 1, none⟩) (Nat.le_refl _) _).setCell (p := ⟨w.heap.size, 2, none⟩) (Nat.le_refl _) _, .inr ⟨_, _, hdn, rfl,
                        ownsRow_setCell_other (ownsRow_setCell_other (ownsRow_setCell_other (Z4.out.own.mono (by omega)) (a := ⟨w.heap.size, 0, none⟩) (hne _ rfl) _) (a := ⟨w.heap.size, 1, none⟩) (hne _ rfl) _) (a := ⟨w.heap.size, 2, none⟩) (hne _ rfl) _⟩⟩
                  · have hdn : decBa s = none := by rw [hfin, hok]; simp [hb]
                    have hne2 : ((⟨(h : Int), (f : Int), acc⟩ : Ba).bytes == s) = false := beq_eq_false_iff_ne.2 hb
                    generalize (⟨(h : Int), (f : Int), acc⟩ : Ba).bytes = BB at *
                    have HE := Lib.hid he
                    have EE := Lib.hid E
                    clear he hfin E hsls hsl2 hb
                    go_wp2_with fail
                    refine (HE.out _ (Below.refl _ _)).mono ?_
                    rintro e w4 ⟨rfl, b4⟩
                    have E4 := EE.out.later b4
                    have Z4 := Lib.hid E4
                    clear g0 g1 g2 f0 f1 f2 y0 y1 y2 b4
                    obtain ⟨⟨g0, g1, g2⟩, f0, f1, f2⟩ := E4.res.facts
                    obtain ⟨y0, y1, y2⟩ := E4.at'.cell
                    rw [hacc] at y2
                    clear E4 EE
                    go_wp2_with fail
                    exact bodyPost_ret (v := .tuple #[baZero, .int .i64 30]) (by simp [results, baZero, Try.results17, go_sem, *]) rfl ⟨(((Z4.out.bel).setCell (p := ⟨w.heap.size, 0, none⟩) (Nat.le_refl _) _).setCell (p := ⟨w.heap.size, 1, none⟩) (Nat.le_refl _) _).setCell (p := ⟨w.heap.size, 2, none⟩) (Nat.le_refl _) _, .inl ⟨hdn, rfl⟩⟩
end Go.Proofs.Ytheeekmhmbkncaa
