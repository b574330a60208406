/- What is asked of a memory: Len, Range, Get. -/
import Derived.Test.YtpcapifjbhaeeaaMemC
import Derived.Test.YtpcapifjbhaeeaaAppE
namespace Go.Proofs.Ytpcapifjbhaeeaa
set_option maxRecDepth 16000
open Go.RowKit Spoor
set_option linter.unusedVariables false

theorem info_one {P : Program} {e : TypeId} {z : Value} {s b : Nat} (h : (P.info? e).map (fun i => (i.zero, i.size, i.bytes)) = some (some z, s, b)) : ∃ i, P.info? e = some i ∧ i.zero = some z ∧ i.size = s ∧ i.bytes = b := by
  cases hi : P.info? e with
  | none => rw [hi] at h; simp at h
  | some i =>
    rw [hi] at h
    simp only [Option.map_some, Option.some.injEq, Prod.mk.injEq] at h
    exact ⟨i, rfl, h.1, h.2.1, h.2.2⟩
/-- what a slice of a row has -/
theorem row_part {b o lo hi : Nat} {l : List Ce} {w : World} (h : RowAt b o l w) (h1 : lo ≤ hi) (h2 : hi ≤ l.length) : ∀ j u, (rowOf ((l.drop lo).take (hi - lo)))[j]? = some u → w.cell? ((⟨b, o + lo * 3, none⟩ : Addr).add j) = some u := by
  intro j u hj
  have hlt := (List.getElem?_eq_some_iff.1 hj).1
  rw [rowOf_length, List.length_take, List.length_drop] at hlt
  have hi3 : j / 3 < hi - lo := by omega
  have hd : j / 3 * 3 + j % 3 = j := by omega
  have hr := rowOf_at ((l.drop lo).take (hi - lo)) (j / 3) (j % 3) (by rw [List.length_take, List.length_drop]; omega) (by omega)
  rw [hd, hj] at hr
  have hg : ((l.drop lo).take (hi - lo)).getD (j / 3) Ce.zero = l.getD (lo + j / 3) Ce.zero := by
    simp [List.getD, List.getElem?_take, hi3, List.getElem?_drop]
  rw [hg] at hr
  have := h.2 (lo + j / 3) (by omega) (j % 3) u hr.symm
  rw [show o + (lo + j / 3) * 3 + j % 3 = o + lo * 3 + j by omega] at this
  rw [Addr.add_lit]
  exact this
theorem own_lat {w w' : World} {base n : Nat} {v : Value} {xs : List Value} {e : TypeId} {sz : Nat} (h : w.ownsRow base e sz v n xs) (hb : Below w.heap.size w w') : w'.ownsRow base e sz v n xs := by
  refine ⟨h.1, ?_⟩
  rcases h.2 with ⟨h1, h2⟩ | ⟨g1, cap1, cur1, h1, h2, hg1, h3⟩
  · exact .inl ⟨h1, h2⟩
  · exact .inr ⟨g1, cap1, cur1, h1, h2, (hb.block g1 (Array.getElem?_eq_some_iff.1 hg1).1).trans hg1, h3⟩
theorem own_slice {w : World} {base sz n : Nat} {e : TypeId} {v : Value} {xs : List Value} (h : w.ownsRow base e sz v n xs) : ∃ A cap, v = .slice A n cap := by
  rcases h.2 with ⟨rfl, rfl⟩ | ⟨g, cap, cur, rfl, _⟩
  · exact ⟨none, 0, rfl⟩
  · exact ⟨_, cap, rfl⟩
/-- a memory's two cells -/
theorem Mem.cells {p : Nat} {v : Value} {w : World} (h : w.heap[p]? = some (.cells #[.bool true, v] 58 (0, 0))) : w.cell? ⟨p, 0, none⟩ = some (.bool true) ∧ w.cell? ⟨p, 1, none⟩ = some v ∧ w.frozen? ⟨p, 1, none⟩ = false ∧ p < w.heap.size := by
  refine ⟨by simp [World.cell?, h], by simp [World.cell?, h], by simp [World.frozen?, h], (Array.getElem?_eq_some_iff.1 h).1⟩
theorem lenM_any (p : Nat) (L : List Ce) (fs : List Nat) (w : World) (M : Mem p L fs w) (hbig : L.length ≤ 100000) :
    Calls Try.prog 12 #[.pointer (some ⟨p, 0, none⟩)] w fun e w' => e = .returned (.int .i64 L.length) ∧ Below w.heap.size w w' := by
  obtain ⟨gs, ⟨v, fs', -, hp, hP⟩, ok, hL⟩ := M
  obtain ⟨c0, c1, -, hlt⟩ := Mem.cells hp
  have hpg := hP.pgs
  have hmany := flat_many ok.some
  obtain ⟨A, cap, rfl, g1, g2, -⟩ := id hpg
  unfold maxLen at g2
  have HL : ∀ k, (gs.take k).flatten.length ≤ L.length := fun k => by
    rw [← hL]
    conv => rhs; rw [← List.take_append_drop k gs, List.flatten_append, List.length_append]
    omega
  have HL := Lib.hid HL
  have HE := Lib.hid hL
  rw [hL] at hmany
  have HP := Lib.hid hpg
  have hs := ok.some
  have HS := Lib.hid hs
  obtain ⟨n, hn⟩ : ∃ n, gs.length = n := ⟨_, rfl⟩
  obtain ⟨N, hN⟩ : ∃ N, L.length = N := ⟨_, rfl⟩
  have HN := Lib.hid hn
  have HNN := Lib.hid hN
  rw [hn] at g1 hmany HP c1
  rw [hN] at hbig hmany HL
  clear hp hP hpg ok hL hs hn
  go_enter Try.func12, Try.ntmps12
  go_wp2_with fail
  go_loopw [3, 13] (fun s i wr => ∃ k : Nat, i = .int .i64 k ∧ k ≤ n ∧ s = .int .i64 ((gs.take k).flatten.length : Nat) ∧ Below w.heap.size w wr) (fun _ i _ => n - (intOf i).toNat)
  case atStart => exact ⟨0, rfl, by omega, by simp, Below.refl _ _⟩
  case round =>
    obtain ⟨k, rfl, hk, rfl, hb⟩ := hrel
    by_cases hlt2 : k < n
    · obtain ⟨g, rfl, hg, hcs⟩ := (HP.out.later hb).row (by rw [HN.out]; omega)
      obtain ⟨s, hs1, hs2⟩ := hcs k (by rw [HN.out]; exact hlt2)
      obtain ⟨sA, sc, rfl, -, -, -⟩ := id hs2
      have hnext : (gs.take (k + 1)).flatten.length = (gs.take k).flatten.length + (gs.getD k []).length := by
        rw [List.take_succ_eq_append_getElem (by rw [HN.out]; exact hlt2), List.flatten_append, List.length_append]
        simp [List.getD, show k < gs.length by rw [HN.out]; exact hlt2]
      have hl1 := HL.out (k + 1)
      rw [hnext] at hl1
      have HX := Lib.hid hnext
      generalize (gs.getD k []).length = m at *
      generalize (gs.take k).flatten.length = a at *
      clear hcs hs2 hnext
      go_wp2_with fail
      go_roundw
      case rel => exact ⟨k + 1, by go_num, by omega, by rw [HX.out]; go_num, hb⟩
      case measure => simp [intOf]; omega
    · obtain rfl : k = n := by omega
      have hfin : (gs.take k).flatten.length = N := by rw [List.take_of_length_le (by rw [HN.out]; exact Nat.le_refl _), HE.out, HNN.out]
      rw [hfin]
      go_wp2_with fail
      go_ret
      exact ⟨ret1 (by rw [HNN.out]; rfl), hb⟩
set_option maxHeartbeats 4000000 in
theorem rangeM_any (p : Nat) (L : List Ce) (fs : List Nat) (from' to : List UInt8) (w : World) (M : Mem p L fs w) (hbig : L.length ≤ 100000) :
    Calls Try.prog 15 #[.pointer (some ⟨p, 0, none⟩), .string ⟨from'.toArray⟩, .string ⟨to.toArray⟩] w fun e w' => Below w.heap.size w w' ∧ ∃ v, e = .returned v ∧ w'.ownsRow w.heap.size 33 3 v (rangeC L from' to).length (rowOf (rangeC L from' to)) := by
  obtain ⟨gs, ⟨v, fs', -, hp, hP⟩, ok, hL⟩ := M
  obtain ⟨c0, c1, -, hlt⟩ := Mem.cells hp
  have hpg := hP.pgs
  have hmany := flat_many ok.some
  obtain ⟨A, cap, rfl, g1, g2, -⟩ := id hpg
  unfold maxLen at g2
  rw [hL] at hmany
  have hrise := ok.rise
  rw [hL] at hrise
  have hflat : ∀ k, k ≤ gs.length → (rangeC (gs.take k).flatten from' to).length ≤ 100000 := fun k hk => by
    have h1 := List.length_filter_le (within from' to) (gs.take k).flatten
    have h2 : (gs.take k).flatten.length ≤ L.length := by
      rw [← hL]
      conv => rhs; rw [← List.take_append_drop k gs, List.flatten_append, List.length_append]
      omega
    unfold rangeC
    omega
  have hstep : ∀ k, k < gs.length → rangeC (gs.take (k + 1)).flatten from' to = rangeC (gs.take k).flatten from' to ++ rangeC (gs.getD k []) from' to := fun k hk => by
    rw [List.take_succ_eq_append_getElem hk, List.flatten_append, rangeC_app]
    simp [List.getD, hk]
  have hpage : ∀ k, k < gs.length → Rise (gs.getD k []) ∧ (gs.getD k []).length ≤ 16 ∧ 0 < (gs.getD k []).length := fun k hk => by
    have hr := ok.rise
    rw [flat_split hk] at hr
    exact ⟨(rise_app.1 (rise_app.1 hr).2.1).1, (ok.some _ (getD_page hk)).2, (ok.some _ (getD_page hk)).1⟩
  have HF := Lib.hid hflat
  have HT := Lib.hid hstep
  have HG := Lib.hid hpage
  have HE := Lib.hid hL
  have HP := Lib.hid hpg
  obtain ⟨n, hn⟩ : ∃ n, gs.length = n := ⟨_, rfl⟩
  have HN := Lib.hid hn
  rw [hn] at g1 hmany HP c1
  clear hp hP hpg ok hL hn hflat hstep hpage hrise
  obtain ⟨j0, gi, gz0, gz1, gz2⟩ := info_one info_ce
  go_enter Try.func15, Try.ntmps15
  go_wp2_with fail
  go_loopw [7, 19] (fun o i wr => ∃ (k m : Nat) (xs : List Value), i = .int .i64 k ∧ k ≤ n ∧ Hid (m = (rangeC (gs.take k).flatten from' to).length) ∧ Hid (xs = rowOf (rangeC (gs.take k).flatten from' to)) ∧ wr.ownsRow w.heap.size 33 3 o m xs ∧ Below w.heap.size w wr) (fun _ i _ => n - (intOf i).toNat)
  case atStart => exact ⟨0, 0, [], rfl, by omega, Lib.hid (by simp [rangeC]), Lib.hid (by simp [rangeC, rowOf]), World.ownsRow_nil _ _ _ _, Below.refl _ _⟩
  case round =>
    obtain ⟨k, m, xs, rfl, hk, HM, HX, hown, hb⟩ := hrel
    by_cases hlt2 : k < n
    · have hkl : k < gs.length := by rw [HN.out]; exact hlt2
      obtain ⟨g, rfl, hg, hcs⟩ := (HP.out.later hb).row (by omega)
      obtain ⟨s, hs1, hs2⟩ := hcs k hkl
      have hnext := HT.out k hkl
      obtain ⟨q1, q2, q3⟩ := HG.out k hkl
      have hf2 := HF.out (k + 1) hkl
      obtain ⟨sA, sc, rfl, s1, s2, -⟩ := id hs2
      unfold maxLen at s2
      obtain ⟨b, oo, rfl, hrow⟩ := hs2.row q3
      have cc := stretch_any _ _ from' to wr hs2 q1 (by omega)
      obtain ⟨f1, f2, f3⟩ := endPos_facts from' to q1
      rw [f3] at hnext
      rw [hnext, List.length_append, List.length_take, List.length_drop, ← HM.out] at hf2
      have HNX := Lib.hid hnext
      have hsrc := row_part hrow f1 f2
      have hlen : (rowOf (((gs.getD k []).drop (keyPos (gs.getD k []) from')).take (endPos (gs.getD k []) from' to - keyPos (gs.getD k []) from'))).length = (endPos (gs.getD k []) from' to - keyPos (gs.getD k []) from') * 3 := by
        rw [rowOf_length, List.length_take, List.length_drop]; omega
      have hone := rowOf_one (((gs.getD k []).drop (keyPos (gs.getD k []) from')).take (endPos (gs.getD k []) from' to - keyPos (gs.getD k []) from'))
      have hnl : ((gs.take (k + 1)).flatten.length) = ((gs.take (k + 1)).flatten.length) := rfl
      have HML : Hid (m + (endPos (gs.getD k []) from' to - keyPos (gs.getD k []) from') = (rangeC (gs.take (k + 1)).flatten from' to).length) := Lib.hid (by
        rw [hnext, List.length_append, List.length_take, List.length_drop, ← HM.out]; omega)
      have HXL : Hid (xs ++ rowOf (((gs.getD k []).drop (keyPos (gs.getD k []) from')).take (endPos (gs.getD k []) from' to - keyPos (gs.getD k []) from')) = rowOf (rangeC (gs.take (k + 1)).flatten from' to)) := Lib.hid (by
        rw [hnext, HX.out]; simp [rowOf])
      generalize rowOf (((gs.getD k []).drop (keyPos (gs.getD k []) from')).take (endPos (gs.getD k []) from' to - keyPos (gs.getD k []) from')) = news at *
      generalize keyPos (gs.getD k []) from' = a at *
      generalize endPos (gs.getD k []) from' to = z at *
      generalize (gs.getD k []).length = N at *
      have CC := Lib.hid cc
      have hmz : m + (z - a) ≤ 100000 := by omega
      clear cc hs2 hrow hcs hnext f3 hnl hf2 HNX q1 hkl
      have HSRC := Lib.hid hsrc
      have HLEN := Lib.hid hlen
      have HONE := Lib.hid hone
      clear hsrc hlen hone HM HX
      by_cases hac : a < sc
      · go_wp2_with fail
        refine CC.out.mono ?_
        rintro e w1 ⟨rfl, hb1⟩
        have B := btP hb hb1
        have own1 := own_lat hown hb1
        have S1 : Hid (0 < z - a → ∃ ad, (some ⟨b, oo + a * 3, none⟩ : Option Addr) = some ad ∧ ∀ j u, news[j]? = some u → w1.cell? (ad.add j) = some u) := Lib.hid (fun _ => ⟨_, rfl, fun j u hj => by
          have := HSRC.out j u hj
          rw [Addr.add_lit] at this ⊢
          rw [hb1.cell (World.block_lt_of_cell? _ _ this)]
          exact this⟩)
        have hB := B.size
        clear CC hown hb1
        go_wp2_with (at_builtin; refine wpList_append_every2 _ rfl _ _ 22 60 rfl w.heap.size 33 33 j0 (.agg #[.string ⟨#[]⟩, .int .i64 0, .string ⟨#[]⟩]) 3 40 Try.underlying22 Try.underlying60 gi gz0 gz1 gz2 rfl (by decide) _ m xs rfl own1 _ (z - a) _ news rfl HLEN.out S1.out HONE.out (by unfold maxLen; omega) (by omega) hB ?_)
        intro v' w2 own2 gr2
        obtain ⟨vA, vc, rfl⟩ := own_slice own2
        have B2 := B.grown gr2 hB (fun j hj => (own1.lt j hj).1)
        clear own1 gr2 S1
        go_wp2_with fail
        go_roundw
        case rel => exact ⟨k + 1, m + (z - a), _, by go_num, by omega, HML, HXL, own2, B2⟩
        case measure => simp [intOf]; omega
      · obtain rfl : a = sc := by omega
        obtain rfl : z = a := by omega
        go_wp2_with fail
        refine CC.out.mono ?_
        rintro e w1 ⟨rfl, hb1⟩
        have B := btP hb hb1
        have own1 := own_lat hown hb1
        have hB := B.size
        have hz0 : news = [] := by have := HLEN.out; rw [Nat.sub_self] at this; exact List.eq_nil_of_length_eq_zero (by omega)
        subst hz0
        clear CC hown hb1 HSRC
        go_wp2_with (at_builtin; refine wpList_append_every2 _ rfl _ _ 22 60 rfl w.heap.size 33 33 j0 (.agg #[.string ⟨#[]⟩, .int .i64 0, .string ⟨#[]⟩]) 3 40 Try.underlying22 Try.underlying60 gi gz0 gz1 gz2 rfl (by decide) _ m xs rfl own1 _ 0 _ [] rfl rfl (fun h => absurd h (by omega)) (by simp) (by unfold maxLen; omega) (by omega) hB ?_)
        intro v' w2 own2 gr2
        obtain ⟨vA, vc, rfl⟩ := own_slice own2
        have B2 := B.grown gr2 hB (fun j hj => (own1.lt j hj).1)
        clear own1 gr2
        go_wp2_with fail
        go_roundw
        case rel => exact ⟨k + 1, m, _, by go_num, by omega, Lib.hid (by have := HML.out; rw [Nat.sub_self] at this; exact this), Lib.hid (by have := HXL.out; exact this), by simpa using own2, B2⟩
        case measure => simp [intOf]; omega
    · obtain rfl : k = n := by omega
      have hfin : (gs.take k).flatten = L := by rw [List.take_of_length_le (by rw [HN.out]; exact Nat.le_refl _), HE.out]
      have hm := HM.out
      have hx := HX.out
      rw [hfin] at hm hx
      subst hm hx
      obtain ⟨vA, vc, rfl⟩ := own_slice hown
      have OW := Lib.hid hown
      clear hown HM HX
      go_wp2_with fail
      go_ret
      exact ⟨hb, _, rfl, OW.out⟩
end Go.Proofs.Ytpcapifjbhaeeaa
