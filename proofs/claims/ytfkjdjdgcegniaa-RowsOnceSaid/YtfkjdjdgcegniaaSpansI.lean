/- The walks of Decode and of the reference's. -/
import Derived.Test.YtfkjdjdgcegniaaSpansH
namespace Go.Proofs.Ytfkjdjdgcegniaa
set_option maxRecDepth 16000
open Go.RowKit Spoor

/-- what Decode tells -/
def decodeV : Option Sp → Value
  | none => .tuple #[spVal Sp.zero, .int .i64 30]
  | some x => .tuple #[spVal x, .int .i64 0]
theorem take_fits {l : List UInt8} {x : Sp} {q : Nat} (h : takeSp l 0 = some (x, q)) (hl : l.length ≤ 140737488351232) : Fits x := by
  obtain ⟨g1, g2⟩ := takeSp_some h
  have e := congrArg List.length g2
  simp only [Sp.bytes, putText, List.length_append, List.length_take] at e
  exact ⟨by omega, by omega, by omega⟩
theorem decodeSp_take {l : List UInt8} {x : Sp} {q : Nat} (h : takeSp l 0 = some (x, q)) : decodeSp l = if q = l.length ∧ x.ok = true then some x else none := by
  unfold decodeSp; rw [h]
theorem decodeSp_none {l : List UInt8} (h : takeSp l 0 = none) : decodeSp l = none := by
  unfold decodeSp; rw [h]
theorem checkV_ok {x : Sp} (h : x.ok = true) : checkV x = 0 := by unfold checkV; rw [h]; rfl
theorem checkV_no {x : Sp} (h : x.ok = false) : checkV x = 2 := by unfold checkV; rw [h]; rfl
theorem below_new2 {w w1 : World} (o o' : Obj) (hb : Below (w.alloc o).heap.size (w.alloc o) w1) : Below w.heap.size w (w1.alloc o') :=
  (((Below.refl _ _).alloc (Nat.le_refl _) o).trans (hb.mono (by simp))).alloc (by have := hb.size; simp at this; omega) o'
theorem size_max' {s : ByteArray} (h : s.size ≤ 140737488351232) : s.size ≤ maxLen := by unfold maxLen; omega
theorem SpAt.alloc' {b : Nat} {x : Sp} {w : World} (h : SpAt b x w) (o : Obj) : SpAt b x (w.alloc o) := (Below.heap_alloc w o b h.lt).trans h

set_option maxHeartbeats 1000000 in
theorem decode_any (s : ByteArray) (w : World) (hs : s.size ≤ 140737488351232) :
    Calls Try.prog 33 #[.string s] w fun e w' => e = .returned (decodeV (decodeSp s.data.toList)) ∧ Below w.heap.size w w' := by
  have hm := size_max' hs
  have hl := bytes_len s
  obtain ⟨R, hR⟩ : ∃ R, decodeV (decodeSp s.data.toList) = R := ⟨_, rfl⟩
  rw [hR]
  have HR := Lib.hid hR
  have ct := fun W => take_any s 0 W hm
  have CT := Lib.hid ct
  cases htk : takeSp s.data.toList 0 with
  | none =>
    have hd := decodeSp_none htk
    rw [htk] at CT
    have HD := Lib.hid hd
    clear htk hd hR ct hl hm
    unfold takeV spVal at CT
    go_enter Try.func33, Try.ntmps33
    go_wp2_with fail
    refine (CT.out _).mono ?_
    rintro e w1 ⟨rfl, hb1⟩
    have hat : SpAt w.heap.size Sp.zero w1 := (SpAt.boxed Sp.zero w).later hb1 (by simp)
    have hlt := hat.lt
    obtain ⟨c0, c1, c2, c3, c4, c5, c6, c7⟩ := hat.cell
    obtain ⟨f0, f1, f2, f3, f4, f5, f6, f7⟩ := hat.frees
    have HB := Lib.hid hb1
    clear hb1 hat
    go_wp2_with fail
    refine bodyPost_ret (v := R) ?_ rfl ⟨rfl, ?_⟩
    · rw [← HR.out, HD.out]
      simp [results, decodeV, spVal, Sp.zero, Try.results33, go_sem, *]
    · exact ((below_set8 (((Below.refl _ _).alloc (Nat.le_refl _) _).trans (HB.out.mono (by simp))) (Nat.le_refl _) _ _ _ _ _ _ _ _).alloc (by simp; omega) _)
  | some r =>
    obtain ⟨x, q⟩ := r
    have hf := take_fits htk (by omega)
    have hd := decodeSp_take htk
    have hq := (takeSp_some htk).1
    rw [htk] at CT
    have cc := fun W => check_any x W hf
    unfold takeV at CT
    by_cases hqe : (q : Int) = (s.size : Int)
    · cases hok : x.ok with
      | true =>
        rw [if_pos ⟨by omega, hok⟩] at hd
        have e := checkV_ok hok
        rw [e] at cc
        clear e
        have CC := Lib.hid cc
        have HD := Lib.hid hd
        clear htk hd hR ct hl hm hok cc hf
        have hlq : ¬ (q : Int) < (s.size : Int) := by omega
        clear hqe hq
        unfold spVal at CT CC
        go_enter Try.func33, Try.ntmps33
        go_wp2_with fail
        refine (CT.out _).mono ?_
        rintro e w1 ⟨rfl, hb1⟩
        have hat : SpAt w.heap.size Sp.zero w1 := (SpAt.boxed Sp.zero w).later hb1 (by simp)
        have hlt := hat.lt
        have HB := Lib.hid hb1
        have HA := Lib.hid hat
        clear hb1 hat
        go_wp2_with fail
        refine (CC.out _).mono ?_
        rintro e w2 ⟨rfl, hb2⟩
        have hat2 := (HA.out.alloc' _).later hb2 (by simp; omega)
        have hax : SpAt w1.heap.size x w2 := (SpAt.boxed x w1).later hb2 (by simp)
        have hlt2 := hat2.lt
        have hltx := hax.lt
        obtain ⟨c0, c1, c2, c3, c4, c5, c6, c7⟩ := hat2.cell
        obtain ⟨f0, f1, f2, f3, f4, f5, f6, f7⟩ := hat2.frees
        obtain ⟨d0, d1, d2, d3, d4, d5, d6, d7⟩ := hax.cell
        have HB2 := Lib.hid hb2
        clear hb2 hat2 hax
        go_wp2_with fail
        refine bodyPost_ret (v := R) ?_ rfl ⟨rfl, ?_⟩
        · rw [← HR.out, HD.out]
          simp [results, decodeV, spVal, Try.results33, go_sem, *]
        · exact (below_set8 (((((Below.refl _ _).alloc (Nat.le_refl _) _).trans (HB.out.mono (by simp))).alloc (by omega) _).trans (HB2.out.mono (by simp; omega))) (Nat.le_refl _) _ _ _ _ _ _ _ _)
      | false =>
        rw [if_neg (by rw [hok]; simp)] at hd
        have e := checkV_no hok
        rw [e] at cc
        clear e
        have CC := Lib.hid cc
        have HD := Lib.hid hd
        clear htk hd hR ct hl hm hok cc hf
        have hlq : ¬ (q : Int) < (s.size : Int) := by omega
        clear hqe hq
        unfold spVal at CT CC
        go_enter Try.func33, Try.ntmps33
        go_wp2_with fail
        refine (CT.out _).mono ?_
        rintro e w1 ⟨rfl, hb1⟩
        have hat : SpAt w.heap.size Sp.zero w1 := (SpAt.boxed Sp.zero w).later hb1 (by simp)
        have hlt := hat.lt
        have HB := Lib.hid hb1
        have HA := Lib.hid hat
        clear hb1 hat
        go_wp2_with fail
        refine (CC.out _).mono ?_
        rintro e w2 ⟨rfl, hb2⟩
        have hat2 := (HA.out.alloc' _).later hb2 (by simp; omega)
        have hlt2 := hat2.lt
        obtain ⟨c0, c1, c2, c3, c4, c5, c6, c7⟩ := hat2.cell
        obtain ⟨f0, f1, f2, f3, f4, f5, f6, f7⟩ := hat2.frees
        have HB2 := Lib.hid hb2
        clear hb2 hat2
        go_wp2_with fail
        refine bodyPost_ret (v := R) ?_ rfl ⟨rfl, ?_⟩
        · rw [← HR.out, HD.out]
          simp [results, decodeV, spVal, Sp.zero, Try.results33, go_sem, *]
        · exact (below_set8 (((((Below.refl _ _).alloc (Nat.le_refl _) _).trans (HB.out.mono (by simp))).alloc (by omega) _).trans (HB2.out.mono (by simp; omega))) (Nat.le_refl _) _ _ _ _ _ _ _ _)
    · rw [if_neg (by intro h; omega)] at hd
      have HD := Lib.hid hd
      have hlt0 : (q : Int) < (s.size : Int) := by omega
      have hne : ((q : Int) != (s.size : Int)) = true := by simpa using hqe
      clear htk hd hR ct hl hm cc hf hqe
      unfold spVal at CT
      go_enter Try.func33, Try.ntmps33
      go_wp2_with fail
      refine (CT.out _).mono ?_
      rintro e w1 ⟨rfl, hb1⟩
      have hat : SpAt w.heap.size Sp.zero w1 := (SpAt.boxed Sp.zero w).later hb1 (by simp)
      have hlt := hat.lt
      obtain ⟨c0, c1, c2, c3, c4, c5, c6, c7⟩ := hat.cell
      obtain ⟨f0, f1, f2, f3, f4, f5, f6, f7⟩ := hat.frees
      have HB := Lib.hid hb1
      clear hb1 hat
      go_wp2_with fail
      refine bodyPost_ret (v := R) ?_ rfl ⟨rfl, ?_⟩
      · rw [← HR.out, HD.out]
        simp [results, decodeV, spVal, Sp.zero, Try.results33, go_sem, *]
      · exact ((below_set8 (((Below.refl _ _).alloc (Nat.le_refl _) _).trans (HB.out.mono (by simp))) (Nat.le_refl _) _ _ _ _ _ _ _ _).alloc (by simp; omega) _)

set_option maxHeartbeats 1000000 in
theorem refDecode_any (s : ByteArray) (w : World) (hs : s.size ≤ 140737488351232) :
    Calls Try.prog 34 #[.string s] w fun e w' => e = .returned (decodeV (decodeSp s.data.toList)) ∧ Below w.heap.size w w' := by
  have hm := size_max' hs
  have hl := bytes_len s
  obtain ⟨R, hR⟩ : ∃ R, decodeV (decodeSp s.data.toList) = R := ⟨_, rfl⟩
  rw [hR]
  have HR := Lib.hid hR
  have ct := fun W => refTake_any s 0 W hm
  have CT := Lib.hid ct
  cases htk : takeSp s.data.toList 0 with
  | none =>
    have hd := decodeSp_none htk
    rw [htk] at CT
    have HD := Lib.hid hd
    clear htk hd hR ct hl hm
    unfold takeV spVal at CT
    go_enter Try.func34, Try.ntmps34
    go_wp2_with fail
    refine (CT.out _).mono ?_
    rintro e w1 ⟨rfl, hb1⟩
    have hat : SpAt w.heap.size Sp.zero w1 := (SpAt.boxed Sp.zero w).later hb1 (by simp)
    have hlt := hat.lt
    obtain ⟨c0, c1, c2, c3, c4, c5, c6, c7⟩ := hat.cell
    obtain ⟨f0, f1, f2, f3, f4, f5, f6, f7⟩ := hat.frees
    have HB := Lib.hid hb1
    clear hb1 hat
    go_wp2_with fail
    refine bodyPost_ret (v := R) ?_ rfl ⟨rfl, ?_⟩
    · rw [← HR.out, HD.out]
      simp [results, decodeV, spVal, Sp.zero, Try.results34, go_sem, *]
    · exact ((below_set8 (((Below.refl _ _).alloc (Nat.le_refl _) _).trans (HB.out.mono (by simp))) (Nat.le_refl _) _ _ _ _ _ _ _ _).alloc (by simp; omega) _)
  | some r =>
    obtain ⟨x, q⟩ := r
    have hf := take_fits htk (by omega)
    have hd := decodeSp_take htk
    have hq := (takeSp_some htk).1
    rw [htk] at CT
    have cc := fun W => may_any x W hf
    unfold takeV at CT
    by_cases hqe : (q : Int) = (s.size : Int)
    · cases hok : x.ok with
      | true =>
        rw [if_pos ⟨by omega, hok⟩] at hd
        rw [hok] at cc
        have CC := Lib.hid cc
        have HD := Lib.hid hd
        clear htk hd hR ct hl hm hok cc hf
        have hlq : ((q : Int) != (s.size : Int)) = false := by simpa using hqe
        clear hqe hq
        unfold spVal at CT CC
        go_enter Try.func34, Try.ntmps34
        go_wp2_with fail
        refine (CT.out _).mono ?_
        rintro e w1 ⟨rfl, hb1⟩
        have hat : SpAt w.heap.size Sp.zero w1 := (SpAt.boxed Sp.zero w).later hb1 (by simp)
        have hlt := hat.lt
        have HB := Lib.hid hb1
        have HA := Lib.hid hat
        clear hb1 hat
        go_wp2_with fail
        refine (CC.out _).mono ?_
        rintro e w2 ⟨rfl, hb2⟩
        have hat2 := (HA.out.alloc' _).later hb2 (by simp; omega)
        have hax : SpAt w1.heap.size x w2 := (SpAt.boxed x w1).later hb2 (by simp)
        have hlt2 := hat2.lt
        have hltx := hax.lt
        obtain ⟨c0, c1, c2, c3, c4, c5, c6, c7⟩ := hat2.cell
        obtain ⟨f0, f1, f2, f3, f4, f5, f6, f7⟩ := hat2.frees
        obtain ⟨d0, d1, d2, d3, d4, d5, d6, d7⟩ := hax.cell
        have HB2 := Lib.hid hb2
        clear hb2 hat2 hax
        go_wp2_with fail
        refine bodyPost_ret (v := R) ?_ rfl ⟨rfl, ?_⟩
        · rw [← HR.out, HD.out]
          simp [results, decodeV, spVal, Try.results34, go_sem, *]
        · exact (below_set8 (((((Below.refl _ _).alloc (Nat.le_refl _) _).trans (HB.out.mono (by simp))).alloc (by omega) _).trans (HB2.out.mono (by simp; omega))) (Nat.le_refl _) _ _ _ _ _ _ _ _)
      | false =>
        rw [if_neg (by rw [hok]; simp)] at hd
        rw [hok] at cc
        have CC := Lib.hid cc
        have HD := Lib.hid hd
        clear htk hd hR ct hl hm hok cc hf
        have hlq : ((q : Int) != (s.size : Int)) = false := by simpa using hqe
        clear hqe hq
        unfold spVal at CT CC
        go_enter Try.func34, Try.ntmps34
        go_wp2_with fail
        refine (CT.out _).mono ?_
        rintro e w1 ⟨rfl, hb1⟩
        have hat : SpAt w.heap.size Sp.zero w1 := (SpAt.boxed Sp.zero w).later hb1 (by simp)
        have hlt := hat.lt
        have HB := Lib.hid hb1
        have HA := Lib.hid hat
        clear hb1 hat
        go_wp2_with fail
        refine (CC.out _).mono ?_
        rintro e w2 ⟨rfl, hb2⟩
        have hat2 := (HA.out.alloc' _).later hb2 (by simp; omega)
        have hlt2 := hat2.lt
        obtain ⟨c0, c1, c2, c3, c4, c5, c6, c7⟩ := hat2.cell
        obtain ⟨f0, f1, f2, f3, f4, f5, f6, f7⟩ := hat2.frees
        have HB2 := Lib.hid hb2
        clear hb2 hat2
        go_wp2_with fail
        refine bodyPost_ret (v := R) ?_ rfl ⟨rfl, ?_⟩
        · rw [← HR.out, HD.out]
          simp [results, decodeV, spVal, Sp.zero, Try.results34, go_sem, *]
        · exact (below_set8 (((((Below.refl _ _).alloc (Nat.le_refl _) _).trans (HB.out.mono (by simp))).alloc (by omega) _).trans (HB2.out.mono (by simp; omega))) (Nat.le_refl _) _ _ _ _ _ _ _ _)
    · rw [if_neg (by intro h; omega)] at hd
      have HD := Lib.hid hd
      have hlt0 : (q : Int) < (s.size : Int) := by omega
      have hne : ((q : Int) != (s.size : Int)) = true := by simpa using hqe
      clear htk hd hR ct hl hm cc hf hqe
      unfold spVal at CT
      go_enter Try.func34, Try.ntmps34
      go_wp2_with fail
      refine (CT.out _).mono ?_
      rintro e w1 ⟨rfl, hb1⟩
      have hat : SpAt w.heap.size Sp.zero w1 := (SpAt.boxed Sp.zero w).later hb1 (by simp)
      have hlt := hat.lt
      obtain ⟨c0, c1, c2, c3, c4, c5, c6, c7⟩ := hat.cell
      obtain ⟨f0, f1, f2, f3, f4, f5, f6, f7⟩ := hat.frees
      have HB := Lib.hid hb1
      clear hb1 hat
      go_wp2_with fail
      refine bodyPost_ret (v := R) ?_ rfl ⟨rfl, ?_⟩
      · rw [← HR.out, HD.out]
        simp [results, decodeV, spVal, Sp.zero, Try.results34, go_sem, *]
      · exact ((below_set8 (((Below.refl _ _).alloc (Nat.le_refl _) _).trans (HB.out.mono (by simp))) (Nat.le_refl _) _ _ _ _ _ _ _ _).alloc (by simp; omega) _)
end Go.Proofs.Ytfkjdjdgcegniaa
