/- The walks of the reference's Parse, and of both Rows. -/
import Derived.Test.YtfkjdjdgcegniaaKeysD
namespace Go.Proofs.Ytfkjdjdgcegniaa
set_option maxRecDepth 16000
open Go.RowKit Spoor

/-! Row -/
/-! the reference's -/
def zeroAt (l : List UInt8) (a : Nat) : Int := if nz (l.drop a) = true then -1 else ((a + ((l.drop a).takeWhile (· != 0)).length : Nat) : Int)
theorem nz_cons (c : UInt8) (l : List UInt8) : nz (c :: l) = (c != 0 && nz l) := rfl
theorem zero_any (s : ByteArray) (a : Nat) (w : World) (hs : s.size ≤ maxLen) (ha : a ≤ s.size) :
    Calls Try.prog 61 #[.string s, .int .i64 a] w fun e w' => e = .returned (.int .i64 (zeroAt s.data.toList a)) ∧ w = w' := by
  unfold maxLen at hs
  have hlen := bytes_len s
  have HLen := Lib.hid hlen
  clear hlen
  obtain ⟨R, hR⟩ : ∃ R, zeroAt s.data.toList a = R := ⟨_, rfl⟩
  rw [hR]
  have HR := Lib.hid hR
  clear hR
  go_enter Try.func61, Try.ntmps61
  go_wp2
  go_loop [5] (fun v => ∃ j : Nat, a + j ≤ s.size ∧ v = .int .i64 ((a : Int) + (j : Int)) ∧ Hid (zeroAt s.data.toList a = zeroAt s.data.toList (a + j))) (fun v => s.size - (intOf v).toNat)
  case atStart => exact ⟨0, by omega, by go_num, rfl⟩
  case round =>
    obtain ⟨j, hj, rfl, hfl⟩ := hrel
    by_cases hlt : a + j < s.size
    · have hidx := index_at s a j hlt
      have hd := drop_at s.data.toList (a + j) (by rw [HLen.out]; exact hlt)
      have HD := Lib.hid hd
      generalize hc : (s.data.toList.getD (a + j) 0) = c at *
      have hz : zeroAt s.data.toList (a + j) = if c = 0 then ((a + j : Nat) : Int) else zeroAt s.data.toList (a + (j + 1)) := by
        unfold zeroAt
        rw [HD.out]
        by_cases h0 : c = 0
        · rw [if_pos h0]
          subst h0
          rw [nz_cons]; simp
        · have h1 : (c != 0) = true := by simpa using h0
          rw [if_neg h0]
          rw [nz_cons, h1, Bool.true_and]
          simp only [List.takeWhile_cons, h1, if_true, List.length_cons]
          rw [show a + j + 1 = a + (j + 1) from by omega]
          generalize s.data.toList.drop (a + (j + 1)) = X
          by_cases hx : nz X = true
          · rw [if_pos hx, if_pos hx]
          · rw [if_neg hx, if_neg hx]; congr 1; omega
      have HZ := Lib.hid hz
      clear hd hz hc
      by_cases h0 : c = 0
      · subst h0
        go_wp2
        go_ret
        refine ⟨ret1 ?_, rfl⟩
        rw [← HR.out, hfl.out, HZ.out]
        exact int_of (by simp)
      · have h1 : ((c.toNat : Int) == 0) = false := by
          rw [beq_eq_false_iff_ne]
          intro e
          exact h0 (UInt8.toNat_inj.1 (by simpa using e))
        have H0 := Lib.hid h0
        clear h0
        go_wp2
        go_round
        case rel => exact ⟨j + 1, by omega, by go_num, by show _ = _; rw [hfl.out, HZ.out, if_neg H0.out]⟩
        case measure => simp [intOf]; omega
    · have e : zeroAt s.data.toList (a + j) = -1 := by
        unfold zeroAt
        rw [List.drop_of_length_le (by rw [HLen.out]; omega)]
        rfl
      have He := Lib.hid e
      clear e
      go_wp2
      go_ret
      exact ⟨ret1 (by rw [← HR.out, hfl.out, He.out]; rfl), rfl⟩
theorem refOfBig_list (l : List UInt8) (a : Nat) (hl : l.length ≤ 140737488351232) (w : World) :
    Calls Try.prog 60 #[.string ⟨l.toArray⟩, .int .i64 a] w fun e w' => e = .returned (ofBigV (ofBig (l.drop a))) ∧ w = w' := by
  have := refOfBig_any ⟨l.toArray⟩ (a : Int) w (mk_max hl)
  unfold ofBigAt at this
  rw [if_neg (by omega)] at this
  exact this
theorem ofBigV_some (o : Option Nat) : ∃ (n : Nat) (b : Bool), ofBigV o = .tuple #[.int .i64 n, .bool b] ∧ (b = true → o = some n) ∧ (b = false → o = none) := by
  cases o with
  | none => exact ⟨0, false, rfl, fun h => (by cases h), fun _ => rfl⟩
  | some n => exact ⟨n, true, rfl, fun _ => rfl, fun h => (by cases h)⟩
theorem index0 (c : UInt8) (r : List UInt8) (W : World) : (Instr.index 9 (.string ⟨(c :: r).toArray⟩) (.int .i64 0)).run Try.prog W = .ok (.int .u8 (c.toNat : Int)) W := by
  have := index_nat ⟨(c :: r).toArray⟩ 0 (by show 0 < (c :: r).toArray.size; simp) W
  simpa using this

theorem refParse_short (l : List UInt8) (hl : l.length ≤ 140737488351232) (hn : ¬ (l.length = 17 ∧ l.head? = some 115)) (h2 : ¬ l.head? = some 120) (w : World) :
    Calls Try.prog 38 #[.string ⟨l.toArray⟩] w fun e w' => e = .returned (parseV none) ∧ Below w.heap.size w w' := by
  cases l with
  | nil =>
    go_enter Try.func38, Try.ntmps38
    go_wp2_with fail
    exact bodyPost_ret (v := parseV none) (by simp [results, parseV, kpVal, KP.zero, Try.results38, go_sem]) rfl ⟨rfl, (Below.refl _ _).alloc (Nat.le_refl _) _⟩
  | cons c r =>
    have hi := index0 c r
    simp only [List.head?_cons, Option.some.injEq] at hn h2
    have hc2 : ((c.toNat : Int) == 120) = false := by
      rw [beq_eq_false_iff_ne]; intro e; exact h2 (UInt8.toNat_inj.1 (by show c.toNat = 120; omega))
    have hc3 : ((c.toNat : Int) != 120) = true := by rw [bne, hc2]; rfl
    by_cases h17 : r.length = 16
    · have hc1 : ((c.toNat : Int) == 115) = false := by
        rw [beq_eq_false_iff_ne]; intro e; exact hn ⟨by simp [h17], UInt8.toNat_inj.1 (by show c.toNat = 115; omega)⟩
      have g1 : ((r.length : Int) + 1 == 17) = true := by rw [beq_iff_eq]; omega
      have H17 := Lib.hid h17
      clear h17 hn h2
      go_enter Try.func38, Try.ntmps38
      go_wp2_with fail
      exact bodyPost_ret (v := parseV none) (by simp [results, parseV, kpVal, KP.zero, Try.results38, go_sem]) rfl ⟨rfl, (Below.refl _ _).alloc (Nat.le_refl _) _⟩
    · have g1 : ((r.length : Int) + 1 == 17) = false := by rw [beq_eq_false_iff_ne]; omega
      have H17 := Lib.hid h17
      clear h17 hn h2
      go_enter Try.func38, Try.ntmps38
      go_wp2_with fail
      exact bodyPost_ret (v := parseV none) (by simp [results, parseV, kpVal, KP.zero, Try.results38, go_sem]) rfl ⟨rfl, (Below.refl _ _).alloc (Nat.le_refl _) _⟩

theorem refParse_s (r : List UInt8) (h16 : r.length = 16) (w : World) :
    Calls Try.prog 38 #[.string ⟨(115 :: r).toArray⟩] w fun e w' => e = .returned (parseV (parseK (115 :: r))) ∧ Below w.heap.size w w' := by
  have hi := index0 115 r
  have g1 : ((r.length : Int) + 1 == 17) = true := by rw [beq_iff_eq]; omega
  obtain ⟨a, A, ha, ha1, ha0⟩ := ofBigV_some (ofBig r)
  obtain ⟨b, B, hb, hb1, hb0⟩ := ofBigV_some (ofBig (r.drop 8))
  have c1 := fun W => refOfBig_list (115 :: r) 1 (by simp; omega) W
  have c2 := fun W => refOfBig_list (115 :: r) 9 (by simp; omega) W
  rw [show (115 :: r).drop 1 = r from rfl, ha] at c1
  rw [show (115 :: r).drop 9 = r.drop 8 from rfl, hb] at c2
  have c3 := fun W => refNumber_any (a : Int) W
  have c4 := fun W => refNumber_any (b : Int) W
  have hp : parseK (115 :: r) = if (A && B && (idOk (a : Int) && idOk (b : Int))) = true then some ⟨115, a, b, 0, [], []⟩ else none := by
    rw [parseK, if_pos rfl]
    unfold big2
    rw [if_pos h16]
    cases A with
    | false => rw [ha0 rfl]; rfl
    | true =>
      rw [ha1 rfl]
      cases B with
      | false => rw [hb0 rfl]; rfl
      | true => rw [hb1 rfl]; rfl
  generalize idOk (a : Int) = I at *
  generalize idOk (b : Int) = J at *
  rw [hp]
  have C1 := Lib.hid c1
  have C2 := Lib.hid c2
  have C3 := Lib.hid c3
  have C4 := Lib.hid c4
  clear hp c1 c2 c3 c4 ha ha1 ha0 hb hb1 hb0 h16
  cases A with
  | false =>
    go_enter Try.func38, Try.ntmps38
    go_wp2_with fail
    refine (C1.out _).mono ?_
    rintro e w1 ⟨rfl, rfl⟩
    go_wp2_with fail
    refine (C2.out _).mono ?_
    rintro e w1 ⟨rfl, rfl⟩
    go_wp2_with fail
    exact bodyPost_ret (v := parseV none) (by simp [results, parseV, kpVal, KP.zero, Try.results38, go_sem]) rfl ⟨rfl, (Below.refl _ _).alloc (Nat.le_refl _) _⟩
  | true =>
    cases B with
    | false =>
      go_enter Try.func38, Try.ntmps38
      go_wp2_with fail
      refine (C1.out _).mono ?_
      rintro e w1 ⟨rfl, rfl⟩
      go_wp2_with fail
      refine (C2.out _).mono ?_
      rintro e w1 ⟨rfl, rfl⟩
      go_wp2_with fail
      exact bodyPost_ret (v := parseV none) (by simp [results, parseV, kpVal, KP.zero, Try.results38, go_sem]) rfl ⟨rfl, (Below.refl _ _).alloc (Nat.le_refl _) _⟩
    | true =>
      cases I with
      | false =>
        go_enter Try.func38, Try.ntmps38
        go_wp2_with fail
        refine (C1.out _).mono ?_
        rintro e w1 ⟨rfl, rfl⟩
        go_wp2_with fail
        refine (C2.out _).mono ?_
        rintro e w1 ⟨rfl, rfl⟩
        go_wp2_with fail
        refine (C3.out _).mono ?_
        rintro e w1 ⟨rfl, rfl⟩
        go_wp2_with fail
        exact bodyPost_ret (v := parseV none) (by simp [results, parseV, kpVal, KP.zero, Try.results38, go_sem]) rfl ⟨rfl, (Below.refl _ _).alloc (Nat.le_refl _) _⟩
      | true =>
        cases J with
        | false =>
          go_enter Try.func38, Try.ntmps38
          go_wp2_with fail
          refine (C1.out _).mono ?_
          rintro e w1 ⟨rfl, rfl⟩
          go_wp2_with fail
          refine (C2.out _).mono ?_
          rintro e w1 ⟨rfl, rfl⟩
          go_wp2_with fail
          refine (C3.out _).mono ?_
          rintro e w1 ⟨rfl, rfl⟩
          go_wp2_with fail
          refine (C4.out _).mono ?_
          rintro e w1 ⟨rfl, rfl⟩
          go_wp2_with fail
          exact bodyPost_ret (v := parseV none) (by simp [results, parseV, kpVal, KP.zero, Try.results38, go_sem]) rfl ⟨rfl, (Below.refl _ _).alloc (Nat.le_refl _) _⟩
        | true =>
          go_enter Try.func38, Try.ntmps38
          go_wp2_with fail
          refine (C1.out _).mono ?_
          rintro e w1 ⟨rfl, rfl⟩
          go_wp2_with fail
          refine (C2.out _).mono ?_
          rintro e w1 ⟨rfl, rfl⟩
          go_wp2_with fail
          refine (C3.out _).mono ?_
          rintro e w1 ⟨rfl, rfl⟩
          go_wp2_with fail
          refine (C4.out _).mono ?_
          rintro e w1 ⟨rfl, rfl⟩
          go_wp2_with fail
          exact bodyPost_ret (v := parseV (some ⟨115, a, b, 0, [], []⟩)) (by simp [results, parseV, kpVal, Try.results38, go_sem]) rfl ⟨rfl, (Below.refl _ _).alloc (Nat.le_refl _) _⟩

theorem len_cut {r : List UInt8} (hz : nz r = false) : (120 :: r).length = 1 + (cut0 r).1.length + 1 + (cut0 r).2.1.length := by
  obtain ⟨h1, _, _⟩ := cut0_len hz
  simp; omega
theorem zero_1 (r : List UInt8) : zeroAt (120 :: r) 1 = if nz r = true then -1 else ((1 + (cut0 r).1.length : Nat) : Int) := rfl
theorem drop_1 {r : List UInt8} (hz : nz r = false) : (120 :: r).drop (1 + (cut0 r).1.length + 1) = (cut0 r).2.1 := by
  obtain ⟨_, _, h3⟩ := cut0_len hz
  rw [h3, show 1 + (cut0 r).1.length + 1 = ((cut0 r).1.length + 1) + 1 from by omega, List.drop_succ_cons]
theorem refParse_x1 (r : List UInt8) (hl : r.length ≤ 140737488351231) (g17 : ((r.length : Int) + 1 == 17) = false ∨ ((r.length : Int) + 1 == 17) = true) (hz : nz r = true) (w : World) :
    Calls Try.prog 38 #[.string ⟨(120 :: r).toArray⟩] w fun e w' => e = .returned (parseV none) ∧ Below w.heap.size w w' := by
  have hi := index0 120 r
  have c1 := fun W => zero_any ⟨(120 :: r).toArray⟩ 1 W (mk_max (by simp; omega)) (by simp only [ByteArray.size_mk', List.size_toArray, List.length_cons]; omega)
  rw [show (⟨(120 :: r).toArray⟩ : ByteArray).data.toList = 120 :: r from rfl, zero_1, if_pos hz] at c1
  have C1 := Lib.hid c1
  clear c1 hz
  rcases g17 with g1 | g1
  all_goals
    go_enter Try.func38, Try.ntmps38
    go_wp2_with fail
    refine (C1.out _).mono ?_
    rintro e w1 ⟨rfl, rfl⟩
    go_wp2_with fail
    exact bodyPost_ret (v := parseV none) (by simp [results, parseV, kpVal, KP.zero, Try.results38, go_sem]) rfl ⟨rfl, (Below.refl _ _).alloc (Nat.le_refl _) _⟩
theorem refParse_x2 (r : List UInt8) (hl : r.length ≤ 140737488351231) (g17 : ((r.length : Int) + 1 == 17) = false ∨ ((r.length : Int) + 1 == 17) = true) (hz : nz r = false)
    (h2 : nz (cut0 r).2.1 = true ∨ (nz (cut0 r).2.1 = false ∧ (cut0 (cut0 r).2.1).2.1.length ≠ 24)) (w : World) :
    Calls Try.prog 38 #[.string ⟨(120 :: r).toArray⟩] w fun e w' => e = .returned (parseV none) ∧ Below w.heap.size w w' := by
  have hi := index0 120 r
  have c1 := fun W => zero_any ⟨(120 :: r).toArray⟩ 1 W (mk_max (by simp; omega)) (by simp only [ByteArray.size_mk', List.size_toArray, List.length_cons]; omega)
  rw [show (⟨(120 :: r).toArray⟩ : ByteArray).data.toList = 120 :: r from rfl, zero_1, if_neg (by simp [hz])] at c1
  have hlen := len_cut hz
  simp only [List.length_cons] at hlen
  have c2 := fun W => zero_any ⟨(120 :: r).toArray⟩ (1 + (cut0 r).1.length + 1) W (mk_max (by simp; omega)) (by simp only [ByteArray.size_mk', List.size_toArray, List.length_cons]; omega)
  rw [show (⟨(120 :: r).toArray⟩ : ByteArray).data.toList = 120 :: r from rfl] at c2
  unfold zeroAt at c2
  rw [drop_1 hz] at c2
  generalize (cut0 r).2.1 = r1 at *
  obtain ⟨i, hi2⟩ : ∃ i : Nat, 1 + (cut0 r).1.length = i := ⟨_, rfl⟩
  rw [hi2] at c1 c2 hlen
  rw [show ((i + 1 : Nat) : Int) = (i : Int) + 1 from by omega] at c2
  have C1 := Lib.hid c1
  clear c1 hz hi2
  rcases h2 with h2 | ⟨h2, h24⟩
  · rw [if_pos h2] at c2
    have C2 := Lib.hid c2
    have HLen := Lib.hid hlen
    have hb : i ≤ r.length := by omega
    clear c2 h2 hlen
    rcases g17 with g1 | g1
    all_goals
      go_enter Try.func38, Try.ntmps38
      go_wp2_with fail
      refine (C1.out _).mono ?_
      rintro e w1 ⟨rfl, rfl⟩
      go_wp2_with fail
      refine (C2.out _).mono ?_
      rintro e w1 ⟨rfl, rfl⟩
      go_wp2_with fail
      exact bodyPost_ret (v := parseV none) (by simp [results, parseV, kpVal, KP.zero, Try.results38, go_sem]) rfl ⟨rfl, (Below.refl _ _).alloc (Nat.le_refl _) _⟩
  · rw [if_neg (by simp [h2]), show r1.takeWhile (· != 0) = (cut0 r1).1 from rfl] at c2
    obtain ⟨m1, _, _⟩ := cut0_len h2
    generalize (cut0 r1).1.length = q at *
    generalize (cut0 r1).2.1.length = q2 at *
    obtain ⟨k, hk⟩ : ∃ k : Nat, i + 1 + q = k := ⟨_, rfl⟩
    rw [hk] at c2
    have C2 := Lib.hid c2
    have hn2 : (((r.length : Int) + 1) == ((k : Int) + 25)) = false := by rw [beq_eq_false_iff_ne]; omega
    have hn3 : (((r.length : Int) + 1) != ((k : Int) + 25)) = true := by rw [bne, hn2]; rfl
    have hk2 : k ≤ r.length := by omega
    have hb : i ≤ r.length := by omega
    clear c2 h2 hlen m1 hk h24
    rcases g17 with g1 | g1
    all_goals
      go_enter Try.func38, Try.ntmps38
      go_wp2_with fail
      refine (C1.out _).mono ?_
      rintro e w1 ⟨rfl, rfl⟩
      go_wp2_with fail
      refine (C2.out _).mono ?_
      rintro e w1 ⟨rfl, rfl⟩
      go_wp2_with fail
      exact bodyPost_ret (v := parseV none) (by simp [results, parseV, kpVal, KP.zero, Try.results38, go_sem]) rfl ⟨rfl, (Below.refl _ _).alloc (Nat.le_refl _) _⟩
end Go.Proofs.Ytfkjdjdgcegniaa
