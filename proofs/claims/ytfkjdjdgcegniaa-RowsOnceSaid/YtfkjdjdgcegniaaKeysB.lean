/- The walks of keys and of the reference's: keys of cells, stretches. -/
import Derived.Test.YtfkjdjdgcegniaaKeysA
namespace Go.Proofs.Ytfkjdjdgcegniaa
set_option maxRecDepth 16000
open Go.RowKit Spoor

theorem told_any (s : ByteArray) (b : Bool) (w : World) :
    Calls Try.prog 47 #[.string s, .bool b] w fun e w' => e = .returned (if b = true then .tuple #[.string s, .int .i64 0] else .tuple #[.string ⟨#[]⟩, .int .i64 2]) ∧ w = w' := by
  cases b with
  | false =>
    go_enter Try.func47, Try.ntmps47
    go_wp2_with fail
    go_ret2
    exact ⟨rfl, rfl⟩
  | true =>
    go_enter Try.func47, Try.ntmps47
    go_wp2_with fail
    go_ret2
    exact ⟨rfl, rfl⟩
/-- a key, or the error that there is none -/
def errV : Option (List UInt8) → Value
  | none => .tuple #[.string ⟨#[]⟩, .int .i64 2]
  | some l => .tuple #[.string ⟨l.toArray⟩, .int .i64 0]
theorem keyV_errV (o : Option (List UInt8)) : ∃ (l : List UInt8) (b : Bool), keyV o = .tuple #[.string ⟨l.toArray⟩, .bool b] ∧ errV o = if b = true then .tuple #[.string ⟨l.toArray⟩, .int .i64 0] else .tuple #[.string ⟨#[]⟩, .int .i64 2] := by
  cases o with
  | none => exact ⟨[], false, rfl, rfl⟩
  | some l => exact ⟨l, true, rfl, rfl⟩
theorem of_any (tr id : Int) (w : World) :
    Calls Try.prog 28 #[.int .i64 tr, .int .i64 id] w fun e w' => e = .returned (errV (ofKey tr id)) ∧ Below w.heap.size w w' := by
  have c1 := fun W => key_s ⟨115, tr, id, 0, [], []⟩ W rfl
  rw [ofKey_key] at c1
  obtain ⟨l, b, h1, h2⟩ := keyV_errV (ofKey tr id)
  rw [h1] at c1
  rw [h2]
  have c2 := fun W => told_any ⟨l.toArray⟩ b W
  have hix : ∀ W, (Instr.index 9 (.string ⟨#[115]⟩) (.int .i64 0)).run Try.prog W = .ok (.int .u8 115) W := fun _ => by kernel_rfl
  clear h1 h2
  unfold kpVal at c1
  have C1 := Lib.hid c1
  have C2 := Lib.hid c2
  clear c1 c2
  cases b with
  | false =>
    go_enter Try.func28, Try.ntmps28
    go_wp2_with fail
    refine (C1.out _).mono ?_
    rintro e w1 ⟨rfl, b1⟩
    go_wp2_with fail
    refine (C2.out _).mono ?_
    rintro e w2 ⟨rfl, rfl⟩
    go_wp2_with fail
    go_ret2
    exact ⟨rfl, b1⟩
  | true =>
    go_enter Try.func28, Try.ntmps28
    go_wp2_with fail
    refine (C1.out _).mono ?_
    rintro e w1 ⟨rfl, b1⟩
    go_wp2_with fail
    refine (C2.out _).mono ?_
    rintro e w2 ⟨rfl, rfl⟩
    go_wp2_with fail
    go_ret2
    exact ⟨rfl, b1⟩

/-- the stretch of a trace -/
def traceK (t : Int) : List UInt8 × List UInt8 := if idOk t = true then (115 :: big t.toNat, 115 :: big (t + 1).toNat) else ([], [])
def pairV (p : List UInt8 × List UInt8) : Value := .tuple #[.string ⟨p.1.toArray⟩, .string ⟨p.2.toArray⟩]
/-- the stretch of a service's and a host's index cells -/
def stretchK (sv ho : List UInt8) (a b : Int) : List UInt8 × List UInt8 :=
  if (decide (max a 0 ≤ min b 1073741824) && (nameOk sv && nameOk ho)) = true then (aheadK sv ho ++ big (max a 0).toNat, aheadK sv ho ++ big (min b 1073741824 + 1).toNat) else ([], [])
theorem ahead_bytes (sv ho : List UInt8) : (⟨(aheadK sv ho).toArray⟩ : ByteArray) = ⟨#[120]⟩ ++ ⟨sv.toArray⟩ ++ ⟨#[0]⟩ ++ ⟨ho.toArray⟩ ++ ⟨#[0]⟩ := by
  rw [str_add [120] sv, str_add _ [0], str_add _ ho, str_add _ [0]]
  simp [aheadK]
theorem name_list (l : List UInt8) (hl : l.length ≤ 140737488351232) (w : World) :
    Calls Try.prog 40 #[.string ⟨l.toArray⟩] w fun e w' => e = .returned (.bool (nameOk l)) ∧ Below w.heap.size w w' := name_any ⟨l.toArray⟩ w (mk_max hl)
theorem refName_list (l : List UInt8) (hl : l.length ≤ 140737488351232) (w : World) :
    Calls Try.prog 69 #[.string ⟨l.toArray⟩] w fun e w' => e = .returned (.bool (nameOk l)) ∧ w = w' := refName_any ⟨l.toArray⟩ w (mk_max hl)
theorem index_bad (x : Sp) (w : World) (hf : Fits x) (hx : x.ok = false) :
    Calls Try.prog 29 #[spVal x] w fun e w' => e = .returned (errV (indexKey x)) ∧ Below w.heap.size w w' := by
  have c := fun W => check_any x W hf
  rw [checkV_no hx] at c
  have e : indexKey x = none := by unfold indexKey; rw [hx]; rfl
  rw [e]
  clear e hx
  have q1 := SpAt.boxed x w
  have b1 := (Below.refl w.heap.size w).alloc (Nat.le_refl _) (boxS x)
  unfold spVal at *
  unfold boxS at b1
  have C := Lib.hid c
  clear c
  go_enter Try.func29, Try.ntmps29
  go_wp2_with fail
  refine (C.out _).mono ?_
  rintro e w2 ⟨rfl, b2⟩
  go_wp2_with fail
  go_ret2
  exact ⟨rfl, bt b1 b2⟩
theorem index_good (x : Sp) (w : World) (hx : x.ok = true) :
    Calls Try.prog 29 #[spVal x] w fun e w' => e = .returned (errV (indexKey x)) ∧ Below w.heap.size w w' := by
  obtain ⟨_, _, _, _, _, f, g, k⟩ := ok_of hx
  have fl := nameOk_of f
  have gl := nameOk_of g
  have hf : Fits x := ⟨by omega, by omega, by omega⟩
  have c := fun W => check_any x W hf
  rw [checkV_ok hx] at c
  have c1 := fun W => key_x ⟨120, x.tr, x.id, x.st, x.sv, x.ho⟩ W (by simp) ⟨hf.1, hf.2.1⟩
  have e1 : (⟨120, x.tr, x.id, x.st, x.sv, x.ho⟩ : KP).key = some (xKey x.sv x.ho x.st x.tr x.id) := by
    unfold KP.key
    rw [if_pos (like_ok hx), if_neg (by simp)]
  rw [e1] at c1
  have e : indexKey x = some (xKey x.sv x.ho x.st x.tr x.id) := by unfold indexKey; rw [if_pos hx]
  rw [e]
  clear e hx e1 f g k fl gl
  generalize xKey x.sv x.ho x.st x.tr x.id = L at *
  have c2 := fun W => told_any ⟨L.toArray⟩ true W
  have q1 := SpAt.boxed x w
  have b1 := (Below.refl w.heap.size w).alloc (Nat.le_refl _) (boxS x)
  have hix : ∀ W, (Instr.index 9 (.string ⟨#[120]⟩) (.int .i64 0)).run Try.prog W = .ok (.int .u8 120) W := fun _ => by kernel_rfl
  unfold spVal at *
  unfold boxS at b1
  unfold keyV kpVal at c1
  simp only [if_true] at c2
  have C := Lib.hid c
  have C1 := Lib.hid c1
  have C2 := Lib.hid c2
  clear c c1 c2
  go_enter Try.func29, Try.ntmps29
  go_wp2_with fail
  refine (C.out _).mono ?_
  rintro e w2 ⟨rfl, b2⟩
  have q2 := q1.later b2 q1.lt
  have b3 := bt b1 b2
  clear b1 b2 q1
  obtain ⟨d0, d1, d2, d3, d4, d5, d6, d7⟩ := q2.cell
  have l2 := q2.lt
  go_upto_region 4 with fail
  refine wp_region_more (by kernel_rfl) (by kernel_rfl) ?_
  repeat (go_big_quiet_step (fail))
  go_big_quiet_step (exact Calls.more (C1.out _))
  repeat (go_big_quiet_step (fail))
  go_big_quiet_step (exact Calls.more (same_below (C2.out _)))
  repeat (go_big_quiet_step (fail))
  refine wpQuiet_nil ?_
  rintro _ ⟨ex, rfl⟩
  have b4 := World.below_more w2 ex
  go_wp2_with fail
  go_ret2
  exact ⟨rfl, bt b3 b4⟩
theorem index_any (x : Sp) (w : World) (hf : Fits x) :
    Calls Try.prog 29 #[spVal x] w fun e w' => e = .returned (errV (indexKey x)) ∧ Below w.heap.size w w' := by
  cases hx : x.ok with
  | true => exact index_good x w hx
  | false => exact index_bad x w hf hx

theorem refNumber_any (n : Int) (w : World) : Calls Try.prog 52 #[.int .i64 n] w fun e w' => e = .returned (.bool (idOk n)) ∧ w = w' := by
  unfold idOk
  by_cases h1 : 1 ≤ n
  · by_cases h2 : n ≤ 2147483647
    · rw [decide_eq_true h1, decide_eq_true h2]
      go_enter Try.func52, Try.ntmps52
      go_wp2_with fail
      go_ret
      exact ⟨rfl, rfl⟩
    · rw [decide_eq_true h1, decide_eq_false h2]
      go_enter Try.func52, Try.ntmps52
      go_wp2_with fail
      go_ret
      exact ⟨rfl, rfl⟩
  · rw [decide_eq_false h1, Bool.false_and]
    go_enter Try.func52, Try.ntmps52
    go_wp2_with fail
    go_ret
    exact ⟨rfl, rfl⟩
theorem idOk_of {n : Int} (h : idOk n = true) : 1 ≤ n ∧ n ≤ 2147483647 := by
  simpa [idOk] using h
theorem refBig_int (n : Int) (h : 0 ≤ n) (h' : n ≤ 9223372036854775807) (w : World) :
    Calls Try.prog 53 #[.int .i64 n] w fun e w' => e = .returned (.string ⟨(big n.toNat).toArray⟩) ∧ Below w.heap.size w w' := by
  have := refBig_nat n.toNat w (by omega)
  rwa [toNat_i h] at this
theorem sKey_bytes (a b : Int) : (⟨(sKey a b).toArray⟩ : ByteArray) = ⟨#[115]⟩ ++ ⟨(big a.toNat).toArray⟩ ++ ⟨(big b.toNat).toArray⟩ := by
  rw [str_add [115], str_add]
  simp [sKey]
theorem refOf_any (tr id : Int) (w : World) :
    Calls Try.prog 31 #[.int .i64 tr, .int .i64 id] w fun e w' => e = .returned (errV (ofKey tr id)) ∧ Below w.heap.size w w' := by
  have c1 := fun W => refNumber_any tr W
  have c2 := fun W => refNumber_any id W
  have h1 : idOk tr = true → 1 ≤ tr ∧ tr ≤ 2147483647 := idOk_of
  have h2 : idOk id = true → 1 ≤ id ∧ id ≤ 2147483647 := idOk_of
  unfold ofKey
  generalize idOk tr = B1 at *
  generalize idOk id = B2 at *
  have C1 := Lib.hid c1
  have C2 := Lib.hid c2
  have H1 := Lib.hid h1
  have H2 := Lib.hid h2
  clear c1 c2 h1 h2
  cases B1 with
  | false =>
    go_enter Try.func31, Try.ntmps31
    go_wp2_with fail
    refine (C1.out _).mono ?_
    rintro e w1 ⟨rfl, rfl⟩
    go_wp2_with fail
    go_ret2
    exact ⟨rfl, Below.refl _ _⟩
  | true =>
    cases B2 with
    | false =>
      go_enter Try.func31, Try.ntmps31
      go_wp2_with fail
      refine (C1.out _).mono ?_
      rintro e w1 ⟨rfl, rfl⟩
      go_wp2_with fail
      refine (C2.out _).mono ?_
      rintro e w1 ⟨rfl, rfl⟩
      go_wp2_with fail
      go_ret2
      exact ⟨rfl, Below.refl _ _⟩
    | true =>
      obtain ⟨g1, g2⟩ := H1.out (by first | rfl | trivial)
      obtain ⟨g3, g4⟩ := H2.out (by first | rfl | trivial)
      have l1 := big_le tr.toNat
      have l2 := big_le id.toNat
      go_enter Try.func31, Try.ntmps31
      go_wp2_with fail
      refine (C1.out _).mono ?_
      rintro e w1 ⟨rfl, rfl⟩
      go_wp2_with fail
      refine (C2.out _).mono ?_
      rintro e w1 ⟨rfl, rfl⟩
      go_wp2_with fail
      refine (refBig_int tr (by omega) (by omega) _).mono ?_
      rintro e w2 ⟨rfl, b2⟩
      go_wp2_with fail
      refine (refBig_int id (by omega) (by omega) _).mono ?_
      rintro e w3 ⟨rfl, b3⟩
      go_wp2_with fail
      go_ret2
      exact ⟨ret1 (by simp only [Bool.and_self, if_true, errV]; rw [sKey_bytes]; rfl), bt b2 b3⟩
theorem refAhead_any (sv ho : List UInt8) (hs : sv.length ≤ 140737488351232) (hh : ho.length ≤ 140737488351232) (w : World) :
    Calls Try.prog 54 #[.string ⟨sv.toArray⟩, .string ⟨ho.toArray⟩] w fun e w' => e = .returned (.string ⟨(aheadK sv ho).toArray⟩) ∧ w = w' := by
  go_enter Try.func54, Try.ntmps54
  go_wp2_with fail
  go_ret
  exact ⟨ret1 (by rw [ahead_bytes]; rfl), rfl⟩
theorem refIndex_any (x : Sp) (w : World) (hf : Fits x) :
    Calls Try.prog 32 #[spVal x] w fun e w' => e = .returned (errV (indexKey x)) ∧ Below w.heap.size w w' := by
  have c := fun W => may_any x W hf
  have hb : x.ok = true → (1 ≤ x.tr ∧ x.tr ≤ 2147483647) ∧ (1 ≤ x.id ∧ x.id ≤ 2147483647) ∧ (0 ≤ x.st ∧ x.st ≤ 1073741824) ∧ x.sv.length ≤ 12 ∧ x.ho.length ≤ 12 := fun h => ⟨(ok_of h).1, (ok_of h).2.1, (ok_of h).2.2.2.1, (nameOk_of (ok_of h).2.2.2.2.2.1).2, (nameOk_of (ok_of h).2.2.2.2.2.2.1).2⟩
  have c1 := fun W => refAhead_any x.sv x.ho hf.1 hf.2.1 W
  have hla : (aheadK x.sv x.ho).length = 3 + x.sv.length + x.ho.length := by simp [aheadK]; omega
  unfold indexKey
  rw [xKey_ahead]
  generalize x.ok = B at *
  generalize aheadK x.sv x.ho = A at *
  have q1 := SpAt.boxed x w
  have b1 := (Below.refl w.heap.size w).alloc (Nat.le_refl _) (boxS x)
  unfold spVal at *
  unfold boxS at b1
  have C := Lib.hid c
  have C1 := Lib.hid c1
  have HB := Lib.hid hb
  have HA := Lib.hid hla
  clear c c1 hb hla
  cases B with
  | false =>
    go_enter Try.func32, Try.ntmps32
    go_wp2_with fail
    refine (C.out _).mono ?_
    rintro e w2 ⟨rfl, b2⟩
    go_wp2_with fail
    go_ret2
    exact ⟨rfl, bt b1 b2⟩
  | true =>
    obtain ⟨⟨g1, g2⟩, ⟨g3, g4⟩, ⟨g5, g6⟩, g7, g8⟩ := HB.out (by first | rfl | trivial)
    have l5 : A.length ≤ 27 := by rw [HA.out]; omega
    have l7 := big_le x.st.toNat
    have l8 := big_le x.tr.toNat
    have l9 := big_le x.id.toNat
    have n1 : ¬ 9223372036854775807 < A.length + (big x.st.toNat).length := by omega
    have n2 : ¬ 9223372036854775807 < A.length + (big x.st.toNat).length + (big x.tr.toNat).length := by omega
    have n3 : ¬ 9223372036854775807 < A.length + (big x.st.toNat).length + (big x.tr.toNat).length + (big x.id.toNat).length := by omega
    have c2 := fun W => refBig_int x.st (by omega) (by omega) W
    have c3 := fun W => refBig_int x.tr (by omega) (by omega) W
    have c4 := fun W => refBig_int x.id (by omega) (by omega) W
    have C2 := Lib.hid c2
    have C3 := Lib.hid c3
    have C4 := Lib.hid c4
    clear c2 c3 c4
    generalize big x.st.toNat = D1 at *
    generalize big x.tr.toNat = D2 at *
    generalize big x.id.toNat = D3 at *
    go_enter Try.func32, Try.ntmps32
    go_wp2_with fail
    refine (C.out _).mono ?_
    rintro e w2 ⟨rfl, b2⟩
    have q2 := q1.later b2 q1.lt
    have b3 := bt b1 b2
    clear b1 b2 q1
    obtain ⟨d0, d1, d2, d3, d4, d5, d6, d7⟩ := q2.cell
    have l2 := q2.lt
    go_upto_region 3 with fail
    refine wp_region_more (by kernel_rfl) (by kernel_rfl) ?_
    repeat (go_big_quiet_step (fail))
    go_big_quiet_step (exact Calls.more (same_below (C1.out _)))
    repeat (go_big_quiet_step (fail))
    go_big_quiet_step (exact Calls.more (C2.out _))
    repeat (go_big_quiet_step (fail))
    go_big_quiet_step (exact Calls.more (C3.out _))
    repeat (go_big_quiet_step (fail))
    go_big_quiet_step (exact Calls.more (C4.out _))
    repeat (go_big_quiet_step (fail))
    refine wpQuiet_nil ?_
    rintro _ ⟨ex, rfl⟩
    have b4 := World.below_more w2 ex
    go_wp2_with fail
    go_ret2
    exact ⟨ret1 (by simp only [if_true, errV]; rw [← str_add, ← str_add, ← str_add]; simp only [ByteArray.append_assoc]; rfl), bt b3 b4⟩
end Go.Proofs.Ytfkjdjdgcegniaa
