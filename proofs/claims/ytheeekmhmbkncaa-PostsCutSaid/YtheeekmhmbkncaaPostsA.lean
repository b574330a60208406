/- The walks on acks: which numbers may be, numbers put one behind the other, an ack's bytes. -/
import Derived.Test.YtheeekmhmbkncaaSpansK
import Derived.Test.YtheeekmhmbkncaaPosts0
import Derived.Deep.DeepCutAuto
namespace Go.Proofs.Ytheeekmhmbkncaa
open Go.RowKit Spoor

theorem btP {w a b : World} (h : Below w.heap.size w a) (k : Below a.heap.size a b) : Below w.heap.size w b := h.trans (k.mono h.size)
theorem host_any (n : Int) (w : World) : Calls Try.prog 21 #[.int .i64 n] w fun e w' => e = .returned (.bool (hoOk n)) ∧ w = w' := by
  by_cases h : 0 ≤ n
  · rw [show hoOk n = decide (n < 4) by unfold hoOk; rw [decide_eq_decide]; omega]
    go_enter Try.func21, Try.ntmps21
    go_wp2_with fail
    go_ret
    exact ⟨rfl, rfl⟩
  · rw [show hoOk n = false by unfold hoOk; exact decide_eq_false (by omega)]
    have e := decide_eq_false h
    go_enter Try.func21, Try.ntmps21
    go_wp2_with fail
    go_ret
    exact ⟨rfl, rfl⟩
theorem record_any (n : Int) (w : World) : Calls Try.prog 22 #[.int .i64 n] w fun e w' => e = .returned (.bool (reOk n)) ∧ w = w' := by
  by_cases h : 0 ≤ n
  · rw [show reOk n = decide (n ≤ 2147483647) by unfold reOk; rw [decide_eq_decide]; omega]
    go_enter Try.func22, Try.ntmps22
    go_wp2_with fail
    go_ret
    exact ⟨rfl, rfl⟩
  · rw [show reOk n = false by unfold reOk; exact decide_eq_false (by omega)]
    have e := decide_eq_false h
    go_enter Try.func22, Try.ntmps22
    go_wp2_with fail
    go_ret
    exact ⟨rfl, rfl⟩
theorem number_any (h f : Int) (w : World) : Calls Try.prog 26 #[.int .i64 h, .int .i64 f] w fun e w' => e = .returned (.bool (hoOk h && reOk f)) ∧ w = w' := by
  by_cases h1 : 0 ≤ h
  · by_cases h2 : h < 4
    · by_cases h3 : 0 ≤ f
      · rw [show (hoOk h && reOk f) = decide (f ≤ 2147483647) by unfold hoOk reOk; rw [decide_eq_true (by omega), Bool.true_and, decide_eq_decide]; omega]
        go_enter Try.func26, Try.ntmps26
        go_wp2_with fail
        go_ret
        exact ⟨rfl, rfl⟩
      · rw [show (hoOk h && reOk f) = false by unfold hoOk reOk; rw [decide_eq_false (by omega : ¬ (0 ≤ f ∧ f ≤ 2147483647)), Bool.and_false]]
        have e := decide_eq_false h3
        go_enter Try.func26, Try.ntmps26
        go_wp2_with fail
        go_ret
        exact ⟨rfl, rfl⟩
    · rw [show (hoOk h && reOk f) = false by unfold hoOk reOk; rw [decide_eq_false (by omega : ¬ (0 ≤ h ∧ h ≤ 3)), Bool.false_and]]
      have e := decide_eq_false h2
      go_enter Try.func26, Try.ntmps26
      go_wp2_with fail
      go_ret
      exact ⟨rfl, rfl⟩
  · rw [show (hoOk h && reOk f) = false by unfold hoOk reOk; rw [decide_eq_false (by omega : ¬ (0 ≤ h ∧ h ≤ 3)), Bool.false_and]]
    have e := decide_eq_false h1
    go_enter Try.func26, Try.ntmps26
    go_wp2_with fail
    go_ret
    exact ⟨rfl, rfl⟩
theorem putN_snoc (ns : List Nat) (n : Nat) : putN (ns ++ [n]) = putN ns ++ put n := by simp [putN]
theorem putN_take (ns : List Nat) (k : Nat) (h : k < ns.length) : putN (ns.take (k + 1)) = putN (ns.take k) ++ put (ns.getD k 0) := by
  rw [List.take_succ_eq_append_getElem h, putN_snoc]
  simp [List.getD, h]
theorem putN_len (ns : List Nat) (h : ∀ n ∈ ns, n ≤ 9223372036854775807) : (putN ns).length ≤ 9 * ns.length := by
  induction ns with
  | nil => simp [putN]
  | cons n ns ih =>
    have h1 := put_length9 n (h n (by simp))
    have h2 := ih (fun m hm => h m (by simp [hm]))
    rw [putN_cons, List.length_append, List.length_cons]
    omega
theorem puts_any (c : UInt8) (g : Nat) (ns : List Nat) (w : World) (hl : ns.length = 3) (hn : ∀ i, i < 3 → ns.getD i 0 ≤ 9223372036854775807) (hg : g < w.heap.size)
    (hc : ∀ i, i < 3 → w.cell? ⟨g, i, none⟩ = some (.int .i64 ((ns.getD i 0 : Nat) : Int))) :
    Calls Try.prog 23 #[.string ⟨#[c]⟩, .slice (some ⟨g, 0, none⟩) 3 3] w fun e w' => e = .returned (.string ⟨(c :: putN ns).toArray⟩) ∧ Below w.heap.size w w' := by
  have HL := Lib.hid hl
  have HC := Lib.hid hc
  have HN := Lib.hid hn
  clear hl hc hn
  go_enter Try.func23, Try.ntmps23
  go_wp2_with fail
  go_loopw [0, 9] (fun s i wr => ∃ k : Nat, k ≤ 3 ∧ i = .int .i64 k ∧ s = .string ⟨(c :: putN (ns.take k)).toArray⟩ ∧ Below w.heap.size w wr) (fun _ i _ => 3 - (intOf i).toNat)
  case atStart => exact ⟨0, by omega, rfl, rfl, Below.refl _ _⟩
  case round =>
    obtain ⟨k, hk, rfl, rfl, hb⟩ := hrel
    by_cases hlt : k < 3
    · have hck := (hb.cell (p := ⟨g, k, none⟩) hg).trans (HC.out k hlt)
      have h63 := HN.out k hlt
      have hcb := fun W => put_nat (ns.getD k 0) W h63
      have HB := Lib.hid hcb
      have hlen : (c :: putN (ns.take k)).length ≤ 30 := by
        have h1 := putN_len (ns.take k) (fun n hn => by
          obtain ⟨i, hi, rfl⟩ := List.mem_iff_getElem.1 hn
          have hi3 : i < 3 := by rw [List.length_take] at hi; omega
          have := HN.out i hi3
          have hil : i < ns.length := by rw [HL.out]; exact hi3
          simpa [List.getD, hil] using this)
        rw [List.length_take] at h1
        rw [List.length_cons]
        have := HL.out
        omega
      have hlen2 := put_length9 (ns.getD k 0) h63
      have HT := Lib.hid (putN_take ns k (by rw [HL.out]; exact hlt))
      clear hcb h63
      generalize ns.getD k 0 = d at *
      generalize hA : c :: putN (ns.take k) = A at *
      have HA := Lib.hid hA
      clear hA
      go_wp2_with fail
      refine (HB.out _).mono ?_
      rintro e w1 ⟨rfl, b1⟩
      go_wp2_with fail
      go_roundw
      case rel => exact ⟨k + 1, by omega, by go_num, by rw [HT.out, ← List.cons_append, HA.out, str_add], btP hb b1⟩
      case measure => simp [intOf]; omega
    · obtain rfl : k = 3 := by omega
      go_wp2_with fail
      go_ret
      exact ⟨by rw [List.take_of_length_le (by rw [HL.out]; exact Nat.le_refl _)]; rfl, hb⟩
def akVal (a : Ak) : Value := .agg #[.int .i64 a.ho, .int .i64 a.fi, .int .i64 a.ne]
def boxA (a : Ak) : Obj := .cells #[.int .i64 a.ho, .int .i64 a.fi, .int .i64 a.ne] 26
def encAkV (a : Ak) : Value := if a.ok then .tuple #[.string ⟨a.bytes.toArray⟩, .int .i64 0] else .tuple #[.string ⟨#[]⟩, .int .i64 2]
theorem cells3 {w : World} {g : Nat} {a b c : Value} {t : TypeId} (h : w.heap[g]? = some (.cells #[a, b, c] t (0, 0))) : w.cell? ⟨g, 0, none⟩ = some a ∧ w.cell? ⟨g, 1, none⟩ = some b ∧ w.cell? ⟨g, 2, none⟩ = some c := by
  refine ⟨?_, ?_, ?_⟩ <;> (rw [cell_of_row w g _ _ _ _ h]; rfl)
set_option maxHeartbeats 4000000 in
theorem encodeAck_any (a : Ak) (w : World) (hn : -9223372036854775808 ≤ a.ne ∧ a.ne ≤ 9223372036854775807) :
    Calls Try.prog 12 #[akVal a] w fun e w' => e = .returned (encAkV a) ∧ Below w.heap.size w w' := by
  have c1 := fun W => host_any a.ho W
  have c2 := fun W => record_any a.fi W
  have c3 := fun W => record_any a.ne W
  have b0 := (Below.refl w.heap.size w).alloc (Nat.le_refl _) (boxA a)
  unfold encAkV akVal
  unfold boxA at b0
  have hok : a.ok = (hoOk a.ho && (reOk a.fi && (decide (a.fi ≤ a.ne) && reOk a.ne))) := rfl
  cases h1 : hoOk a.ho with
  | false =>
    rw [hok, h1, Bool.false_and]
    rw [h1] at c1
    simp only [Bool.false_eq_true, if_false]
    have C1 := Lib.hid c1
    clear c1 c2 c3 hok h1
    go_enter Try.func12, Try.ntmps12
    go_wp2_with fail
    refine (C1.out _).mono ?_
    rintro e w1 ⟨rfl, rfl⟩
    go_wp2_with fail
    go_ret2
    exact ⟨rfl, b0⟩
  | true =>
    rw [h1] at c1
    cases h2 : reOk a.fi with
    | false =>
      rw [hok, h1, h2, Bool.true_and, Bool.false_and]
      rw [h2] at c2
      simp only [Bool.false_eq_true, if_false]
      have C1 := Lib.hid c1
      have C2 := Lib.hid c2
      clear c1 c2 c3 hok h1 h2
      go_enter Try.func12, Try.ntmps12
      go_wp2_with fail
      refine (C1.out _).mono ?_
      rintro e w1 ⟨rfl, rfl⟩
      go_wp2_with fail
      refine (C2.out _).mono ?_
      rintro e w1 ⟨rfl, rfl⟩
      go_wp2_with fail
      go_ret2
      exact ⟨rfl, b0⟩
    | true =>
      rw [h2] at c2
      by_cases h3 : a.ne < a.fi
      · rw [hok, h1, h2, decide_eq_false (by omega : ¬ a.fi ≤ a.ne), Bool.true_and, Bool.true_and, Bool.false_and]
        simp only [Bool.false_eq_true, if_false]
        have C1 := Lib.hid c1
        have C2 := Lib.hid c2
        clear c1 c2 c3 hok h1 h2
        go_enter Try.func12, Try.ntmps12
        go_wp2_with fail
        refine (C1.out _).mono ?_
        rintro e w1 ⟨rfl, rfl⟩
        go_wp2_with fail
        refine (C2.out _).mono ?_
        rintro e w1 ⟨rfl, rfl⟩
        go_wp2_with fail
        go_ret2
        exact ⟨rfl, b0⟩
      · have e3 := decide_eq_false h3
        cases h4 : reOk a.ne with
        | false =>
          rw [hok, h1, h2, h4, Bool.and_false, Bool.and_false, Bool.and_false]
          rw [h4] at c3
          simp only [Bool.false_eq_true, if_false]
          have C1 := Lib.hid c1
          have C2 := Lib.hid c2
          have C3 := Lib.hid c3
          clear c1 c2 c3 hok h1 h2 h4
          go_enter Try.func12, Try.ntmps12
          go_wp2_with fail
          refine (C1.out _).mono ?_
          rintro e w1 ⟨rfl, rfl⟩
          go_wp2_with fail
          refine (C2.out _).mono ?_
          rintro e w1 ⟨rfl, rfl⟩
          go_wp2_with fail
          refine (C3.out _).mono ?_
          rintro e w1 ⟨rfl, rfl⟩
          go_wp2_with fail
          go_ret2
          exact ⟨rfl, b0⟩
        | true =>
          have hok2 : a.ok = true := by rw [hok, h1, h2, h4, decide_eq_true (by omega : a.fi ≤ a.ne)]; rfl
          obtain ⟨k1, k2, k3, k4, k5, k6⟩ := okAck hok2
          rw [hok2]
          rw [h4] at c3
          simp only [if_true]
          have C1 := Lib.hid c1
          have C2 := Lib.hid c2
          have C3 := Lib.hid c3
          have n1 : ((a.ho.toNat : Nat) : Int) = a.ho := by omega
          have n2 : ((a.fi.toNat : Nat) : Int) = a.fi := by omega
          have n3 : (((a.ne - a.fi).toNat : Nat) : Int) = a.ne - a.fi := by omega
          have CP : Hid (∀ (W : World) (g : Nat), g < W.heap.size → W.cell? ⟨g, 0, none⟩ = some (.int .i64 a.ho) → W.cell? ⟨g, 1, none⟩ = some (.int .i64 a.fi) → W.cell? ⟨g, 2, none⟩ = some (.int .i64 (a.ne - a.fi)) →
              Calls Try.prog 23 #[.string ⟨#[65]⟩, .slice (some ⟨g, 0, none⟩) 3 3] W fun e w' => e = .returned (.string ⟨a.bytes.toArray⟩) ∧ Below W.heap.size W w') := Lib.hid (fun W g hg z0 z1 z2 => by
            refine puts_any 65 g [a.ho.toNat, a.fi.toNat, (a.ne - a.fi).toNat] W rfl ?_ hg ?_
            · intro i hi
              match i, hi with
              | 0, _ => simp; omega
              | 1, _ => simp; omega
              | 2, _ => simp; omega
            · intro i hi
              match i, hi with
              | 0, _ => rw [z0]; simp [n1]
              | 1, _ => rw [z1]; simp [n2]
              | 2, _ => rw [z2]; simp only [List.getD_cons_succ, List.getD_cons_zero, n3])
          clear c1 c2 c3 hok h1 h2 h4 hok2 n1 n2 n3 hn
          go_enter Try.func12, Try.ntmps12
          go_wp2_with fail
          refine (C1.out _).mono ?_
          rintro e w1 ⟨rfl, rfl⟩
          go_wp2_with fail
          refine (C2.out _).mono ?_
          rintro e w1 ⟨rfl, rfl⟩
          go_wp2_with fail
          refine (C3.out _).mono ?_
          rintro e w1 ⟨rfl, rfl⟩
          go_wp2_with fail
          refine (CP.out _ _ (by simp) (by go_simp) (by go_simp) (by go_simp)).mono ?_
          rintro e w1 ⟨rfl, b1⟩
          go_wp2_with fail
          go_ret2
          exact ⟨rfl, btP (b0.alloc (by simp) _) b1⟩
end Go.Proofs.Ytheeekmhmbkncaa
