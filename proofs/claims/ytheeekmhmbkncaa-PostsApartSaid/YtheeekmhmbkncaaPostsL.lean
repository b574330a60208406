/- The walk of PostsMay. -/
import Derived.Test.YtheeekmhmbkncaaPosts1
import Derived.Test.YtheeekmhmbkncaaPostsK
import Derived.Test.YtheeekmhmbkncaaPostsO
import Derived.Deep.CutRange
namespace Go.Proofs.Ytheeekmhmbkncaa
open Go.RowKit Spoor
set_option linter.unusedVariables false

theorem box_ba_ak (b : Ba) (s : Value) (a : Ak) (w : World) : BaAt w.heap.size b s ((w.alloc (boxB b s)).alloc (boxA a)) ∧ ((w.alloc (boxB b s)).alloc (boxA a)).heap[w.heap.size + 1]? = some (.cells #[.int .i64 a.ho, .int .i64 a.fi, .int .i64 a.ne] 26 (0, 0)) ∧ Below w.heap.size w ((w.alloc (boxB b s)).alloc (boxA a)) := by
  refine ⟨?_, ?_, ((Below.refl _ _).alloc (Nat.le_refl _) _).alloc (by simp) _⟩
  · exact (heap_alloc_old (w.alloc (boxB b s)) _ (by simp)).trans (heap_alloc_new w _)
  · exact heap_new_at _ _ _ (by simp)
theorem encBa_yes {b : Ba} (h : b.ok = true) : encBaV b = .tuple #[.string ⟨b.bytes.toArray⟩, .int .i64 0] := by unfold encBaV; rw [if_pos h]
theorem encBa_no {b : Ba} (h : b.ok = false) : encBaV b = .tuple #[.string ⟨#[]⟩, .int .i64 2] := by unfold encBaV; rw [h]; rfl
theorem encAk_yes {b : Ak} (h : b.ok = true) : encAkV b = .tuple #[.string ⟨b.bytes.toArray⟩, .int .i64 0] := by unfold encAkV; rw [if_pos h]
theorem encAk_no {b : Ak} (h : b.ok = false) : encAkV b = .tuple #[.string ⟨#[]⟩, .int .i64 2] := by unfold encAkV; rw [h]; rfl
theorem all_take_sp (l : List Sp) (k : Nat) (h : k < l.length) : (l.take (k + 1)).all Sp.ok = ((l.take k).all Sp.ok && (l.getD k Sp.zero).ok) := by
  rw [take_sp l k h, List.all_append]
  simp
theorem sl_row {s : Value} {l : List Sp} {w : World} (h : SlS s l w) : ∃ A cap, s = .slice A l.length cap ∧ l.length ≤ cap ∧ cap ≤ maxLen ∧ (0 < l.length → ∃ b o, A = some ⟨b, o, none⟩ ∧ RowS b o l w) := h
/-- may an ack's numbers be: as a chain -/
theorem ak_chain {a : Ak} (h : 0 ≤ a.ho ∧ a.ho ≤ 3 ∧ 0 ≤ a.fi ∧ a.fi ≤ a.ne ∧ a.ne ≤ 2147483647) : a.ok = true := by
  unfold Ak.ok hoOk reOk
  simp only [Bool.and_eq_true, decide_eq_true_eq]
  omega
theorem ak_chain_no {a : Ak} (h : ¬ (0 ≤ a.ho ∧ a.ho ≤ 3 ∧ 0 ≤ a.fi ∧ a.fi ≤ a.ne ∧ a.ne ≤ 2147483647)) : a.ok = false := by
  cases e : a.ok with
  | false => rfl
  | true => have := okAck e; omega
theorem nums_chain {h f : Int} {m : Nat} (k : 0 ≤ h ∧ h ≤ 3 ∧ 0 ≤ f ∧ f ≤ 2147483647 ∧ 1 ≤ (m : Int) ∧ (m : Int) ≤ 8 ∧ f + m ≤ 2147483647) : numsOk h f m = true := by
  unfold numsOk hoOk reOk
  simp only [Bool.and_eq_true, decide_eq_true_eq]
  omega
theorem nums_chain_no {h f : Int} {m : Nat} (k : ¬ (0 ≤ h ∧ h ≤ 3 ∧ 0 ≤ f ∧ f ≤ 2147483647 ∧ 1 ≤ (m : Int) ∧ (m : Int) ≤ 8 ∧ f + m ≤ 2147483647)) : numsOk h f m = false := by
  cases e : numsOk h f m with
  | false => rfl
  | true => have := okNums e; omega
/-- the round's state -/
structure MayAt (W : World) (b : Ba) (x : Value) (a : Ak) (k : Nat) (ok : Bool) (wr : World) : Prop where
  le : k ≤ b.sp.length
  ok' : ok = (numsOk b.ho b.fi b.sp.length && (b.sp.take k).all Sp.ok)
  ba : BaAt W.heap.size b x wr
  ak : wr.heap[W.heap.size + 1]? = some (.cells #[.int .i64 a.ho, .int .i64 a.fi, .int .i64 a.ne] 26 (0, 0))
  sl : SlS x b.sp wr
  bel : Below W.heap.size W wr
theorem MayAt.later {W : World} {b : Ba} {x : Value} {a : Ak} {k : Nat} {ok : Bool} {wr w' : World} (h : MayAt W b x a k ok wr) (hb : Below wr.heap.size wr w') : MayAt W b x a k ok w' :=
  ⟨h.le, h.ok', h.ba.later hb, blk_later h.ak hb, h.sl.later hb, btP h.bel hb⟩
theorem MayAt.step {W : World} {b : Ba} {x : Value} {a : Ak} {k : Nat} {ok : Bool} {wr : World} (h : MayAt W b x a k ok wr) (hk : k < b.sp.length) : MayAt W b x a (k + 1) (ok && (b.sp.getD k Sp.zero).ok) wr :=
  ⟨by omega, by rw [all_take_sp _ _ hk, h.ok', Bool.and_assoc], h.ba, h.ak, h.sl, h.bel⟩
theorem MayAt.done {W : World} {b : Ba} {x : Value} {a : Ak} {ok : Bool} {wr : World} (h : MayAt W b x a b.sp.length ok wr) : ok = b.ok := by
  rw [h.ok', List.take_of_length_le (Nat.le_refl _)]
  rfl
theorem MayAt.no {W : World} {b : Ba} {x : Value} {a : Ak} {k : Nat} {wr : World} (h : MayAt W b x a k false wr) (hk : k < b.sp.length) : MayAt W b x a (k + 1) false wr := by
  have := h.step hk
  rwa [Bool.false_and] at this
set_option maxRecDepth 100000 in
set_option maxHeartbeats 16000000 in
theorem postsMay_law (W : World) (b : Ba) (x : Value) (a : Ak) (hs : SlS x b.sp W) (hn : x = .slice none 0 0 ∨ ∃ ad n c, x = .slice (some ad) n c) (hw : WfB b) (fa : WfA a) :
    Calls Try.prog 6 #[baVal b x, akVal a] W fun e w' => e = .returned (.bool true) ∧ Below W.heap.size W w' := by
  obtain ⟨q1, q2, b1⟩ := box_ba_ak b x a W
  have hs2 := hs.later b1
  have CDO := Lib.hid does12_true
  have cg := fun W (h : SlS x b.sp W) => great12_any b x W h hw
  have cg1 := cg _ hs2
  cases hg : greatBa b.sp with
  | true =>
    rw [hg] at cg1
    have CG := Lib.hid cg1
    have B1 := Lib.hid b1
    obtain ⟨y0, y1, y2⟩ := q1.cell
    clear cg cg1 hg hw hs hs2 q1 q2 b1 hn
    unfold boxB boxA at *
    unfold baVal akVal at *
    go_enter Try.func6, Try.ntmps6
    go_wp2_with fail
    refine CG.out.mono ?_
    rintro e w1 ⟨rfl, b1⟩
    go_wp2_with fail
    go_ret
    exact ⟨rfl, btP B1.out b1⟩
  | false =>
    rw [hg] at cg1
    have CG := Lib.hid cg1
    have hf := greatBa_fits hg
    have hlen := (greatBa_no hg).1
    have ce := fun W (h : SlS x b.sp W) => encodeBatch_any b x W h hf (by omega)
    have ca := fun W => encodeAck_any a W fa.2.2
    have CE := Lib.hid ce
    have CA := Lib.hid ca
    have H0 : Hid (MayAt W b x a 0 (numsOk b.ho b.fi b.sp.length) ((W.alloc (boxB b x)).alloc (boxA a))) := Lib.hid ⟨by omega, by simp, q1, q2, hs2, b1⟩
    have HF := Lib.hid hf
    obtain ⟨y0, y1, y2⟩ := q1.cell
    obtain ⟨A, cap, hx, hc1, hc2, hrow⟩ := sl_row hs
    have HL := Lib.hid hlen
    have fi1 := fa
    clear ce ca cg cg1 hg hw hs hs2 q1 q2 b1 hn hf hlen hrow hc1 hc2 fa
    unfold boxB boxA at *
    unfold baVal akVal at *
    subst hx
    go_enter Try.func6, Try.ntmps6
    go_upto_region 1 with fail
    generalize World.alloc _ _ = w2 at *
    go_wp2_with fail
    refine CG.out.mono ?_
    rintro e w3 ⟨rfl, b3⟩
    have M := Lib.hid (H0.out.later b3)
    have z := (H0.out.later b3).ba.cell
    obtain ⟨y0, y1, y2⟩ := z
    clear H0 CG
    go_upto_region 3 with fail
    clear b3
    obtain ⟨R0, hR0⟩ : ∃ R0, numsOk b.ho b.fi b.sp.length = R0 := ⟨_, rfl⟩
    rw [hR0] at M
    have HR := Lib.hid hR0
    obtain ⟨n, hn⟩ : ∃ n, b.sp.length = n := ⟨_, rfl⟩
    have HN := Lib.hid hn
    rw [hn] at M y2 CE ⊢
    clear hR0 hn
    go_cut [5] (fun v wx => v = .bool R0 ∧ Hid (MayAt W b (.slice A n cap) a 0 R0 wx))
    case first =>
      have HM := HL.out
      rw [HN.out] at HM
      by_cases g0 : (0 : Int) ≤ b.ho
      · skip
        by_cases g1 : b.ho ≤ 3
        · skip
          by_cases g2 : (0 : Int) ≤ b.fi
          · skip
            by_cases g3 : b.fi ≤ 2147483647
            · skip
              by_cases g4 : (1 : Int) ≤ (n : Int)
              · skip
                by_cases g5 : (n : Int) ≤ 8
                · skip
                  by_cases g6 : b.fi + (n : Int) ≤ 2147483647
                  · skip
                    obtain rfl : R0 = true := by rw [← HR.out, HN.out]; exact nums_chain ⟨g0, g1, g2, g3, g4, g5, g6⟩
                    go_wp2_with fail
                    go_meet
                    exact ⟨rfl, M⟩
                  · obtain rfl : R0 = false := by rw [← HR.out, HN.out]; exact nums_chain_no (by omega)
                    have e0 := decide_eq_true g0
                    have e1 := decide_eq_true g1
                    have e2 := decide_eq_true g2
                    have e3 := decide_eq_true g3
                    have e4 := decide_eq_true g4
                    have e5 := decide_eq_true g5
                    have e6 := decide_eq_false g6
                    go_wp2_with fail
                    go_meet
                    exact ⟨rfl, M⟩
                · obtain rfl : R0 = false := by rw [← HR.out, HN.out]; exact nums_chain_no (by omega)
                  have e0 := decide_eq_true g0
                  have e1 := decide_eq_true g1
                  have e2 := decide_eq_true g2
                  have e3 := decide_eq_true g3
                  have e4 := decide_eq_true g4
                  have e5 := decide_eq_false g5
                  go_wp2_with fail
                  go_meet
                  exact ⟨rfl, M⟩
              · obtain rfl : R0 = false := by rw [← HR.out, HN.out]; exact nums_chain_no (by omega)
                have e0 := decide_eq_true g0
                have e1 := decide_eq_true g1
                have e2 := decide_eq_true g2
                have e3 := decide_eq_true g3
                have e4 := decide_eq_false g4
                go_wp2_with fail
                go_meet
                exact ⟨rfl, M⟩
            · obtain rfl : R0 = false := by rw [← HR.out, HN.out]; exact nums_chain_no (by omega)
              have e0 := decide_eq_true g0
              have e1 := decide_eq_true g1
              have e2 := decide_eq_true g2
              have e3 := decide_eq_false g3
              go_wp2_with fail
              go_meet
              exact ⟨rfl, M⟩
          · obtain rfl : R0 = false := by rw [← HR.out, HN.out]; exact nums_chain_no (by omega)
            have e0 := decide_eq_true g0
            have e1 := decide_eq_true g1
            have e2 := decide_eq_false g2
            go_wp2_with fail
            go_meet
            exact ⟨rfl, M⟩
        · obtain rfl : R0 = false := by rw [← HR.out, HN.out]; exact nums_chain_no (by omega)
          have e0 := decide_eq_true g0
          have e1 := decide_eq_false g1
          go_wp2_with fail
          go_meet
          exact ⟨rfl, M⟩
      · obtain rfl : R0 = false := by rw [← HR.out, HN.out]; exact nums_chain_no (by omega)
        have e0 := decide_eq_false g0
        go_wp2_with fail
        go_meet
        exact ⟨rfl, M⟩
    case rest =>
      obtain ⟨rfl, M⟩ := hcut
      clear HR
      go_wp2_with fail
      go_loopw [5, 6] (fun c i wr => ∃ (k : Nat) (ok : Bool), c = .bool ok ∧ i = .int .i64 k ∧ Hid (MayAt W b (.slice A n cap) a k ok wr)) (fun c i _ => n - (intOf i).toNat)
      case atStart => exact ⟨0, _, rfl, rfl, M⟩
      case round =>
        obtain ⟨k, ok, rfl, rfl, M⟩ := hrel
        clear y0 y1 y2
        obtain ⟨y0, y1, y2⟩ := M.out.ba.cell
        by_cases hk : k < n
        · cases ok with
          | false =>
            have M2 := Lib.hid (M.out.no (by rw [HN.out]; exact hk))
            have HL2 := HL.out
            rw [HN.out] at HL2
            clear M
            go_wp2_with fail
            go_roundw
            case rel => exact ⟨k + 1, false, rfl, by go_num, M2⟩
            case measure => simp [intOf]; omega
          | true =>
            obtain ⟨A2, cap2, he, _, hm, hrow0⟩ := M.out.sl
            have hkl : k < b.sp.length := by rw [HN.out]; exact hk
            obtain ⟨bb, o, rfl, hrow⟩ := hrow0 (by omega)
            obtain ⟨rfl, rfl⟩ : A = some ⟨bb, o, none⟩ ∧ cap = cap2 := by injection he with e1 e2 e3; exact ⟨e1, e3⟩
            obtain ⟨x0, x1, x2, x3, x4, x5, x6, x7⟩ := hrow.cells hkl
            have cc := fun W => check_any (b.sp.getD k Sp.zero) W (getS_lt HF.out hkl)
            have M2 := M.out.step hkl
            have HL2 := HL.out
            rw [HN.out] at HL2
            have hc1 : cap ≤ maxLen := hm
            unfold maxLen at hc1
            clear M hrow hrow0 he hkl hm
            generalize b.sp.getD k Sp.zero = c at *
            cases hc : c.ok with
            | true =>
              rw [hc] at M2
              rw [checkV_ok hc] at cc
              unfold spVal at cc
              have CC := Lib.hid cc
              have M3 := Lib.hid M2
              clear cc M2 hc
              go_wp2_with fail
              refine (CC.out _).mono ?_
              rintro e w4 ⟨rfl, b4⟩
              go_wp2_with fail
              go_roundw
              case rel => exact ⟨k + 1, true, rfl, by go_num, Lib.hid (M3.out.later b4)⟩
              case measure => simp [intOf]; omega
            | false =>
              rw [hc] at M2
              rw [checkV_no hc] at cc
              unfold spVal at cc
              have CC := Lib.hid cc
              have M3 := Lib.hid M2
              clear cc M2 hc
              go_wp2_with fail
              refine (CC.out _).mono ?_
              rintro e w4 ⟨rfl, b4⟩
              go_wp2_with fail
              go_roundw
              case rel => exact ⟨k + 1, false, rfl, by go_num, Lib.hid (M3.out.later b4)⟩
              case measure => simp [intOf]; omega
        · obtain rfl : k = n := by have := M.out.le; rw [HN.out] at this; omega
          have hd : ok = b.ok := by have h := M.out; rw [← HN.out] at h; exact h.done
          have HD := Lib.hid hd
          have HSL := Lib.hid M.out.sl
          clear hd HL HF
          go_upto_region 8 with fail
          have ce := CE.out _ M.out.sl
          have KE : Hid (encBaV b = .tuple #[.string ⟨(if ok then b.bytes else []).toArray⟩, .int .i64 (if ok then 0 else 2)]) := Lib.hid (by
            have h := HD.out
            cases ok with
            | true => exact encBa_yes h.symm
            | false => exact encBa_no h.symm)
          rw [KE.out] at ce
          have CE2 := Lib.hid ce
          clear ce CE HSL KE
          obtain ⟨S, hS⟩ : ∃ S : ByteArray, ⟨(if ok then b.bytes else []).toArray⟩ = S := ⟨_, rfl⟩
          rw [hS] at CE2
          obtain ⟨E, hE⟩ : ∃ E : Int, (if ok then 0 else 2) = E := ⟨_, rfl⟩
          rw [hE] at CE2
          have HE := Lib.hid hE
          clear hS hE
          go_wp2_with fail
          refine CE2.out.mono ?_
          rintro e w5 ⟨rfl, b5⟩
          have M5 := M.out.later b5
          obtain ⟨z0, z1, z2⟩ := cells3 M5.ak
          have M := Lib.hid M5
          clear M5 b5 CE2 y0 y1 y2
          go_upto_region 9 with fail
          have ca := CA.out
          clear CA
          by_cases g0 : (0 : Int) ≤ a.ho
          · skip
            by_cases g1 : a.ho ≤ 3
            · skip
              by_cases g2 : (0 : Int) ≤ a.fi
              · skip
                by_cases g3 : a.fi ≤ a.ne
                · skip
                  by_cases g4 : a.ne ≤ 2147483647
                  · skip
                    have hA := ak_chain (a := a) ⟨g0, g1, g2, g3, g4⟩
                    rw [encAk_yes hA] at ca
                    have CA2 := Lib.hid ca
                    clear ca hA
                    have e0 := decide_eq_true g0
                    have e1 := decide_eq_true g1
                    have e2 := decide_eq_true g2
                    have e3 := decide_eq_true g3
                    have e4 := decide_eq_true g4
                    obtain ⟨t0, ht0⟩ : ∃ t : ByteArray, (⟨a.bytes.toArray⟩ : ByteArray) = t := ⟨_, rfl⟩
                    rw [ht0] at CA2
                    clear ht0
                    go_wp2_with fail
                    refine (CA2.out _).mono ?_
                    rintro e w6 ⟨rfl, b6⟩
                    have M6 := M.out.later b6
                    obtain ⟨z0, z1, z2⟩ := cells3 M6.ak
                    have B6 := Lib.hid M6.bel
                    clear b6 M6 CA2 M
                    cases ok with
                    | true =>
                      obtain rfl : E = 0 := by have h := HE.out; simpa using h.symm
                      go_wp2_with fail
                      refine (CDO.out _).mono ?_
                      rintro e w7 ⟨rfl, b7⟩
                      go_wp2_with fail
                      go_ret
                      exact ⟨rfl, btP B6.out b7⟩
                    | false =>
                      obtain rfl : E = 2 := by have h := HE.out; simpa using h.symm
                      go_wp2_with fail
                      refine (CDO.out _).mono ?_
                      rintro e w7 ⟨rfl, b7⟩
                      go_wp2_with fail
                      go_ret
                      exact ⟨rfl, btP B6.out b7⟩
                  · have hA := ak_chain_no (a := a) (by omega)
                    rw [encAk_no hA] at ca
                    have CA2 := Lib.hid ca
                    clear ca hA
                    have e0 := decide_eq_true g0
                    have e1 := decide_eq_true g1
                    have e2 := decide_eq_true g2
                    have e3 := decide_eq_true g3
                    have e4 := decide_eq_false g4
                    obtain ⟨t0, ht0⟩ : ∃ t : ByteArray, (⟨#[]⟩ : ByteArray) = t := ⟨_, rfl⟩
                    rw [ht0] at CA2
                    clear ht0
                    go_wp2_with fail
                    refine (CA2.out _).mono ?_
                    rintro e w6 ⟨rfl, b6⟩
                    have M6 := M.out.later b6
                    obtain ⟨z0, z1, z2⟩ := cells3 M6.ak
                    have B6 := Lib.hid M6.bel
                    clear b6 M6 CA2 M
                    cases ok with
                    | true =>
                      obtain rfl : E = 0 := by have h := HE.out; simpa using h.symm
                      go_wp2_with fail
                      refine (CDO.out _).mono ?_
                      rintro e w7 ⟨rfl, b7⟩
                      go_wp2_with fail
                      go_ret
                      exact ⟨rfl, btP B6.out b7⟩
                    | false =>
                      obtain rfl : E = 2 := by have h := HE.out; simpa using h.symm
                      go_wp2_with fail
                      refine (CDO.out _).mono ?_
                      rintro e w7 ⟨rfl, b7⟩
                      go_wp2_with fail
                      go_ret
                      exact ⟨rfl, btP B6.out b7⟩
                · have hA := ak_chain_no (a := a) (by omega)
                  rw [encAk_no hA] at ca
                  have CA2 := Lib.hid ca
                  clear ca hA
                  have e0 := decide_eq_true g0
                  have e1 := decide_eq_true g1
                  have e2 := decide_eq_true g2
                  have e3 := decide_eq_false g3
                  obtain ⟨t0, ht0⟩ : ∃ t : ByteArray, (⟨#[]⟩ : ByteArray) = t := ⟨_, rfl⟩
                  rw [ht0] at CA2
                  clear ht0
                  go_wp2_with fail
                  refine (CA2.out _).mono ?_
                  rintro e w6 ⟨rfl, b6⟩
                  have M6 := M.out.later b6
                  obtain ⟨z0, z1, z2⟩ := cells3 M6.ak
                  have B6 := Lib.hid M6.bel
                  clear b6 M6 CA2 M
                  cases ok with
                  | true =>
                    obtain rfl : E = 0 := by have h := HE.out; simpa using h.symm
                    go_wp2_with fail
                    refine (CDO.out _).mono ?_
                    rintro e w7 ⟨rfl, b7⟩
                    go_wp2_with fail
                    go_ret
                    exact ⟨rfl, btP B6.out b7⟩
                  | false =>
                    obtain rfl : E = 2 := by have h := HE.out; simpa using h.symm
                    go_wp2_with fail
                    refine (CDO.out _).mono ?_
                    rintro e w7 ⟨rfl, b7⟩
                    go_wp2_with fail
                    go_ret
                    exact ⟨rfl, btP B6.out b7⟩
              · have hA := ak_chain_no (a := a) (by omega)
                rw [encAk_no hA] at ca
                have CA2 := Lib.hid ca
                clear ca hA
                have e0 := decide_eq_true g0
                have e1 := decide_eq_true g1
                have e2 := decide_eq_false g2
                obtain ⟨t0, ht0⟩ : ∃ t : ByteArray, (⟨#[]⟩ : ByteArray) = t := ⟨_, rfl⟩
                rw [ht0] at CA2
                clear ht0
                go_wp2_with fail
                refine (CA2.out _).mono ?_
                rintro e w6 ⟨rfl, b6⟩
                have M6 := M.out.later b6
                obtain ⟨z0, z1, z2⟩ := cells3 M6.ak
                have B6 := Lib.hid M6.bel
                clear b6 M6 CA2 M
                cases ok with
                | true =>
                  obtain rfl : E = 0 := by have h := HE.out; simpa using h.symm
                  go_wp2_with fail
                  refine (CDO.out _).mono ?_
                  rintro e w7 ⟨rfl, b7⟩
                  go_wp2_with fail
                  go_ret
                  exact ⟨rfl, btP B6.out b7⟩
                | false =>
                  obtain rfl : E = 2 := by have h := HE.out; simpa using h.symm
                  go_wp2_with fail
                  refine (CDO.out _).mono ?_
                  rintro e w7 ⟨rfl, b7⟩
                  go_wp2_with fail
                  go_ret
                  exact ⟨rfl, btP B6.out b7⟩
            · have hA := ak_chain_no (a := a) (by omega)
              rw [encAk_no hA] at ca
              have CA2 := Lib.hid ca
              clear ca hA
              have e0 := decide_eq_true g0
              have e1 := decide_eq_false g1
              obtain ⟨t0, ht0⟩ : ∃ t : ByteArray, (⟨#[]⟩ : ByteArray) = t := ⟨_, rfl⟩
              rw [ht0] at CA2
              clear ht0
              go_wp2_with fail
              refine (CA2.out _).mono ?_
              rintro e w6 ⟨rfl, b6⟩
              have M6 := M.out.later b6
              obtain ⟨z0, z1, z2⟩ := cells3 M6.ak
              have B6 := Lib.hid M6.bel
              clear b6 M6 CA2 M
              cases ok with
              | true =>
                obtain rfl : E = 0 := by have h := HE.out; simpa using h.symm
                go_wp2_with fail
                refine (CDO.out _).mono ?_
                rintro e w7 ⟨rfl, b7⟩
                go_wp2_with fail
                go_ret
                exact ⟨rfl, btP B6.out b7⟩
              | false =>
                obtain rfl : E = 2 := by have h := HE.out; simpa using h.symm
                go_wp2_with fail
                refine (CDO.out _).mono ?_
                rintro e w7 ⟨rfl, b7⟩
                go_wp2_with fail
                go_ret
                exact ⟨rfl, btP B6.out b7⟩
          · have hA := ak_chain_no (a := a) (by omega)
            rw [encAk_no hA] at ca
            have CA2 := Lib.hid ca
            clear ca hA
            have e0 := decide_eq_false g0
            obtain ⟨t0, ht0⟩ : ∃ t : ByteArray, (⟨#[]⟩ : ByteArray) = t := ⟨_, rfl⟩
            rw [ht0] at CA2
            clear ht0
            go_wp2_with fail
            refine (CA2.out _).mono ?_
            rintro e w6 ⟨rfl, b6⟩
            have M6 := M.out.later b6
            obtain ⟨z0, z1, z2⟩ := cells3 M6.ak
            have B6 := Lib.hid M6.bel
            clear b6 M6 CA2 M
            cases ok with
            | true =>
              obtain rfl : E = 0 := by have h := HE.out; simpa using h.symm
              go_wp2_with fail
              refine (CDO.out _).mono ?_
              rintro e w7 ⟨rfl, b7⟩
              go_wp2_with fail
              go_ret
              exact ⟨rfl, btP B6.out b7⟩
            | false =>
              obtain rfl : E = 2 := by have h := HE.out; simpa using h.symm
              go_wp2_with fail
              refine (CDO.out _).mono ?_
              rintro e w7 ⟨rfl, b7⟩
              go_wp2_with fail
              go_ret
              exact ⟨rfl, btP B6.out b7⟩
end Go.Proofs.Ytheeekmhmbkncaa
