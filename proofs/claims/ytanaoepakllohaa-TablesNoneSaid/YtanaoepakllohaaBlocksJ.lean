/- The walks of the document's Decode and Find. -/
import Derived.Test.YtanaoepakllohaaBlocksI
namespace Go.Proofs.Ytanaoepakllohaa
set_option maxRecDepth 16000
open Go.RowKit Spoor

theorem refGetN_any (s : List UInt8) (n : Nat) (W : World) (hs : s.length ≤ 140737488351232) :
    Calls Try.prog 53 #[.string ⟨s.toArray⟩, .int .i64 n] W fun e w' => e = .returned (getV n (get (s.drop n))) ∧ Below W.heap.size W w' := by
  have := refGet_any ⟨s.toArray⟩ (n : Int) W (by rw [size_of]; unfold maxLen; omega)
  simp only [getAt_nat] at this
  exact this
theorem refGetTextN_any (s : List UInt8) (n : Nat) (W : World) (hs : s.length ≤ 140737488351232) :
    Calls Try.prog 54 #[.string ⟨s.toArray⟩, .int .i64 n] W fun e w' => e = .returned (getTextV n (getText (s.drop n))) ∧ Below W.heap.size W w' := by
  have := refGetText_any ⟨s.toArray⟩ (n : Int) W (by rw [size_of]; unfold maxLen; omega)
  simp only [getTextAt_nat] at this
  exact this
def refFin (s : List UInt8) (acc : List Ce) : Option (List Ce × Nat) → Option (List Ce)
  | none => none
  | some (l, _) => if encB (acc ++ l) = some s then some (acc ++ l) else none
theorem refEach_step {s : List UInt8} {m at' : Nat} {p : Option Ce} {c : Ce} {nx : Nat} (h : cellAt false s at' (lastKey p) = some (c, nx)) (acc : List Ce) :
    refFin s acc (refEach s (m + 1) at' p) = refFin s (acc ++ [c]) (refEach s m nx (some c)) := by
  simp only [refEach, h]
  cases refEach s m nx (some c) with
  | none => rfl
  | some r => obtain ⟨l, a⟩ := r; simp [refFin]
theorem refEach_no {s : List UInt8} {m at' : Nat} {p : Option Ce} (acc : List Ce) (h : cellAt false s at' (lastKey p) = none) : refFin s acc (refEach s (m + 1) at' p) = none := by
  simp only [refEach, h]; rfl
structure RefAt (s : List UInt8) (many : Nat) (w : World) (k at' : Nat) (p : Option Ce) (v : Value) (acc : List Ce) (wr : World) : Prop where
  le : k ≤ many
  atLe : at' ≤ s.length
  kLe : k ≤ at'
  len : acc.length = k
  key : (lastKey p).length ≤ at'
  fits : ∀ c ∈ acc, FitsC c
  own : wr.ownsRow w.heap.size 36 3 v acc.length (rowOf acc)
  below : Below w.heap.size w wr
  dec : decB s = refFin s acc (refEach s (many - k) at' p)
theorem own_later {w w' : World} {base n : Nat} {v : Value} {xs : List Value} {e : TypeId} (h : w.ownsRow base e 3 v n xs) (hb : Below w.heap.size w w') : w'.ownsRow base e 3 v n xs :=
  h.kept (row := none) ⟨hb.os, hb.tape, hb.output, hb.size, fun k hk _ => hb.block k hk⟩ (by cases h : v.ownBlock <;> simp)
theorem RefAt.later {s : List UInt8} {many : Nat} {w : World} {k at' : Nat} {p : Option Ce} {v : Value} {acc : List Ce} {wr w' : World} (h : RefAt s many w k at' p v acc wr) (hb : Below wr.heap.size wr w') : RefAt s many w k at' p v acc w' :=
  ⟨h.le, h.atLe, h.kLe, h.len, h.key, h.fits, own_later h.own hb, h.below.trans (hb.mono h.below.size), h.dec⟩
set_option maxRecDepth 100000 in
set_option maxHeartbeats 16000000 in
theorem refDecodeB_any (s : List UInt8) (w : World) (hs : s.length ≤ 1000000000) : Calls Try.prog 55 #[.string ⟨s.toArray⟩] w (DecEx s w) := by
  have cg := fun W => refGetN_any s 0 W (by omega)
  rw [List.drop_zero] at cg
  simp only [Int.natCast_zero] at cg
  have CG := Lib.hid cg
  clear cg
  have hde := refDec_eq s
  obtain ⟨i0, hi, hz0, hz1, hz2⟩ := info_parts info_ce
  cases e1 : get s with
  | none =>
    have hd : decB s = none := by unfold decB; rw [e1]
    rw [e1] at CG
    unfold getV at CG
    have HD := Lib.hid hd
    clear e1 hd hde
    go_enter Try.func55, Try.ntmps55
    go_wp2_with fail
    refine (CG.out _).mono ?_
    rintro e w1 ⟨rfl, b1⟩
    go_wp2_with fail
    go_ret2
    exact ⟨b1, .inl ⟨HD.out, rfl⟩⟩
  | some r1 =>
    obtain ⟨many, k1⟩ := r1
    obtain ⟨g0, _, gk, gn, _⟩ := get_some e1
    have hd : decB s = refFin s [] (refEach s many k1 none) := by
      rw [← hde]; unfold refDec; rw [e1]; simp only
      cases refEach s many k1 none with
      | none => rfl
      | some r => obtain ⟨l, a⟩ := r; simp [refFin]
    rw [e1] at CG
    unfold getV at CG
    have E0 : RefAt s many w 0 k1 none (.slice none 0 0) [] w := ⟨by omega, gk, by omega, rfl, by simp [lastKey], by simp, World.ownsRow_nil _ _ _ _, Below.refl _ _, hd⟩
    obtain ⟨D, hD⟩ : ∃ D, decB s = D := ⟨_, rfl⟩
    have HDD := Lib.hid hD
    clear e1 hd hD hde
    go_enter Try.func55, Try.ntmps55
    go_wp2_with fail
    refine (CG.out _).mono ?_
    rintro e w1 ⟨rfl, b1⟩
    have E1 := E0.later b1
    clear E0 b1
    go_wp2_with fail
    go_loopw [5, 7, 8, 9] (fun a l t i wr => ∃ (k at' : Nat) (p : Option Ce) (acc : List Ce), a = .int .i64 at' ∧ i = .int .i64 k ∧ t = .string ⟨(lastKey p).toArray⟩ ∧ RefAt s many w k at' p l acc wr) (fun _ _ _ i _ => many - (intOf i).toNat)
    case atStart => exact ⟨0, k1, none, [], by simp, rfl, rfl, E1⟩
    case round =>
      clear E1
      obtain ⟨k, at', p, acc, rfl, rfl, rfl, E⟩ := hrel
      generalize u7 = v at *
      by_cases hlt : k < many
      · have hd := E.dec
        obtain ⟨j, hj⟩ : ∃ j, many - k = j + 1 := ⟨many - k - 1, by omega⟩
        rw [hj] at hd
        have HJ := Lib.hid hj
        have HD2 := Lib.hid hd
        have hkey := E.key
        have hat := E.atLe
        clear hj hd
        have c1 := fun W => refGetN_any s at' W (by omega)
        have hcv : cellAt false s at' (lastKey p) = cellAt false s at' (lastKey p) := rfl
        unfold cellAt at hcv
        have HCV : Hid (∀ r, cellAt false s at' (lastKey p) = r → True) := Lib.hid (fun _ _ => trivial)
        clear hcv HCV
        have HNO : Hid (cellAt false s at' (lastKey p) = none → D = none) := Lib.hid (fun h => by rw [← HDD.out, HD2.out]; exact refEach_no acc h)
        generalize hlast : lastKey p = last at *
        have HLAST := Lib.hid hlast
        clear hlast
        cases e2 : get (s.drop at') with
        | none =>
          have HN := Lib.hid (HNO.out (by unfold cellAt; rw [e2]))
          rw [e2] at c1
          unfold getV at c1
          have C1 := Lib.hid c1
          clear c1 e2
          go_wp2_with fail
          refine (C1.out _).mono ?_
          rintro e w2 ⟨rfl, b2⟩
          have E := E.later b2
          clear b2
          go_wp2_with fail
          go_ret2
          exact ⟨E.below, .inl ⟨HDD.out.trans HN.out, rfl⟩⟩
        | some r2 =>
          obtain ⟨n, k2⟩ := r2
          obtain ⟨_, _, gk2, gn2, _⟩ := get_some e2
          rw [List.length_drop] at gk2
          rw [e2] at c1
          unfold getV at c1
          have C1 := Lib.hid c1
          clear c1
          by_cases hn : last.length < n
          · have HN := Lib.hid (HNO.out (by unfold cellAt; rw [e2]; simp only; rw [if_pos hn]))
            have hn1 : (last.length : Int) < (n : Int) := by omega
            clear e2
            go_wp2_with fail
            refine (C1.out _).mono ?_
            rintro e w2 ⟨rfl, b2⟩
            have E := E.later b2
            clear b2
            go_wp2_with fail
            go_ret2
            exact ⟨E.below, .inl ⟨HDD.out.trans HN.out, rfl⟩⟩
          · have hn1 : decide ((last.length : Int) < (n : Int)) = false := decide_eq_false (by omega)
            have hn2 : decide (last.length < n) = false := decide_eq_false (by omega)
            have c2 := fun W => refGetTextN_any s (at' + k2) W (by omega)
            cases e3 : getText (s.drop (at' + k2)) with
            | none =>
              have HN := Lib.hid (HNO.out (by unfold cellAt; rw [e2]; simp only; rw [if_neg hn, e3]))
              rw [e3] at c2
              unfold getTextV at c2
              have C2 := Lib.hid c2
              clear c2 e2 e3
              go_wp2_with fail
              refine (C1.out _).mono ?_
              rintro e w2 ⟨rfl, b2⟩
              have E := E.later b2
              clear b2
              go_wp2_with fail
              refine (C2.out _).mono ?_
              rintro e w3 ⟨rfl, b3⟩
              have E := E.later b3
              clear b3
              go_wp2_with fail
              go_ret2
              exact ⟨E.below, .inl ⟨HDD.out.trans HN.out, rfl⟩⟩
            | some r3 =>
              obtain ⟨rest, k3⟩ := r3
              obtain ⟨gk3, gl3, _⟩ := getText_some e3
              rw [List.length_drop] at gk3
              rw [e3] at c2
              unfold getTextV at c2
              have C2 := Lib.hid c2
              have c3 := fun W => refGetN_any s (at' + k2 + k3) W (by omega)
              clear c2
              cases e4 : get (s.drop (at' + k2 + k3)) with
              | none =>
                have HN := Lib.hid (HNO.out (by unfold cellAt; rw [e2]; simp only; rw [if_neg hn, e3]; simp [e4]))
                rw [e4] at c3
                unfold getV at c3
                have C3 := Lib.hid c3
                clear c3 e2 e3 e4
                go_wp2_with fail
                refine (C1.out _).mono ?_
                rintro e w2 ⟨rfl, b2⟩
                have E := E.later b2
                clear b2
                go_wp2_with fail
                refine (C2.out _).mono ?_
                rintro e w3 ⟨rfl, b3⟩
                have E := E.later b3
                clear b3
                go_wp2_with fail
                refine (C3.out _).mono ?_
                rintro e w4 ⟨rfl, b4⟩
                have E := E.later b4
                clear b4
                go_wp2_with fail
                go_ret2
                exact ⟨E.below, .inl ⟨HDD.out.trans HN.out, rfl⟩⟩
              | some r4 =>
                obtain ⟨q, k4⟩ := r4
                obtain ⟨_, _, gk4, gn4, _⟩ := get_some e4
                rw [List.length_drop] at gk4
                rw [e4] at c3
                unfold getV at c3
                have C3 := Lib.hid c3
                have c4 := fun W => refGetTextN_any s (at' + k2 + k3 + k4) W (by omega)
                clear c3
                cases e5 : getText (s.drop (at' + k2 + k3 + k4)) with
                | none =>
                  have HN := Lib.hid (HNO.out (by unfold cellAt; rw [e2]; simp only; rw [if_neg hn, e3]; simp [e4, e5]))
                  rw [e5] at c4
                  unfold getTextV at c4
                  have C4 := Lib.hid c4
                  clear c4 e2 e3 e4 e5
                  go_wp2_with fail
                  refine (C1.out _).mono ?_
                  rintro e w2 ⟨rfl, b2⟩
                  have E := E.later b2
                  clear b2
                  go_wp2_with fail
                  refine (C2.out _).mono ?_
                  rintro e w3 ⟨rfl, b3⟩
                  have E := E.later b3
                  clear b3
                  go_wp2_with fail
                  refine (C3.out _).mono ?_
                  rintro e w4 ⟨rfl, b4⟩
                  have E := E.later b4
                  clear b4
                  go_wp2_with fail
                  refine (C4.out _).mono ?_
                  rintro e w5 ⟨rfl, b5⟩
                  have E := E.later b5
                  clear b5
                  go_wp2_with fail
                  go_ret2
                  exact ⟨E.below, .inl ⟨HDD.out.trans HN.out, rfl⟩⟩
                | some r5 =>
                  obtain ⟨x, k5⟩ := r5
                  obtain ⟨gk5, gl5, _⟩ := getText_some e5
                  rw [List.length_drop] at gk5
                  have hcell : cellAt false s at' last = some (⟨last.take n ++ rest, (q : Int), x⟩, at' + k2 + k3 + k4 + k5) := by unfold cellAt; rw [e2]; simp only; rw [if_neg hn, e3]; simp [e4, e5]
                  have HCELL := Lib.hid hcell
                  rw [e5] at c4
                  unfold getTextV at c4
                  have C4 := Lib.hid c4
                  have hsl := fun W => strTo last n (n : Int) rfl (by omega) W
                  have hlt2 : (last.take n).length ≤ at' := by rw [List.length_take]; omega
                  have hsa := strAdd (last.take n) rest
                  have hll : (last.take n ++ rest).length ≤ at' + k3 := by rw [List.length_append]; omega
                  clear c4 e2 e3 e4 e5 hcell
                  generalize hkk : last.take n ++ rest = kk at *
                  have HKK := Lib.hid hkk
                  clear hkk
                  generalize last.take n = tk at *
                  go_wp2_with fail
                  refine (C1.out _).mono ?_
                  rintro e w2 ⟨rfl, b2⟩
                  have E := E.later b2
                  clear b2
                  go_wp2_with fail
                  refine (C2.out _).mono ?_
                  rintro e w3 ⟨rfl, b3⟩
                  have E := E.later b3
                  clear b3
                  go_wp2_with fail
                  refine (C3.out _).mono ?_
                  rintro e w4 ⟨rfl, b4⟩
                  have E := E.later b4
                  clear b4
                  go_wp2_with fail
                  refine (C4.out _).mono ?_
                  rintro e w5 ⟨rfl, b5⟩
                  have E := E.later b5
                  clear b5
                  have own := E.own
                  have hbs := E.below.size
                  have hln := E.len
                  have hkl := E.kLe
                  have hbd : (acc.length + 1) * 40 ≤ 140737488355328 := by omega
                  have hmax : acc.length + 1 ≤ maxLen := by unfold maxLen; omega
                  clear hln
                  go_wp2_with (at_builtin; refine wpList_append_own _ rfl _ _ 22 rfl w.heap.size 36 i0 (.agg #[.string ⟨#[]⟩, .int .i64 0, .string ⟨#[]⟩]) 3 40 Try.underlying22 hi hz0 hz1 hz2 rfl (by decide) v acc.length (rowOf acc) rfl (own.alloc _) ⟨w5.heap.size, 0, none⟩ 1 1 (ceRow ⟨kk, (q : Int), x⟩) rfl rfl ?c1 ?c2 hmax hbd ?c5 ?_)
                  case c1 =>
                    have q3 := CeAt.boxed ⟨kk, (q : Int), x⟩ w5
                    unfold boxC at q3
                    intro j u hj
                    rw [Addr.add_lit, Nat.zero_add]
                    obtain ⟨r0, r1, r2⟩ := q3.cell
                    match j, hj with
                    | 0, hj => simp only [ceRow, List.getElem?_cons_zero, Option.some.injEq] at hj; subst hj; exact r0
                    | 1, hj => simp only [ceRow, List.getElem?_cons_succ, List.getElem?_cons_zero, Option.some.injEq] at hj; subst hj; exact r1
                    | 2, hj => simp only [ceRow, List.getElem?_cons_succ, List.getElem?_cons_zero, Option.some.injEq] at hj; subst hj; exact r2
                    | j + 3, hj => simp [ceRow] at hj
                  case c2 =>
                    intro u hu
                    simp only [ceRow, List.mem_cons, List.not_mem_nil, or_false] at hu
                    rcases hu with rfl | rfl | rfl <;> rfl
                  case c5 => simp; omega
                  intro v2 w6 own2 gr _
                  have B6 : Below w.heap.size w w6 := Below.grown (w := w5.alloc _) (E.below.alloc hbs _) gr (by simp; omega) (fun k hk => (own.lt k hk).1)
                  have F : RefAt s many w (k + 1) (at' + k2 + k3 + k4 + k5) (some ⟨kk, (q : Int), x⟩) v2 (acc ++ [⟨kk, (q : Int), x⟩]) w6 := by
                    refine ⟨by omega, by omega, by omega, by rw [List.length_append, E.len]; rfl, by simp only [lastKey]; omega, ?_, by rw [rowOf_snoc, List.length_append]; exact own2, B6, ?_⟩
                    · intro d hd
                      rcases List.mem_append.1 hd with hd | hd
                      · exact E.fits d hd
                      · simp only [List.mem_cons, List.not_mem_nil, or_false] at hd
                        subst hd
                        exact ⟨by simp only; omega, by simp only; omega, by simp only; omega⟩
                    · have : many - (k + 1) = j := by have := HJ.out; omega
                      have hc := HCELL.out
                      rw [← HLAST.out] at hc
                      rw [this, ← refEach_step hc acc]
                      exact HD2.out
                  clear gr own2 own B6 E hsa hsl
                  go_wp2_with fail
                  go_roundw
                  case rel => exact ⟨k + 1, at' + k2 + k3 + k4 + k5, some ⟨kk, (q : Int), x⟩, acc ++ [⟨kk, (q : Int), x⟩], by go_num, by go_num, rfl, F⟩
                  case measure => simp [intOf]; omega
      · obtain rfl : k = many := by have := E.le; omega
        have hd := E.dec
        rw [Nat.sub_self] at hd
        simp only [refEach, refFin, List.append_nil] at hd
        have hsl := slAt_own E.own
        have hlen : sortedB acc = true → (blockB acc).length ≤ 140737488355328 := fun h => by
          have := blockB_len h (fun c hc => (E.fits c hc).2.2) (by have := E.len; have := E.kLe; have := E.atLe; omega)
          have := E.len; have := E.kLe; have := E.atLe
          omega
        have ce := refEncode_c v acc wr hsl E.fits hlen
        unfold encV at ce
        unfold encB at hd
        have HE := Lib.hid E
        clear hlen hsl E
        cases hso : sortedB acc with
        | false =>
          rw [hso] at ce hd
          simp only [Bool.false_eq_true, if_false] at ce hd
          rw [if_neg (by simp)] at hd
          have HN := Lib.hid (HDD.out.symm.trans hd)
          have CE := Lib.hid ce
          clear ce hd hso
          go_wp2_with fail
          refine CE.out.mono ?_
          rintro e w7 ⟨rfl, b7⟩
          go_wp2_with fail
          go_ret2
          exact ⟨HE.out.below.trans (b7.mono HE.out.below.size), .inl ⟨HDD.out.trans HN.out, rfl⟩⟩
        | true =>
          rw [hso] at ce hd
          simp only [if_true, Option.some.injEq] at ce hd
          have CE := Lib.hid ce
          clear ce hso
          cases hbs : (blockB acc == s) with
          | false =>
            rw [if_neg (by simpa using hbs)] at hd
            have HN := Lib.hid (HDD.out.symm.trans hd)
            have hbn : (blockB acc != s) = true := by simp [bne, hbs]
            clear hd
            generalize blockB acc = bb at *
            go_wp2_with fail
            refine CE.out.mono ?_
            rintro e w7 ⟨rfl, b7⟩
            go_wp2_with fail
            go_ret2
            exact ⟨HE.out.below.trans (b7.mono HE.out.below.size), .inl ⟨HDD.out.trans HN.out, rfl⟩⟩
          | true =>
            have hbe : blockB acc = s := by simpa using hbs
            rw [if_pos hbe] at hd
            have HN := Lib.hid (HDD.out.symm.trans hd)
            have hbn : (s != s) = false := by simp
            rw [hbe] at CE
            clear hd hbe hbs
            go_wp2_with fail
            refine CE.out.mono ?_
            rintro e w7 ⟨rfl, b7⟩
            go_wp2_with fail
            go_ret2
            exact ⟨HE.out.below.trans (b7.mono HE.out.below.size), .inr ⟨acc, v, HDD.out.trans HN.out, rfl, own_later HE.out.own b7⟩⟩
end Go.Proofs.Ytanaoepakllohaa
