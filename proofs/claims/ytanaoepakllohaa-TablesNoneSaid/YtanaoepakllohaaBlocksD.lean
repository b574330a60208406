/- The walk of Encode. -/
import Derived.Test.YtanaoepakllohaaBlocksC
import Derived.Test.YtanaoepakllohaaOwnT
set_option linter.unusedSimpArgs false
set_option linter.unusedVariables false
namespace Go.Proofs.Ytanaoepakllohaa
set_option maxRecDepth 16000
open Go.RowKit Spoor

theorem strFrom (l : List UInt8) (i : Nat) (I : Int) (hI : I = i) (h : i ≤ l.length) (W : World) :
    (Instr.slice 9 (.string ⟨l.toArray⟩) (some (.int .i64 I)) none none).run Try.prog W = .ok (.string ⟨(l.drop i).toArray⟩) W := by
  subst hI
  go_simp
  rw [extract_bytes]
  simp [List.take_of_length_le]
theorem CeAt.grown {g : Nat} {c : Ce} {w w' : World} {base : Nat} {v : Value} {bs : List UInt8} (h : CeAt g c w) (own : w.ownsT base 5 v bs) (hg : w.grownBy w' v.ownBlock) : CeAt g c w' := by
  unfold CeAt
  rw [hg.block g h.lt ?_]
  · exact h
  · obtain ⟨b, cap, cur, fz, rfl, _, hb, _⟩ := own
    intro e
    simp only [Value.ownBlock, Option.some.injEq] at e
    subst e
    rw [h] at hb
    simp only [Option.some.injEq, Obj.cells.injEq] at hb
    exact absurd hb.2.1 (by decide)
theorem four_index (p0 p1 p2 p3 : List UInt8) (W : World) :
    (Instr.index 95 (.agg #[.string ⟨p0.toArray⟩, .string ⟨p1.toArray⟩, .string ⟨p2.toArray⟩, .string ⟨p3.toArray⟩]) (.int .i64 0)).run Try.prog W = .ok (.string ⟨p0.toArray⟩) W ∧
    (Instr.index 95 (.agg #[.string ⟨p0.toArray⟩, .string ⟨p1.toArray⟩, .string ⟨p2.toArray⟩, .string ⟨p3.toArray⟩]) (.int .i64 1)).run Try.prog W = .ok (.string ⟨p1.toArray⟩) W ∧
    (Instr.index 95 (.agg #[.string ⟨p0.toArray⟩, .string ⟨p1.toArray⟩, .string ⟨p2.toArray⟩, .string ⟨p3.toArray⟩]) (.int .i64 2)).run Try.prog W = .ok (.string ⟨p2.toArray⟩) W ∧
    (Instr.index 95 (.agg #[.string ⟨p0.toArray⟩, .string ⟨p1.toArray⟩, .string ⟨p2.toArray⟩, .string ⟨p3.toArray⟩]) (.int .i64 3)).run Try.prog W = .ok (.string ⟨p3.toArray⟩) W := by
  refine ⟨?_, ?_, ?_, ?_⟩ <;> kernel_rfl
set_option maxHeartbeats 4000000 in
theorem encodeB_any (s : Value) (l : List Ce) (w : World) (hs : SlAt s l w) (hf : ∀ c ∈ l, FitsC c) (hso : sortedB l = true) (hlen : (blockB l).length ≤ 140737488355328) :
    Calls Try.prog 31 #[s] w fun e w' => e = .returned (.tuple #[.string ⟨(blockB l).toArray⟩, .int .i64 0]) ∧ Below w.heap.size w w' := by
  have cs := sortedC_any s l w hs hf
  rw [hso] at cs
  have CS := Lib.hid cs
  obtain ⟨A, cap, rfl, h1, h2, h3⟩ := hs
  unfold maxLen at h2
  have H3 := Lib.hid h3
  have HF := Lib.hid hf
  have HM := Lib.hid (sorted_may hso)
  obtain ⟨n, hn⟩ : ∃ n, l.length = n := ⟨_, rfl⟩
  have HN := Lib.hid hn
  have hn63 : n ≤ 9223372036854775807 := by omega
  rw [hn] at h1 CS ⊢
  have HL := Lib.hid hlen
  have cp := fun W => put_nat n W hn63
  have CP := Lib.hid cp
  have hpl := put_length9 n hn63
  have kc := fun W => run_bytes_T (P := Try.prog) W 9 60 5 (put n) Try.underlying9 Try.underlying60 Try.underlying5 (by unfold maxLen; omega)
  have KC := Lib.hid kc
  clear cs h3 hf hn hso hlen cp hpl kc
  go_enter Try.func31, Try.ntmps31
  go_wp2_with fail
  refine CS.out.mono ?_
  rintro e w1 ⟨rfl, b1⟩
  go_wp2_with fail
  refine (CP.out _).mono ?_
  rintro e w2 ⟨rfl, b2⟩
  have B := btB b1 b2
  obtain ⟨v0, w3, kr, own, b3⟩ := KC.out w2
  obtain ⟨i0, hi, hz0, hz1, hz2⟩ := info_parts info_u8
  go_wp2_with fail
  clear kr
  have own := own.mono B.size
  have B := btB B b3
  have hs0 : w.heap.size ≤ w3.heap.size := B.size
  go_loopw [4, 5, 20] (fun v s i wr => ∃ k : Nat, k ≤ n ∧ i = .int .i64 k ∧ s = .string ⟨(lastKey (prevOf l k)).toArray⟩ ∧ wr.ownsT w.heap.size 5 v (put n ++ bodyB none (l.take k)) ∧ Below w.heap.size w wr) (fun _ _ i _ => n - (intOf i).toNat)
  case atStart => exact ⟨0, by omega, rfl, rfl, by simpa [bodyB] using own, B⟩
  case round =>
    clear own B b1 b2 b3 hs0
    obtain ⟨k, hk, rfl, rfl, own, hb⟩ := hrel
    by_cases hlt : k < n
    · have hkl : k < l.length := by rw [HN.out]; exact hlt
      obtain ⟨b, o, rfl, hrow⟩ := H3.out (by rw [HN.out]; omega)
      have hlb := hrow.1
      have hrow := hrow.later hb hlb
      obtain ⟨x0, x1, x2⟩ := hrow.cells hkl
      obtain ⟨f1, f2, f3⟩ := getD_lt HF.out hkl
      obtain ⟨m1, m2, m3, m4⟩ := may_of (getD_lt HM.out hkl)
      have hpk : (lastKey (prevOf l k)).length ≤ 64 := by
        unfold prevOf
        split
        · simp [lastKey]
        · exact (may_of (getD_lt HM.out (i := k - 1) (by omega))).2.1
      have hbt := bodyB_take l k hkl
      have hbl : (put n ++ bodyB none (l.take (k + 1))).length ≤ 140737488355328 := by
        have h1 := bodyB_take_le l (k + 1)
        have h2 := HL.out
        unfold blockB at h2
        rw [HN.out] at h2
        rw [List.length_append] at h2 ⊢
        omega
      rw [hbt, ← List.append_assoc] at hbl
      have hnx : lastKey (prevOf l (k + 1)) = (l.getD k Ce.zero).k := by simp [prevOf, lastKey]
      have q1 := CeAt.boxed (l.getD k Ce.zero) wr
      have b1 := (Below.refl wr.heap.size wr).alloc (Nat.le_refl _) (boxC (l.getD k Ce.zero))
      have HB := Lib.hid hbt
      have HX := Lib.hid hnx
      clear hbt hnx
      generalize l.getD k Ce.zero = c at *
      generalize lastKey (prevOf l k) = last at *
      generalize hX : put n ++ bodyB none (l.take k) = X at *
      have HXX := Lib.hid hX
      clear hX
      unfold cellBytes at hbl
      have cl := common_le last c.k
      have cc := fun W => common_any last c.k W (by omega) f1
      have hcl63 : common last c.k ≤ 9223372036854775807 := by omega
      have c0 := fun W => put_nat (common last c.k) W hcl63
      have c1 := fun W => putText_any ⟨(c.k.drop (common last c.k)).toArray⟩ W (by rw [size_of, List.length_drop]; omega)
      have hq : ((c.q.toNat : Nat) : Int) = c.q := by omega
      have c2 := fun W => put_nat c.q.toNat W (by omega)
      have c3 := fun W => putText_any ⟨c.v.toArray⟩ W (by rw [size_of]; omega)
      rw [hq] at c2
      have hsl := fun W => strFrom c.k (common last c.k) (common last c.k : Nat) rfl (by omega) W
      have hcb : cellBytes last c = put (common last c.k) ++ (putText (c.k.drop (common last c.k)) ++ (put c.q.toNat ++ putText c.v)) := rfl
      have HCB := Lib.hid hcb
      clear hcb hq m1 m2 m3 m4 cl
      simp only [List.toList_toArray] at c1 c3
      generalize hp0 : put (common last c.k) = p0 at *
      generalize hp1 : putText (c.k.drop (common last c.k)) = p1 at *
      generalize hp2 : put c.q.toNat = p2 at *
      generalize hp3 : putText c.v = p3 at *
      simp only [List.length_append] at hbl
      generalize common last c.k = m at *
      generalize c.k.drop m = rest at *
      have CC := Lib.hid cc
      have C0 := Lib.hid c0
      have C1 := Lib.hid c1
      have C2 := Lib.hid c2
      have C3 := Lib.hid c3
      clear cc c0 c1 c2 c3 hp0 hp1 hp2 hp3
      unfold boxC at q1 b1
      have B := btB hb b1
      have own := own.later b1
      go_wp2_with fail
      refine (CC.out _).mono ?_
      rintro e w4 ⟨rfl, b4⟩
      have q1 := q1.later b4 q1.lt
      have own := own.later b4
      have B := btB B b4
      generalize wr.heap.size = g at *
      clear x0 x1 x2 hrow b1 hb hlb b4
      obtain ⟨x0, x1, x2⟩ := q1.cell
      have lt1 := q1.lt
      go_wp2_with fail
      refine wp_region_more (by kernel_rfl) (by kernel_rfl) ?_
      repeat (go_big_quiet_step (fail))
      go_big_quiet_step (exact Calls.more (C0.out _))
      repeat (go_big_quiet_step (fail))
      go_big_quiet_step (exact Calls.more (C1.out _))
      repeat (go_big_quiet_step (fail))
      go_big_quiet_step (exact Calls.more (C2.out _))
      repeat (go_big_quiet_step (fail))
      go_big_quiet_step (exact Calls.more (C3.out _))
      repeat (go_big_quiet_step (fail))
      refine wpQuiet_nil ?_
      rintro _ ⟨ex, rfl⟩
      have b2 := World.below_more w4 ex
      generalize w4.more ex = w5 at *
      have own := own.later b2
      have B := btB B b2
      have q1 := q1.later b2 lt1
      clear b2 x0 x1 x2 lt1
      go_wp2_with fail
      refine wp_loop_rounds 5 ?_
      have gi := fun W => (four_index p0 p1 p2 p3 W).1
      have hbs := B.size
      rw [rounds_succ]
      go_wp2_with (at_builtin; refine wpList_append_T _ rfl _ _ 60 9 rfl w.heap.size 5 i0 Try.underlying60 Try.underlying9 hi hz0 hz1 hz2 _ _ p0 rfl own rfl (by first | omega | (simp only [List.length_append]; omega)) hbs ?_)
      intro v1 y1 own1 gr
      have B := own.below B gr hbs
      have q1 := q1.grown own gr
      clear own gr hbs gi
      have own := own1
      clear own1
      go_wp2_with fail
      have gi := fun W => (four_index p0 p1 p2 p3 W).2.1
      have hbs := B.size
      rw [rounds_succ]
      go_wp2_with (at_builtin; refine wpList_append_T _ rfl _ _ 60 9 rfl w.heap.size 5 i0 Try.underlying60 Try.underlying9 hi hz0 hz1 hz2 _ _ p1 rfl own rfl (by first | omega | (simp only [List.length_append]; omega)) hbs ?_)
      intro v2 y2 own2 gr
      have B := own.below B gr hbs
      have q1 := q1.grown own gr
      clear own gr hbs gi
      have own := own2
      clear own2
      go_wp2_with fail
      have gi := fun W => (four_index p0 p1 p2 p3 W).2.2.1
      have hbs := B.size
      rw [rounds_succ]
      go_wp2_with (at_builtin; refine wpList_append_T _ rfl _ _ 60 9 rfl w.heap.size 5 i0 Try.underlying60 Try.underlying9 hi hz0 hz1 hz2 _ _ p2 rfl own rfl (by first | omega | (simp only [List.length_append]; omega)) hbs ?_)
      intro v3 y3 own3 gr
      have B := own.below B gr hbs
      have q1 := q1.grown own gr
      clear own gr hbs gi
      have own := own3
      clear own3
      go_wp2_with fail
      have gi := fun W => (four_index p0 p1 p2 p3 W).2.2.2
      have hbs := B.size
      rw [rounds_succ]
      go_wp2_with (at_builtin; refine wpList_append_T _ rfl _ _ 60 9 rfl w.heap.size 5 i0 Try.underlying60 Try.underlying9 hi hz0 hz1 hz2 _ _ p3 rfl own rfl (by first | omega | (simp only [List.length_append]; omega)) hbs ?_)
      intro v4 y4 own4 gr
      have B := own.below B gr hbs
      have q1 := q1.grown own gr
      clear own gr hbs gi
      have own := own4
      clear own4
      go_wp2_with fail
      rw [rounds_succ]
      obtain ⟨x0, x1, x2⟩ := q1.cell
      go_wp2_with fail
      go_roundw
      case rel =>
        refine ⟨k + 1, by omega, by go_num, by rw [HX.out], ?_, B⟩
        rw [HB.out, ← List.append_assoc, HXX.out, HCB.out]
        simpa only [List.append_assoc] using own
      case measure => simp [intOf]; omega
    · obtain rfl : k = n := by omega
      rw [List.take_of_length_le (by rw [HN.out]; exact Nat.le_refl _)] at own
      have hcv := fun W (h : World.ownsT W w.heap.size 5 u4 (put k ++ bodyB none l)) => run_string_T (P := Try.prog) W 60 9 5 w.heap.size u4 _ Try.underlying60 Try.underlying5 Try.underlying9 h
      have hcv := hcv _ own
      go_wp2_with fail
      go_ret2
      exact ⟨ret2 (by unfold blockB; rw [HN.out]; rfl) rfl, hb⟩
theorem encodeB_bad (s : Value) (l : List Ce) (w : World) (hs : SlAt s l w) (hf : ∀ c ∈ l, FitsC c) (hso : sortedB l = false) :
    Calls Try.prog 31 #[s] w fun e w' => e = .returned (.tuple #[.string ⟨#[]⟩, .int .i64 2]) ∧ Below w.heap.size w w' := by
  have cs := sortedC_any s l w hs hf
  rw [hso] at cs
  have CS := Lib.hid cs
  clear cs hs hf hso
  go_enter Try.func31, Try.ntmps31
  go_wp2_with fail
  refine CS.out.mono ?_
  rintro e w1 ⟨rfl, b1⟩
  go_wp2_with fail
  go_ret2
  exact ⟨rfl, b1⟩
end Go.Proofs.Ytanaoepakllohaa
