/- The walks: a twin is left; the chapter's examples. -/
import Derived.Test.YtglonbkhocnplaaBlocksL
import Derived.Deep.RegionHeld3
namespace Go.Proofs.Ytglonbkhocnplaa
open Go.RowKit Spoor

theorem RowAt.slHead {g cap : Nat} {l : List Ce} {w : World} (h : RowAt g 0 (l ++ [junkT]) w) (hc : l.length + 1 ≤ cap) (hm : cap ≤ maxLen) : SlAt (.slice (some ⟨g, 0, none⟩) l.length cap) l w :=
  ⟨some ⟨g, 0, none⟩, cap, rfl, by omega, hm, fun _ => ⟨g, 0, rfl, h.head⟩⟩
theorem left_any (g cap : Nat) (s : Value) (l : List Ce) (w : World) (hs : SlAt s l w) (hrow : RowAt g 0 (l ++ [junkT]) w) (hc : l.length + 1 ≤ cap) (hm : cap ≤ maxLen) :
    Calls Try.prog 22 #[.slice (some ⟨g, 0, none⟩) l.length cap, s] w fun e w' => e = .returned (.bool true) ∧ Below w.heap.size w w' := by
  have cs := sameCells_any (.slice (some ⟨g, 0, none⟩) l.length cap) s l l w (hrow.slHead hc hm) hs
  obtain ⟨A, c2, rfl, h1, h2, h3⟩ := hs
  rw [decide_eq_true rfl] at cs
  have CS := Lib.hid cs
  obtain ⟨n, hn⟩ : ∃ n, l.length = n := ⟨_, rfl⟩
  have HN := Lib.hid hn
  have hx := fun (w' : World) (h : RowAt g 0 (l ++ [junkT]) w') => (h.cells (i := n) (by rw [List.length_append, hn]; simp)).2.1
  have hj : (l ++ [junkT]).getD n Ce.zero = junkT := by simp [List.getD, ← hn]
  rw [hj] at hx
  have HX := Lib.hid hx
  unfold maxLen at hm h2
  rw [hn] at hc h1 CS ⊢
  clear cs h3 hx hj hn
  go_enter Try.func22, Try.ntmps22
  go_wp2_with fail
  refine CS.out.mono ?_
  rintro e w1 ⟨rfl, b1⟩
  have hrow := hrow.later b1 hrow.1
  have hx := HX.out w1 hrow
  simp only [junkT, Nat.zero_add] at hx
  have hcn : (n : Int) < (cap : Int) := by omega
  go_wp2_with fail
  go_ret
  exact ⟨rfl, b1⟩
theorem some_sorted : sortedB someL = true := by decide
theorem some_bytes : blockB someL = [3, 0, 2, 97, 98, 7, 1, 120, 2, 0, 3, 0, 1, 1, 99, 0, 1, 121] := by
  simp [blockB, someL, bodyB, cellBytes, lastKey, common, putText, put_small]
def badL : List Ce := [⟨[97, 98], 3, []⟩, ⟨[97, 98], 7, []⟩]
theorem bad_sorted : sortedB badL = false := by decide
theorem some_dec : decB [3, 0, 2, 97, 98, 7, 1, 120, 2, 0, 3, 0, 1, 1, 99, 0, 1, 121] = some someL := by
  rw [← some_bytes]
  exact decB_block some_sorted (by simp [someL]) (by simp [someL])
theorem some_fits : ∀ c ∈ someL, FitsC c := by
  intro c hc
  simp only [someL, List.mem_cons, List.not_mem_nil, or_false] at hc
  rcases hc with rfl | rfl | rfl <;> exact ⟨by simp, by simp, by simp⟩
theorem bad_fits : ∀ c ∈ badL, FitsC c := by
  intro c hc
  simp only [badL, List.mem_cons, List.not_mem_nil, or_false] at hc
  rcases hc with rfl | rfl <;> exact ⟨by simp, by simp, by simp⟩
def BadAt (g : Nat) (w : World) : Prop := w.heap[g]? = some (.cells #[.string ⟨#[97, 98]⟩, .int .i64 3, .string ⟨#[]⟩, .string ⟨#[97, 98]⟩, .int .i64 7, .string ⟨#[]⟩] 28 (0, 0))
theorem BadAt.row {g : Nat} {w : World} (h : BadAt g w) : RowAt g 0 badL w := by
  refine ⟨(Array.getElem?_eq_some_iff.1 h).1, fun i hi j v hv => ?_⟩
  rw [cell_of_row w g _ _ _ _ h]
  have hi' : i < 2 := hi
  have hj : j < 3 := by
    have := (List.getElem?_eq_some_iff.1 hv).1
    simpa [ceRow] using this
  rcases (by omega : i = 0 ∨ i = 1) with rfl | rfl <;> rcases (by omega : j = 0 ∨ j = 1 ∨ j = 2) with rfl | rfl | rfl <;> simpa [badL, ceRow] using hv
def someS : List UInt8 := [3, 0, 2, 97, 98, 7, 1, 120, 2, 0, 3, 0, 1, 1, 99, 0, 1, 121]
theorem bcellB {W w1 : World} (hb : Below W.heap.size W w1) : ∀ b o, b < W.heap.size → w1.cell? ⟨b, o, none⟩ = W.cell? ⟨b, o, none⟩ := fun b o h => hb.cell (p := ⟨b, o, none⟩) h
theorem SomeAt.cell {g : Nat} {w : World} (h : SomeAt g w) : w.cell? ⟨g, 0, none⟩ = some (.string ⟨#[97, 98]⟩) ∧ w.cell? ⟨g, 1, none⟩ = some (.int .i64 7) ∧ w.cell? ⟨g, 2, none⟩ = some (.string ⟨#[120]⟩) := by
  refine ⟨?_, ?_, ?_⟩ <;> (rw [cell_of_row w g _ _ _ _ h]; rfl)
set_option maxRecDepth 100000 in
set_option maxHeartbeats 16000000 in
theorem bdoes_true (w : World) : Calls Try.prog 13 #[] w fun e w' => e = .returned (.bool true) ∧ Below w.heap.size w w' := by
  have c0 := fun (W : World) (g : Nat) (h : SomeAt g W) => encode_c (.slice (some ⟨g, 0, none⟩) 3 3) someL W (h.row.sl rfl (by omega) (by unfold maxLen; omega)) some_fits (fun _ => by rw [some_bytes]; simp)
  have cb := fun (W : World) (g : Nat) (h : BadAt g W) => encode_c (.slice (some ⟨g, 0, none⟩) 2 2) badL W (h.row.sl rfl (by omega) (by unfold maxLen; omega)) bad_fits (fun h => by rw [bad_sorted] at h; cases h)
  have cd := fun W => decodeB_any someS W (by simp [someS])
  have cf := fun W => findB_any someS [97, 98] W (by simp [someS])
  have cn := fun W => findB_any someS [98] W (by simp [someS])
  have cz := fun W => checkC_any Ce.zero W ⟨by simp [Ce.zero], by simp [Ce.zero], by simp [Ce.zero]⟩
  have hd : decB someS = some someL := some_dec
  unfold encV at c0 cb
  rw [some_sorted, some_bytes] at c0
  rw [bad_sorted] at cb
  rw [hd, show findV [97, 98] (some someL) = .tuple #[.agg #[.string ⟨#[97, 98]⟩, .int .i64 7, .string ⟨#[120]⟩], .bool true] from rfl] at cf
  rw [hd, show findV [98] (some someL) = .tuple #[.agg #[.string ⟨#[]⟩, .int .i64 0, .string ⟨#[]⟩], .bool false] from rfl] at cn
  rw [show chkC Ce.zero = 2 from rfl] at cz
  simp only [if_true, Bool.false_eq_true, if_false] at c0 cb
  unfold ceVal Ce.zero at cz
  try dsimp only at cz
  have HD := Lib.hid hd
  have C0 := Lib.hid c0
  have CB := Lib.hid cb
  have CD := Lib.hid cd
  have CF := Lib.hid cf
  have CN := Lib.hid cn
  have CZ := Lib.hid cz
  have CS := Lib.hid some_any
  clear hd c0 cb cd cf cn cz
  unfold someS at CD CF CN
  go_enter Try.func13, Try.ntmps13
  go_wp2_with fail
  refine (CS.out _).mono ?_
  rintro e w1 ⟨rfl, hs1, b1⟩
  have B := b1
  go_wp2_with fail
  refine (C0.out _ _ hs1).mono ?_
  rintro e w2 ⟨rfl, b2⟩
  have B := btB B b2
  clear hs1 b1 b2
  go_wp2_with fail
  refine (CD.out _).mono ?_
  rintro e w3 ⟨b3, h3⟩
  have hsl : ∃ A cap, e = .returned (.tuple #[.slice A 3 cap, .int .i64 0]) ∧ SlAt (.slice A 3 cap) someL w3 := by
    rcases h3 with ⟨hn, _⟩ | ⟨l, v, hl, rfl, own⟩
    · have := HD.out; unfold someS at this; rw [this] at hn; cases hn
    · have := HD.out
      unfold someS at this
      rw [this] at hl
      cases hl
      have hsl := slAt_own own
      obtain ⟨A, cap, rfl, h⟩ := id hsl
      exact ⟨A, cap, rfl, hsl⟩
  obtain ⟨A, cap, rfl, hsl⟩ := hsl
  have B := btB B b3
  clear h3 b3
  go_wp2_with fail
  refine (CF.out _).mono ?_
  rintro e w4 ⟨rfl, b4⟩
  have hsl := (hsl.later b4)
  have B := btB B b4
  have q1 := CeAt.boxed ⟨[97, 98], 7, [120]⟩ w4
  have b5 := (Below.refl w4.heap.size w4).alloc (Nat.le_refl _) (boxC ⟨[97, 98], 7, [120]⟩)
  have hsl := hsl.later b5
  have B := btB B b5
  clear b4 b5
  unfold boxC at *
  try dsimp only at *
  go_wp2_with fail
  generalize w4.alloc _ = w5 at *
  generalize w4.heap.size = p at *
  refine (CN.out _).mono ?_
  rintro e w6 ⟨rfl, b6⟩
  have hsl := hsl.later b6
  have B := btB B b6
  have q1 := q1.later b6 q1.lt
  have b7 := ((Below.refl w6.heap.size w6).alloc (Nat.le_refl _) (boxC Ce.zero)).alloc (by simp) (.cells #[.string ⟨#[97, 98]⟩, .int .i64 3, .string ⟨#[]⟩, .string ⟨#[97, 98]⟩, .int .i64 7, .string ⟨#[]⟩] 28)
  have hbad : BadAt (w6.heap.size + 1) ((w6.alloc (boxC Ce.zero)).alloc (.cells #[.string ⟨#[97, 98]⟩, .int .i64 3, .string ⟨#[]⟩, .string ⟨#[97, 98]⟩, .int .i64 7, .string ⟨#[]⟩] 28)) := by
    have := heap_alloc_new (w6.alloc (boxC Ce.zero)) (.cells #[.string ⟨#[97, 98]⟩, .int .i64 3, .string ⟨#[]⟩, .string ⟨#[97, 98]⟩, .int .i64 7, .string ⟨#[]⟩] 28)
    rw [show (w6.alloc (boxC Ce.zero)).heap.size = w6.heap.size + 1 by simp] at this
    exact this
  have hsl := hsl.later b7
  have B := btB B b7
  have q1 := q1.later b7 q1.lt
  clear b6 b7
  unfold boxC Ce.zero at *
  try dsimp only at *
  go_wp2_with fail
  generalize (w6.alloc _).alloc _ = w7 at *
  generalize w6.heap.size = p7 at *
  refine (CB.out _ _ hbad).mono ?_
  rintro e w8 ⟨rfl, b8⟩
  have hsl := hsl.later b8
  have B := btB B b8
  have q1 := q1.later b8 q1.lt
  clear b8 hbad
  obtain ⟨y0, y1, y2⟩ := q1.cell
  go_wp2_with fail
  have sc := fun (W : World) (g : Nat) (h : SlAt (.slice A 3 cap) someL W) (k : SomeAt g W) => sameCells_any (.slice A 3 cap) (.slice (some ⟨g, 0, none⟩) 3 3) someL someL W h (k.row.sl rfl (by omega) (by unfold maxLen; omega))
  rw [decide_eq_true rfl] at sc
  have SC := Lib.hid sc
  have HSL := Lib.hid hsl
  have q1lt := q1.lt
  have HBB := Lib.hid B
  clear sc hsl q1 B
  have hp : p < w8.heap.size := q1lt
  refine wp_region_noPanic ?_
  refine wp_region_held_drew (S := fun W => W.cell? ⟨p, 0, none⟩ = some (.string ⟨#[97, 98]⟩) ∧ W.cell? ⟨p, 1, none⟩ = some (.int .i64 7) ∧ W.cell? ⟨p, 2, none⟩ = some (.string ⟨#[120]⟩)) (by kernel_rfl) ?_ (fun hHeld => ?_)
  · (try dsimp only); go_keep
  refine' wpAnyH_take (i := 0) ?i0 ?s0 ?f0 ?r0 ?q0 ?y0 ?z0 ?t0
  case i0 => (simp only [List.getElem?_toArray, List.getElem?_cons_zero] <;> rfl)
  case s0 => kernel_rfl
  case f0 => kernel_rfl
  case r0 => kernel_rfl
  case q0 => exact (fun _ _ _ h => h)
  case z0 => assumption
  case y0 => refine Or.inl ⟨by rfl, ?_⟩; intro w hSw; (try dsimp only at hSw); go_simp; (try with_reducible rfl)
  try simp only [Act.put, List.setIfInBounds_toArray, List.set_cons_zero, List.set_cons_succ]
  refine' wpAnyH_take (i := 1) ?i1 ?s1 ?f1 ?r1 ?q1 ?y1 ?z1 ?t1
  case i1 => (simp only [List.getElem?_toArray, List.getElem?_cons_zero, List.getElem?_cons_succ] <;> rfl)
  case s1 => kernel_rfl
  case f1 => kernel_rfl
  case r1 => kernel_rfl
  case q1 => exact (fun _ _ _ h => h)
  case z1 => assumption
  case y1 => refine Or.inl ⟨by rfl, ?_⟩; intro w hSw; (try dsimp only at hSw); go_simp; (try with_reducible rfl)
  try simp only [Act.put, List.setIfInBounds_toArray, List.set_cons_zero, List.set_cons_succ]
  refine' wpAnyH_take (i := 2) ?i2 ?s2 ?f2 ?r2 ?q2 ?y2 ?z2 ?t2
  case i2 => (simp only [List.getElem?_toArray, List.getElem?_cons_zero, List.getElem?_cons_succ] <;> rfl)
  case s2 => kernel_rfl
  case f2 => kernel_rfl
  case r2 => kernel_rfl
  case q2 => exact (fun _ _ _ h => h)
  case z2 => assumption
  case y2 => refine Or.inl ⟨by rfl, ?_⟩; intro w hSw; (try dsimp only at hSw); go_simp; (try with_reducible rfl)
  try simp only [Act.put, List.setIfInBounds_toArray, List.set_cons_zero, List.set_cons_succ]
  refine' wpAnyH_take (i := 3) ?i3 ?s3 ?f3 ?r3 ?q3 ?y3 ?z3 ?t3
  case i3 => (simp only [List.getElem?_toArray, List.getElem?_cons_zero, List.getElem?_cons_succ] <;> rfl)
  case s3 => kernel_rfl
  case f3 => kernel_rfl
  case r3 => kernel_rfl
  case q3 => exact (fun _ _ _ h => h)
  case z3 => assumption
  case y3 => refine Or.inl ⟨by rfl, ?_⟩; intro w hSw; (try dsimp only at hSw); go_simp; (try with_reducible rfl)
  try simp only [Act.put, List.setIfInBounds_toArray, List.set_cons_zero, List.set_cons_succ]
  refine' wpAnyH_take (i := 4) ?i4 ?s4 ?f4 ?r4 ?q4 ?y4 ?z4 ?t4
  case i4 => (simp only [List.getElem?_toArray, List.getElem?_cons_zero, List.getElem?_cons_succ] <;> rfl)
  case s4 => kernel_rfl
  case f4 => kernel_rfl
  case r4 => kernel_rfl
  case q4 => exact (fun _ _ _ h => h)
  case z4 => assumption
  case y4 => refine Or.inl ⟨by rfl, ?_⟩; intro w hSw; (try dsimp only at hSw); go_simp; (try with_reducible rfl)
  try simp only [Act.put, List.setIfInBounds_toArray, List.set_cons_zero, List.set_cons_succ]
  refine' wpAnyH_take (i := 5) ?i5 ?s5 ?f5 ?r5 ?q5 ?y5 ?z5 ?t5
  case i5 => (simp only [List.getElem?_toArray, List.getElem?_cons_zero, List.getElem?_cons_succ] <;> rfl)
  case s5 => kernel_rfl
  case f5 => kernel_rfl
  case r5 => kernel_rfl
  case q5 => exact (fun _ _ _ h => h)
  case z5 => assumption
  case y5 => refine Or.inl ⟨by rfl, ?_⟩; intro w hSw; (try dsimp only at hSw); go_simp; (try with_reducible rfl)
  try simp only [Act.put, List.setIfInBounds_toArray, List.set_cons_zero, List.set_cons_succ]
  refine' wpAnyH_take (i := 6) ?i6 ?s6 ?f6 ?r6 ?q6 ?y6 ?z6 ?t6
  case i6 => (simp only [List.getElem?_toArray, List.getElem?_cons_zero, List.getElem?_cons_succ] <;> rfl)
  case s6 => kernel_rfl
  case f6 => kernel_rfl
  case r6 => kernel_rfl
  case q6 => exact (fun _ _ _ h => h)
  case z6 => assumption
  case y6 => refine Or.inl ⟨by rfl, ?_⟩; intro w hSw; (try dsimp only at hSw); go_simp; (try with_reducible rfl)
  try simp only [Act.put, List.setIfInBounds_toArray, List.set_cons_zero, List.set_cons_succ]
  refine' wpAnyH_take (i := 7) ?i7 ?s7 ?f7 ?r7 ?q7 ?y7 ?z7 ?t7
  case i7 => (simp only [List.getElem?_toArray, List.getElem?_cons_zero, List.getElem?_cons_succ] <;> rfl)
  case s7 => kernel_rfl
  case f7 => kernel_rfl
  case r7 => kernel_rfl
  case q7 => exact (fun _ _ _ h => h)
  case z7 => assumption
  case y7 => refine Or.inl ⟨by rfl, ?_⟩; intro w hSw; (try dsimp only at hSw); go_simp; (try with_reducible rfl)
  try simp only [Act.put, List.setIfInBounds_toArray, List.set_cons_zero, List.set_cons_succ]
  refine' wpAnyH_take (i := 8) ?i8 ?s8 ?f8 ?r8 ?q8 ?y8 ?z8 ?t8
  case i8 => (simp only [List.getElem?_toArray, List.getElem?_cons_zero, List.getElem?_cons_succ] <;> rfl)
  case s8 => kernel_rfl
  case f8 => kernel_rfl
  case r8 => kernel_rfl
  case q8 => exact (fun _ _ _ h => h)
  case z8 => assumption
  case y8 => refine Or.inl ⟨by rfl, ?_⟩; intro w hSw; (try dsimp only at hSw); go_simp; (try with_reducible rfl)
  try simp only [Act.put, List.setIfInBounds_toArray, List.set_cons_zero, List.set_cons_succ]
  refine' wpAnyH_take (i := 9) ?i9 ?s9 ?f9 ?r9 ?q9 ?y9 ?z9 ?t9
  case i9 => (simp only [List.getElem?_toArray, List.getElem?_cons_zero, List.getElem?_cons_succ] <;> rfl)
  case s9 => kernel_rfl
  case f9 => kernel_rfl
  case r9 => kernel_rfl
  case q9 => exact (fun _ _ _ h => h)
  case z9 => assumption
  case y9 => refine Or.inl ⟨by rfl, ?_⟩; intro w hSw; (try dsimp only at hSw); go_simp; (try with_reducible rfl)
  try simp only [Act.put, List.setIfInBounds_toArray, List.set_cons_zero, List.set_cons_succ]
  refine' wpAnyH_take (i := 10) ?i10 ?s10 ?f10 ?r10 ?q10 ?y10 ?z10 ?t10
  case i10 => (simp only [List.getElem?_toArray, List.getElem?_cons_zero, List.getElem?_cons_succ] <;> rfl)
  case s10 => kernel_rfl
  case f10 => kernel_rfl
  case r10 => kernel_rfl
  case q10 => exact (fun _ _ _ h => h)
  case z10 => assumption
  case y10 => refine Or.inl ⟨by rfl, ?_⟩; intro w hSw; (try dsimp only at hSw); go_simp; (try with_reducible rfl)
  try simp only [Act.put, List.setIfInBounds_toArray, List.set_cons_zero, List.set_cons_succ]
  refine' wpAnyH_take (i := 11) ?i11 ?s11 ?f11 ?r11 ?q11 ?y11 ?z11 ?t11
  case i11 => (simp only [List.getElem?_toArray, List.getElem?_cons_zero, List.getElem?_cons_succ] <;> rfl)
  case s11 => kernel_rfl
  case f11 => kernel_rfl
  case r11 => kernel_rfl
  case q11 => exact (fun _ _ _ h => h)
  case z11 => assumption
  case y11 => refine Or.inl ⟨by rfl, ?_⟩; intro w hSw; (try dsimp only at hSw); go_simp; (try with_reducible rfl)
  try simp only [Act.put, List.setIfInBounds_toArray, List.set_cons_zero, List.set_cons_succ]
  refine wpAnyH_ready (rs := [12]) (by kernel_rfl) (by simp) ?_
  refine' AllReadyH.cons ?i12 (fun K hK => ?b12) AllReadyH.nil
  case i12 => (simp only [List.getElem?_toArray, List.getElem?_cons_zero, List.getElem?_cons_succ] <;> rfl)
  go_simp
  refine (CS.out _).mono ?_
  rintro e w9 ⟨rfl, hs9, b9⟩
  have BB := btB (below_drewN HBB.out _) b9
  have t0 := (b9.cell (p := ⟨p, 0, none⟩) (by assumption)).trans (by assumption)
  have t1 := (b9.cell (p := ⟨p, 1, none⟩) (by assumption)).trans (by assumption)
  have t2 := (b9.cell (p := ⟨p, 2, none⟩) (by assumption)).trans (by assumption)
  have sl9 := (HSL.out.later (below_drewN (Below.refl _ _) _)).later b9
  have hp9 := Nat.lt_of_lt_of_le (by assumption : p < _) b9.size
  try go_wp2_with fail
  refine hK.out _ _ ?_ (fun hHeld2 => ?_)
  · (try dsimp only); go_keep
  clear hK K
  try simp only [Act.put, List.setIfInBounds_toArray, List.set_cons_zero, List.set_cons_succ]
  refine wpAnyH_ready (rs := [13]) (by kernel_rfl) (by simp) ?_
  refine' AllReadyH.cons ?i13 (fun K hK => ?b13) AllReadyH.nil
  case i13 => (simp only [List.getElem?_toArray, List.getElem?_cons_zero, List.getElem?_cons_succ] <;> rfl)
  go_simp
  refine (SC.out _ _ sl9 hs9).mono ?_
  rintro e w10 ⟨rfl, b10⟩
  have BB := btB BB b10
  have t0 := (b10.cell (p := ⟨p, 0, none⟩) (by assumption)).trans (by assumption)
  have t1 := (b10.cell (p := ⟨p, 1, none⟩) (by assumption)).trans (by assumption)
  have t2 := (b10.cell (p := ⟨p, 2, none⟩) (by assumption)).trans (by assumption)
  have hp10 := Nat.lt_of_lt_of_le (by assumption : p < _) b10.size
  clear sl9 hs9 b9
  try go_wp2_with fail
  refine hK.out _ _ ?_ (fun hHeld2 => ?_)
  · (try dsimp only); go_keep
  clear hK K
  try simp only [Act.put, List.setIfInBounds_toArray, List.set_cons_zero, List.set_cons_succ]
  refine' wpAnyH_take (i := 14) ?i14 ?s14 ?f14 ?r14 ?q14 ?y14 ?z14 ?t14
  case i14 => (simp only [List.getElem?_toArray, List.getElem?_cons_zero, List.getElem?_cons_succ] <;> rfl)
  case s14 => kernel_rfl
  case f14 => kernel_rfl
  case r14 => kernel_rfl
  case q14 => exact (fun _ _ _ h => h)
  case z14 => assumption
  case y14 => refine Or.inl ⟨by rfl, ?_⟩; intro w hSw; (try dsimp only at hSw); go_simp; (try with_reducible rfl)
  try simp only [Act.put, List.setIfInBounds_toArray, List.set_cons_zero, List.set_cons_succ]
  refine' wpAnyH_take (i := 15) ?i15 ?s15 ?f15 ?r15 ?q15 ?y15 ?z15 ?t15
  case i15 => (simp only [List.getElem?_toArray, List.getElem?_cons_zero, List.getElem?_cons_succ] <;> rfl)
  case s15 => kernel_rfl
  case f15 => kernel_rfl
  case r15 => kernel_rfl
  case q15 => exact (fun _ _ _ h => h)
  case z15 => assumption
  case y15 => refine Or.inl ⟨by rfl, ?_⟩; intro w hSw; (try dsimp only at hSw); go_simp; (try with_reducible rfl)
  try simp only [Act.put, List.setIfInBounds_toArray, List.set_cons_zero, List.set_cons_succ]
  refine' wpAnyH_take (i := 16) ?i16 ?s16 ?f16 ?r16 ?q16 ?y16 ?z16 ?t16
  case i16 => (simp only [List.getElem?_toArray, List.getElem?_cons_zero, List.getElem?_cons_succ] <;> rfl)
  case s16 => kernel_rfl
  case f16 => kernel_rfl
  case r16 => kernel_rfl
  case q16 => exact (fun _ _ _ h => h)
  case z16 => assumption
  case y16 => refine Or.inl ⟨by rfl, ?_⟩; intro w hSw; (try dsimp only at hSw); go_simp; (try with_reducible rfl)
  try simp only [Act.put, List.setIfInBounds_toArray, List.set_cons_zero, List.set_cons_succ]
  refine' wpAnyH_take (i := 17) ?i17 ?s17 ?f17 ?r17 ?q17 ?y17 ?z17 ?t17
  case i17 => (simp only [List.getElem?_toArray, List.getElem?_cons_zero, List.getElem?_cons_succ] <;> rfl)
  case s17 => kernel_rfl
  case f17 => kernel_rfl
  case r17 => kernel_rfl
  case q17 => exact (fun _ _ _ h => h)
  case z17 => assumption
  case y17 => refine Or.inl ⟨by rfl, ?_⟩; intro w hSw; (try dsimp only at hSw); go_simp; (try with_reducible rfl)
  try simp only [Act.put, List.setIfInBounds_toArray, List.set_cons_zero, List.set_cons_succ]
  refine' wpAnyH_take (i := 18) ?i18 ?s18 ?f18 ?r18 ?q18 ?y18 ?z18 ?t18
  case i18 => (simp only [List.getElem?_toArray, List.getElem?_cons_zero, List.getElem?_cons_succ] <;> rfl)
  case s18 => kernel_rfl
  case f18 => kernel_rfl
  case r18 => kernel_rfl
  case q18 => exact (fun _ _ _ h => h)
  case z18 => assumption
  case y18 => refine Or.inl ⟨by rfl, ?_⟩; intro w hSw; (try dsimp only at hSw); go_simp; (try with_reducible rfl)
  try simp only [Act.put, List.setIfInBounds_toArray, List.set_cons_zero, List.set_cons_succ]
  refine' wpAnyH_take (i := 19) ?i19 ?s19 ?f19 ?r19 ?q19 ?y19 ?z19 ?t19
  case i19 => (simp only [List.getElem?_toArray, List.getElem?_cons_zero, List.getElem?_cons_succ] <;> rfl)
  case s19 => kernel_rfl
  case f19 => kernel_rfl
  case r19 => kernel_rfl
  case q19 => exact (fun _ _ _ h => h)
  case z19 => assumption
  case y19 => refine Or.inl ⟨by rfl, ?_⟩; intro w hSw; (try dsimp only at hSw); go_simp; (try with_reducible rfl)
  try simp only [Act.put, List.setIfInBounds_toArray, List.set_cons_zero, List.set_cons_succ]
  refine wpAnyH_ready (rs := [20]) (by kernel_rfl) (by simp) ?_
  refine' AllReadyH.cons ?i20 (fun K hK => ?b20) AllReadyH.nil
  case i20 => (simp only [List.getElem?_toArray, List.getElem?_cons_zero, List.getElem?_cons_succ] <;> rfl)
  go_simp
  refine (CS.out _).mono ?_
  rintro e w11 ⟨rfl, hs11, b11⟩
  have BB := btB BB b11
  have t0 := (b11.cell (p := ⟨p, 0, none⟩) (by assumption)).trans (by assumption)
  have t1 := (b11.cell (p := ⟨p, 1, none⟩) (by assumption)).trans (by assumption)
  have t2 := (b11.cell (p := ⟨p, 2, none⟩) (by assumption)).trans (by assumption)
  have hp11 := Nat.lt_of_lt_of_le (by assumption : p < _) b11.size
  obtain ⟨s0, s1, s2⟩ := hs11.cell
  try go_wp2_with fail
  refine hK.out _ _ ?_ (fun hHeld2 => ?_)
  · (try dsimp only); go_keep
  clear hK K
  try simp only [Act.put, List.setIfInBounds_toArray, List.set_cons_zero, List.set_cons_succ]
  refine' wpAnyH_take (i := 21) ?i21 ?s21 ?f21 ?r21 ?q21 ?y21 ?z21 ?t21
  case i21 => (simp only [List.getElem?_toArray, List.getElem?_cons_zero, List.getElem?_cons_succ] <;> rfl)
  case s21 => kernel_rfl
  case f21 => kernel_rfl
  case r21 => kernel_rfl
  case q21 => exact (fun _ _ _ h => h)
  case z21 => assumption
  case y21 => refine Or.inl ⟨by rfl, ?_⟩; intro w hSw; (try dsimp only at hSw); go_simp; (try with_reducible rfl)
  try simp only [Act.put, List.setIfInBounds_toArray, List.set_cons_zero, List.set_cons_succ]
  refine wpAnyH_ready (rs := [22]) (by kernel_rfl) (by simp) ?_
  refine' AllReadyH.cons ?i22 (fun K hK => ?b22) AllReadyH.nil
  case i22 => (simp only [List.getElem?_toArray, List.getElem?_cons_zero, List.getElem?_cons_succ] <;> rfl)
  go_simp
  refine hK.out _ _ ?_ (fun hHeld2 => ?_)
  · (try dsimp only); go_keep
  clear hK K
  try simp only [Act.put, List.setIfInBounds_toArray, List.set_cons_zero, List.set_cons_succ]
  refine' wpAnyH_take (i := 23) ?i23 ?s23 ?f23 ?r23 ?q23 ?y23 ?z23 ?t23
  case i23 => (simp only [List.getElem?_toArray, List.getElem?_cons_zero, List.getElem?_cons_succ] <;> rfl)
  case s23 => kernel_rfl
  case f23 => kernel_rfl
  case r23 => kernel_rfl
  case q23 => exact (fun _ _ _ h => h)
  case z23 => assumption
  case y23 => refine Or.inl ⟨by rfl, ?_⟩; intro w hSw; (try dsimp only at hSw); go_simp; (try with_reducible rfl)
  try simp only [Act.put, List.setIfInBounds_toArray, List.set_cons_zero, List.set_cons_succ]
  refine' wpAnyH_take (i := 24) ?i24 ?s24 ?f24 ?r24 ?q24 ?y24 ?z24 ?t24
  case i24 => (simp only [List.getElem?_toArray, List.getElem?_cons_zero, List.getElem?_cons_succ] <;> rfl)
  case s24 => kernel_rfl
  case f24 => kernel_rfl
  case r24 => kernel_rfl
  case q24 => exact (fun _ _ _ h => h)
  case z24 => assumption
  case y24 => refine Or.inl ⟨by rfl, ?_⟩; intro w hSw; (try dsimp only at hSw); go_simp; (try with_reducible rfl)
  try simp only [Act.put, List.setIfInBounds_toArray, List.set_cons_zero, List.set_cons_succ]
  refine' wpAnyH_take (i := 25) ?i25 ?s25 ?f25 ?r25 ?q25 ?y25 ?z25 ?t25
  case i25 => (simp only [List.getElem?_toArray, List.getElem?_cons_zero, List.getElem?_cons_succ] <;> rfl)
  case s25 => kernel_rfl
  case f25 => kernel_rfl
  case r25 => kernel_rfl
  case q25 => exact (fun _ _ _ h => h)
  case z25 => assumption
  case y25 => refine Or.inl ⟨by rfl, ?_⟩; intro w hSw; (try dsimp only at hSw); go_simp; (try with_reducible rfl)
  try simp only [Act.put, List.setIfInBounds_toArray, List.set_cons_zero, List.set_cons_succ]
  refine' wpAnyH_take (i := 26) ?i26 ?s26 ?f26 ?r26 ?q26 ?y26 ?z26 ?t26
  case i26 => (simp only [List.getElem?_toArray, List.getElem?_cons_zero, List.getElem?_cons_succ] <;> rfl)
  case s26 => kernel_rfl
  case f26 => kernel_rfl
  case r26 => kernel_rfl
  case q26 => exact (fun _ _ _ h => h)
  case z26 => assumption
  case y26 => refine Or.inl ⟨by rfl, ?_⟩; intro w hSw; (try dsimp only at hSw); go_simp; (try with_reducible rfl)
  try simp only [Act.put, List.setIfInBounds_toArray, List.set_cons_zero, List.set_cons_succ]
  refine' wpAnyH_take (i := 27) ?i27 ?s27 ?f27 ?r27 ?q27 ?y27 ?z27 ?t27
  case i27 => (simp only [List.getElem?_toArray, List.getElem?_cons_zero, List.getElem?_cons_succ] <;> rfl)
  case s27 => kernel_rfl
  case f27 => kernel_rfl
  case r27 => kernel_rfl
  case q27 => exact (fun _ _ _ h => h)
  case z27 => assumption
  case y27 => refine Or.inl ⟨by rfl, ?_⟩; intro w hSw; (try dsimp only at hSw); go_simp; (try with_reducible rfl)
  try simp only [Act.put, List.setIfInBounds_toArray, List.set_cons_zero, List.set_cons_succ]
  refine' wpAnyH_take (i := 28) ?i28 ?s28 ?f28 ?r28 ?q28 ?y28 ?z28 ?t28
  case i28 => (simp only [List.getElem?_toArray, List.getElem?_cons_zero, List.getElem?_cons_succ] <;> rfl)
  case s28 => kernel_rfl
  case f28 => kernel_rfl
  case r28 => kernel_rfl
  case q28 => exact (fun _ _ _ h => h)
  case z28 => assumption
  case y28 => refine Or.inl ⟨by rfl, ?_⟩; intro w hSw; (try dsimp only at hSw); go_simp; (try with_reducible rfl)
  try simp only [Act.put, List.setIfInBounds_toArray, List.set_cons_zero, List.set_cons_succ]
  refine' wpAnyH_take (i := 29) ?i29 ?s29 ?f29 ?r29 ?q29 ?y29 ?z29 ?t29
  case i29 => (simp only [List.getElem?_toArray, List.getElem?_cons_zero, List.getElem?_cons_succ] <;> rfl)
  case s29 => kernel_rfl
  case f29 => kernel_rfl
  case r29 => kernel_rfl
  case q29 => exact (fun _ _ _ h => h)
  case z29 => assumption
  case y29 => refine Or.inl ⟨by rfl, ?_⟩; intro w hSw; (try dsimp only at hSw); go_simp; (try with_reducible rfl)
  try simp only [Act.put, List.setIfInBounds_toArray, List.set_cons_zero, List.set_cons_succ]
  refine' wpAnyH_take (i := 30) ?i30 ?s30 ?f30 ?r30 ?q30 ?y30 ?z30 ?t30
  case i30 => (simp only [List.getElem?_toArray, List.getElem?_cons_zero, List.getElem?_cons_succ] <;> rfl)
  case s30 => kernel_rfl
  case f30 => kernel_rfl
  case r30 => kernel_rfl
  case q30 => exact (fun _ _ _ h => h)
  case z30 => assumption
  case y30 => refine Or.inl ⟨by rfl, ?_⟩; intro w hSw; (try dsimp only at hSw); go_simp; (try with_reducible rfl)
  try simp only [Act.put, List.setIfInBounds_toArray, List.set_cons_zero, List.set_cons_succ]
  refine' wpAnyH_take (i := 31) ?i31 ?s31 ?f31 ?r31 ?q31 ?y31 ?z31 ?t31
  case i31 => (simp only [List.getElem?_toArray, List.getElem?_cons_zero, List.getElem?_cons_succ] <;> rfl)
  case s31 => kernel_rfl
  case f31 => kernel_rfl
  case r31 => kernel_rfl
  case q31 => exact (fun _ _ _ h => h)
  case z31 => assumption
  case y31 => refine Or.inl ⟨by rfl, ?_⟩; intro w hSw; (try dsimp only at hSw); go_simp; (try with_reducible rfl)
  try simp only [Act.put, List.setIfInBounds_toArray, List.set_cons_zero, List.set_cons_succ]
  refine' wpAnyH_take (i := 32) ?i32 ?s32 ?f32 ?r32 ?q32 ?y32 ?z32 ?t32
  case i32 => (simp only [List.getElem?_toArray, List.getElem?_cons_zero, List.getElem?_cons_succ] <;> rfl)
  case s32 => kernel_rfl
  case f32 => kernel_rfl
  case r32 => kernel_rfl
  case q32 => exact (fun _ _ _ h => h)
  case z32 => assumption
  case y32 => refine Or.inl ⟨by rfl, ?_⟩; intro w hSw; (try dsimp only at hSw); go_simp; (try with_reducible rfl)
  try simp only [Act.put, List.setIfInBounds_toArray, List.set_cons_zero, List.set_cons_succ]
  refine' wpAnyH_take (i := 33) ?i33 ?s33 ?f33 ?r33 ?q33 ?y33 ?z33 ?t33
  case i33 => (simp only [List.getElem?_toArray, List.getElem?_cons_zero, List.getElem?_cons_succ] <;> rfl)
  case s33 => kernel_rfl
  case f33 => kernel_rfl
  case r33 => kernel_rfl
  case q33 => exact (fun _ _ _ h => h)
  case z33 => assumption
  case y33 => refine Or.inl ⟨by rfl, ?_⟩; intro w hSw; (try dsimp only at hSw); go_simp; (try with_reducible rfl)
  try simp only [Act.put, List.setIfInBounds_toArray, List.set_cons_zero, List.set_cons_succ]
  refine' wpAnyH_take (i := 34) ?i34 ?s34 ?f34 ?r34 ?q34 ?y34 ?z34 ?t34
  case i34 => (simp only [List.getElem?_toArray, List.getElem?_cons_zero, List.getElem?_cons_succ] <;> rfl)
  case s34 => kernel_rfl
  case f34 => kernel_rfl
  case r34 => kernel_rfl
  case q34 => exact (fun _ _ _ h => h)
  case z34 => assumption
  case y34 => refine Or.inl ⟨by rfl, ?_⟩; intro w hSw; (try dsimp only at hSw); go_simp; (try with_reducible rfl)
  try simp only [Act.put, List.setIfInBounds_toArray, List.set_cons_zero, List.set_cons_succ]
  refine wpAnyH_ready (rs := [35]) (by kernel_rfl) (by simp) ?_
  refine' AllReadyH.cons ?i35 (fun K hK => ?b35) AllReadyH.nil
  case i35 => (simp only [List.getElem?_toArray, List.getElem?_cons_zero, List.getElem?_cons_succ] <;> rfl)
  go_simp
  refine (CZ.out _).mono ?_
  rintro e w12 ⟨rfl, b12⟩
  have BB := btB BB b12
  have t0 := (b12.cell (p := ⟨p, 0, none⟩) (by assumption)).trans (by assumption)
  have t1 := (b12.cell (p := ⟨p, 1, none⟩) (by assumption)).trans (by assumption)
  have t2 := (b12.cell (p := ⟨p, 2, none⟩) (by assumption)).trans (by assumption)
  try go_wp2_with fail
  refine hK.out _ _ ?_ (fun hHeld2 => ?_)
  · (try dsimp only); go_keep
  clear hK K
  try simp only [Act.put, List.setIfInBounds_toArray, List.set_cons_zero, List.set_cons_succ]
  refine' wpAnyH_take (i := 36) ?i36 ?s36 ?f36 ?r36 ?q36 ?y36 ?z36 ?t36
  case i36 => (simp only [List.getElem?_toArray, List.getElem?_cons_zero, List.getElem?_cons_succ] <;> rfl)
  case s36 => kernel_rfl
  case f36 => kernel_rfl
  case r36 => kernel_rfl
  case q36 => exact (fun _ _ _ h => h)
  case z36 => assumption
  case y36 => refine Or.inl ⟨by rfl, ?_⟩; intro w hSw; (try dsimp only at hSw); go_simp; (try with_reducible rfl)
  try simp only [Act.put, List.setIfInBounds_toArray, List.set_cons_zero, List.set_cons_succ]
  refine' wpAnyH_take (i := 37) ?i37 ?s37 ?f37 ?r37 ?q37 ?y37 ?z37 ?t37
  case i37 => (simp only [List.getElem?_toArray, List.getElem?_cons_zero, List.getElem?_cons_succ] <;> rfl)
  case s37 => kernel_rfl
  case f37 => kernel_rfl
  case r37 => kernel_rfl
  case q37 => exact (fun _ _ _ h => h)
  case z37 => assumption
  case y37 => refine Or.inl ⟨by rfl, ?_⟩; intro w hSw; (try dsimp only at hSw); go_simp; (try with_reducible rfl)
  try simp only [Act.put, List.setIfInBounds_toArray, List.set_cons_zero, List.set_cons_succ]
  refine' wpAnyH_take (i := 38) ?i38 ?s38 ?f38 ?r38 ?q38 ?y38 ?z38 ?t38
  case i38 => (simp only [List.getElem?_toArray, List.getElem?_cons_zero, List.getElem?_cons_succ] <;> rfl)
  case s38 => kernel_rfl
  case f38 => kernel_rfl
  case r38 => kernel_rfl
  case q38 => exact (fun _ _ _ h => h)
  case z38 => assumption
  case y38 => refine Or.inl ⟨by rfl, ?_⟩; intro w hSw; (try dsimp only at hSw); go_simp; (try with_reducible rfl)
  try simp only [Act.put, List.setIfInBounds_toArray, List.set_cons_zero, List.set_cons_succ]
  refine wpAnyH_done (by kernel_rfl) ?_ _
  refine NoPanic.normal ?_
  go_wp2_with fail
  go_ret
  exact ⟨rfl, BB⟩
end Go.Proofs.Ytglonbkhocnplaa
