/- The walk of BlocksApart. -/
import Derived.Test.YtglonbkhocnplaaBlocksT
namespace Go.Proofs.Ytglonbkhocnplaa
open Go.RowKit Spoor

set_option maxRecDepth 100000 in
set_option maxHeartbeats 16000000 in
theorem blocksApart_g1 (w : World) (u v : Value) (l m : List Ce) (k : Int) (hs : SlAt u l w) (ht : SlAt v m w) (hw : ∀ c ∈ l, WfC c) (hx : ∀ c ∈ m, WfC c) (hg : greatL l 100 = true) :
    Calls Try.prog 6 #[u, v, .int .u16 k] w fun e w' => e = .returned (.bool true) ∧ Below w.heap.size w w' := by
  have CDO := Lib.hid bdoes_true
  have cg := greatL_any u l 100 w hs hw (by omega)
  rw [hg] at cg
  have CG := Lib.hid cg
  have HS0 := Lib.hid hs
  have HT0 := Lib.hid ht
  clear cg hg hw hx hs ht
  go_enter Try.func6, Try.ntmps6
  go_wp2_with fail
  refine CG.out.mono ?_
  rintro e w1 ⟨rfl, b1⟩
  have hs := HS0.out.later b1
  have ht := HT0.out.later b1
  have B := b1
  clear b1
  go_wp2_with fail
  go_ret
  exact ⟨rfl, B⟩
set_option maxRecDepth 100000 in
set_option maxHeartbeats 16000000 in
theorem blocksApart_g2 (w : World) (u v : Value) (l m : List Ce) (k : Int) (hs : SlAt u l w) (ht : SlAt v m w) (hw : ∀ c ∈ l, WfC c) (hx : ∀ c ∈ m, WfC c) (hg : greatL l 100 = false) (hh : greatL m 100 = true) :
    Calls Try.prog 6 #[u, v, .int .u16 k] w fun e w' => e = .returned (.bool true) ∧ Below w.heap.size w w' := by
  have CDO := Lib.hid bdoes_true
  have cg := greatL_any u l 100 w hs hw (by omega)
  have cg2 := fun W (h : SlAt v m W) => greatL_any v m 100 W h hx (by omega)
  rw [hg] at cg
  rw [hh] at cg2
  have CG := Lib.hid cg
  have CG2 := Lib.hid cg2
  have HS0 := Lib.hid hs
  have HT0 := Lib.hid ht
  clear cg cg2 hg hh hw hx hs ht
  go_enter Try.func6, Try.ntmps6
  go_wp2_with fail
  refine CG.out.mono ?_
  rintro e w1 ⟨rfl, b1⟩
  have hs := HS0.out.later b1
  have ht := HT0.out.later b1
  have B := b1
  clear b1
  go_wp2_with fail
  refine (CG2.out _ ht).mono ?_
  rintro e w2 ⟨rfl, b2⟩
  have B := btB B b2
  go_wp2_with fail
  go_ret
  exact ⟨rfl, B⟩
set_option maxRecDepth 100000 in
set_option maxHeartbeats 16000000 in
theorem blocksApart_n1 (w : World) (u v : Value) (l m : List Ce) (k : Int) (hs : SlAt u l w) (ht : SlAt v m w) (hw : ∀ c ∈ l, WfC c) (hx : ∀ c ∈ m, WfC c) (hg : greatL l 100 = false) (hh : greatL m 100 = false) (hso : sortedB l = false) :
    Calls Try.prog 6 #[u, v, .int .u16 k] w fun e w' => e = .returned (.bool true) ∧ Below w.heap.size w w' := by
  have CDO := Lib.hid bdoes_true
  have cg := greatL_any u l 100 w hs hw (by omega)
  have hf := fits_great hg hw
  have hlen := len_great hg (by omega) hw
  have hf2 := fits_great hh hx
  have hlen2 := len_great hh (by omega) hx
  obtain ⟨hl1, _⟩ := great_yes hg
  obtain ⟨hl2, _⟩ := great_yes hh
  have cg2 := fun W (h : SlAt v m W) => greatL_any v m 100 W h hx (by omega)
  rw [hg] at cg
  rw [hh] at cg2
  have CG := Lib.hid cg
  have CG2 := Lib.hid cg2
  have ce := fun W (h : SlAt u l W) => encode_c u l W h hf (fun h => by have := hlen h; omega)
  have ce2 := fun W (h : SlAt v m W) => encode_c v m W h hf2 (fun h => by have := hlen2 h; omega)
  rw [encV_c] at ce ce2
  have HS0 := Lib.hid hs
  have HT0 := Lib.hid ht
  rw [show encE l = 2 by unfold encE; rw [hso]; rfl] at ce
  generalize encS l = S1 at *
  generalize encS m = S2 at *
  generalize encE m = E2 at *
  have CE := Lib.hid ce
  have CE2 := Lib.hid ce2
  clear cg cg2 hg hh hw hx hs ht hf hf2 hlen hlen2 ce ce2 hso
  go_enter Try.func6, Try.ntmps6
  go_wp2_with fail
  refine CG.out.mono ?_
  rintro e w1 ⟨rfl, b1⟩
  have hs := HS0.out.later b1
  have ht := HT0.out.later b1
  have B := b1
  clear b1
  go_wp2_with fail
  refine (CG2.out _ ht).mono ?_
  rintro e w2 ⟨rfl, b2⟩
  have hs := hs.later b2
  have ht := ht.later b2
  have B := btB B b2
  clear b2
  go_wp2_with fail
  refine (CE.out _ hs).mono ?_
  rintro e w3 ⟨rfl, b3⟩
  have hs := hs.later b3
  have ht := ht.later b3
  have B := btB B b3
  clear b3
  go_wp2_with fail
  refine (CE2.out _ ht).mono ?_
  rintro e w4 ⟨rfl, b4⟩
  have hs := hs.later b4
  have ht := ht.later b4
  have B := btB B b4
  clear b4
  go_wp2_with fail
  refine (CDO.out _).mono ?_
  rintro e w5 ⟨rfl, b5⟩
  have B := btB B b5
  go_wp2_with fail
  go_ret
  exact ⟨rfl, B⟩
set_option maxRecDepth 100000 in
set_option maxHeartbeats 16000000 in
theorem blocksApart_n2 (w : World) (u v : Value) (l m : List Ce) (k : Int) (hs : SlAt u l w) (ht : SlAt v m w) (hw : ∀ c ∈ l, WfC c) (hx : ∀ c ∈ m, WfC c) (hg : greatL l 100 = false) (hh : greatL m 100 = false) (hso : sortedB l = true) (hsp : sortedB m = false) :
    Calls Try.prog 6 #[u, v, .int .u16 k] w fun e w' => e = .returned (.bool true) ∧ Below w.heap.size w w' := by
  have CDO := Lib.hid bdoes_true
  have cg := greatL_any u l 100 w hs hw (by omega)
  have hf := fits_great hg hw
  have hlen := len_great hg (by omega) hw
  have hf2 := fits_great hh hx
  have hlen2 := len_great hh (by omega) hx
  obtain ⟨hl1, _⟩ := great_yes hg
  obtain ⟨hl2, _⟩ := great_yes hh
  have cg2 := fun W (h : SlAt v m W) => greatL_any v m 100 W h hx (by omega)
  rw [hg] at cg
  rw [hh] at cg2
  have CG := Lib.hid cg
  have CG2 := Lib.hid cg2
  have ce := fun W (h : SlAt u l W) => encode_c u l W h hf (fun h => by have := hlen h; omega)
  have ce2 := fun W (h : SlAt v m W) => encode_c v m W h hf2 (fun h => by have := hlen2 h; omega)
  rw [encV_c] at ce ce2
  have HS0 := Lib.hid hs
  have HT0 := Lib.hid ht
  rw [show encE l = 0 by unfold encE; rw [hso]; rfl] at ce
  rw [show encE m = 2 by unfold encE; rw [hsp]; rfl] at ce2
  generalize encS l = S1 at *
  generalize encS m = S2 at *
  have CE := Lib.hid ce
  have CE2 := Lib.hid ce2
  clear cg cg2 hg hh hw hx hs ht hf hf2 hlen hlen2 ce ce2 hso hsp
  go_enter Try.func6, Try.ntmps6
  go_wp2_with fail
  refine CG.out.mono ?_
  rintro e w1 ⟨rfl, b1⟩
  have hs := HS0.out.later b1
  have ht := HT0.out.later b1
  have B := b1
  clear b1
  go_wp2_with fail
  refine (CG2.out _ ht).mono ?_
  rintro e w2 ⟨rfl, b2⟩
  have hs := hs.later b2
  have ht := ht.later b2
  have B := btB B b2
  clear b2
  go_wp2_with fail
  refine (CE.out _ hs).mono ?_
  rintro e w3 ⟨rfl, b3⟩
  have hs := hs.later b3
  have ht := ht.later b3
  have B := btB B b3
  clear b3
  go_wp2_with fail
  refine (CE2.out _ ht).mono ?_
  rintro e w4 ⟨rfl, b4⟩
  have hs := hs.later b4
  have ht := ht.later b4
  have B := btB B b4
  clear b4
  go_wp2_with fail
  refine (CDO.out _).mono ?_
  rintro e w5 ⟨rfl, b5⟩
  have B := btB B b5
  go_wp2_with fail
  go_ret
  exact ⟨rfl, B⟩
theorem blockB_pos (l : List Ce) : 0 < (blockB l).length := by
  have := put_length_pos l.length
  unfold blockB
  rw [List.length_append]
  omega
set_option maxRecDepth 100000 in
set_option maxHeartbeats 16000000 in
theorem blocksApart_yes (w : World) (u v : Value) (l m : List Ce) (k : Int) (hs : SlAt u l w) (ht : SlAt v m w) (hw : ∀ c ∈ l, WfC c) (hx : ∀ c ∈ m, WfC c) (hg : greatL l 100 = false) (hh : greatL m 100 = false) (hso : sortedB l = true) (hsp : sortedB m = true) (hk0 : 0 ≤ k) (hk1 : k ≤ 65535) :
    Calls Try.prog 6 #[u, v, .int .u16 k] w fun e w' => e = .returned (.bool true) ∧ Below w.heap.size w w' := by
  have CDO := Lib.hid bdoes_true
  have cg := greatL_any u l 100 w hs hw (by omega)
  have hf := fits_great hg hw
  have hlen := len_great hg (by omega) hw
  have hf2 := fits_great hh hx
  have hlen2 := len_great hh (by omega) hx
  obtain ⟨hl1, _⟩ := great_yes hg
  obtain ⟨hl2, _⟩ := great_yes hh
  have cg2 := fun W (h : SlAt v m W) => greatL_any v m 100 W h hx (by omega)
  rw [hg] at cg
  rw [hh] at cg2
  have CG := Lib.hid cg
  have CG2 := Lib.hid cg2
  have ce := fun W (h : SlAt u l W) => encode_c u l W h hf (fun h => by have := hlen h; omega)
  have ce2 := fun W (h : SlAt v m W) => encode_c v m W h hf2 (fun h => by have := hlen2 h; omega)
  rw [encV_c] at ce ce2
  have HS0 := Lib.hid hs
  have HT0 := Lib.hid ht
  rw [show encE l = 0 by unfold encE; rw [hso]; rfl, show encS l = blockB l by unfold encS; rw [hso]; rfl] at ce
  rw [show encE m = 0 by unfold encE; rw [hsp]; rfl, show encS m = blockB m by unfold encS; rw [hsp]; rfl] at ce2
  have hpos := blockB_pos l
  obtain ⟨j, hj⟩ : ∃ j : Nat, k.tmod ((blockB l).length : Int) = (j : Int) ∧ j < (blockB l).length := by
    refine ⟨(k.tmod ((blockB l).length : Int)).toNat, ?_, ?_⟩
    · have := Int.tmod_nonneg ((blockB l).length : Int) hk0
      omega
    · have := Int.tmod_nonneg ((blockB l).length : Int) hk0
      have := Int.tmod_lt_of_pos k (show (0 : Int) < ((blockB l).length : Int) by omega)
      omega
  obtain ⟨hj, hjl⟩ := hj
  have hd : decB ((blockB l).take j) = none := decB_cut hso (by omega) (fun c hc => (hw c hc).2.2) hjl
  have hbl := hlen hso
  have c1 := fun W => decodeB_any ((blockB l).take j) W (by rw [List.length_take]; omega)
  have sl := fun W => strTo (blockB l) j (j : Int) rfl (by omega) W
  have sc := fun W (h : SlAt u l W) (h2 : SlAt v m W) => sameCells_any u v l m W h h2
  have heq : (blockB l == blockB m) = decide (l = m) := by
    rw [Bool.eq_iff_iff, beq_iff_eq, decide_eq_true_iff]
    constructor
    · intro e
      exact block_inj (r := []) hso hsp (by omega) (by omega) (fun c hc => (hw c hc).2.2) (fun c hc => (hx c hc).2.2) (by rw [List.append_nil, e])
    · intro e; rw [e]
  have hne : ((blockB l) == []) = false := by
    rw [beq_eq_false_iff_ne]; intro e; rw [e] at hpos; simp at hpos
  have hne2 : (blockB l).isEmpty = false := by
    cases h : blockB l with
    | nil => rw [h] at hpos; simp at hpos
    | cons a b => rfl
  have hz : (((blockB l).length : Int) == 0) = false := by rw [beq_eq_false_iff_ne]; omega
  have HD := Lib.hid hd
  generalize decide (l = m) = b at *
  generalize blockB l = bl at *
  generalize blockB m = bm at *
  generalize bl.take j = cut at *
  have CE := Lib.hid ce
  have CE2 := Lib.hid ce2
  have C1 := Lib.hid c1
  have SC := Lib.hid sc
  clear cg cg2 hg hh hw hx hs ht hf hf2 hlen hlen2 ce ce2 hso hsp hd c1 sc
  go_enter Try.func6, Try.ntmps6
  go_wp2_with fail
  refine CG.out.mono ?_
  rintro e w1 ⟨rfl, b1⟩
  have hs := HS0.out.later b1
  have ht := HT0.out.later b1
  have B := b1
  clear b1
  go_wp2_with fail
  refine (CG2.out _ ht).mono ?_
  rintro e w2 ⟨rfl, b2⟩
  have hs := hs.later b2
  have ht := ht.later b2
  have B := btB B b2
  clear b2
  go_wp2_with fail
  refine (CE.out _ hs).mono ?_
  rintro e w3 ⟨rfl, b3⟩
  have hs := hs.later b3
  have ht := ht.later b3
  have B := btB B b3
  clear b3
  go_wp2_with fail
  refine (CE2.out _ ht).mono ?_
  rintro e w4 ⟨rfl, b4⟩
  have hs := hs.later b4
  have ht := ht.later b4
  have B := btB B b4
  clear b4
  go_wp2_with fail
  refine (C1.out _).mono ?_
  rintro e w5 h5
  obtain ⟨b5, hy⟩ := h5
  have hnil : e = .returned (.tuple #[.slice none 0 0, .int .i64 30]) := by
    rcases hy with ⟨_, he⟩ | ⟨l2, v2, hl2, _, _⟩
    · exact he
    · rw [HD.out] at hl2; cases hl2
  subst hnil
  have hs := hs.later b5
  have ht := ht.later b5
  have B := btB B b5
  clear hy b5
  go_wp2_with fail
  refine (SC.out _ hs ht).mono ?_
  rintro e w6 ⟨rfl, b6⟩
  have B := btB B b6
  clear b6
  go_wp2_with fail
  refine (CDO.out _).mono ?_
  rintro e w7 ⟨rfl, b7⟩
  have B := btB B b7
  go_wp2_with fail
  go_ret
  exact ⟨rfl, B⟩
theorem blocksApart_law (w : World) (u : Value) (l : List Ce) (v : Value) (m : List Ce) (k : Int) (hs : SlAt u l w) (hn : u = .slice none 0 0 ∨ ∃ ad n c, u = .slice (some ad) n c) (hw : ∀ c ∈ l, WfC c)
    (ht : SlAt v m w) (hn2 : v = .slice none 0 0 ∨ ∃ ad n c, v = .slice (some ad) n c) (hx : ∀ c ∈ m, WfC c) (hk : (Lit.int IntKind.u16 k).wf = true) :
    Calls Try.prog 6 #[u, v, .int .u16 k] w fun e w' => e = .returned (.bool true) ∧ Below w.heap.size w w' := by
  have hk2 : 0 ≤ k ∧ k ≤ 65535 := by simpa [Lit.wf, IntKind.min, IntKind.max, IntKind.signed, IntKind.bits] using hk
  cases hg : greatL l 100 with
  | true => exact blocksApart_g1 w u v l m k hs ht hw hx hg
  | false =>
    cases hh : greatL m 100 with
    | true => exact blocksApart_g2 w u v l m k hs ht hw hx hg hh
    | false =>
      cases hso : sortedB l with
      | false => exact blocksApart_n1 w u v l m k hs ht hw hx hg hh hso
      | true =>
        cases hsp : sortedB m with
        | false => exact blocksApart_n2 w u v l m k hs ht hw hx hg hh hso hsp
        | true => exact blocksApart_yes w u v l m k hs ht hw hx hg hh hso hsp hk2.1 hk2.2
end Go.Proofs.Ytglonbkhocnplaa
