/- The walks of BlocksBack and BlocksApart. -/
import Derived.Test.YtglonbkhocnplaaBlocksS
namespace Go.Proofs.Ytglonbkhocnplaa
open Go.RowKit Spoor

theorem decB_ints {s : List UInt8} {l : List Ce} (h : decB s = some l) : l.length ≤ 9223372036854775807 ∧ ∀ c ∈ l, c.q ≤ 9223372036854775807 := by
  have hr := (decB_some h).2.2
  unfold refDec at hr
  cases e : get s with
  | none => rw [e] at hr; simp at hr
  | some r =>
    obtain ⟨mm, k⟩ := r
    rw [e] at hr
    simp only at hr
    cases e2 : refEach s mm k none with
    | none => rw [e2] at hr; simp at hr
    | some r2 =>
      obtain ⟨l2, n2⟩ := r2
      rw [e2] at hr
      simp only at hr
      split at hr
      · cases hr
        obtain ⟨b1, b2⟩ := refEach_ints mm k none _ n2 e2
        exact ⟨by have := (get_some e).2.2.2.1; omega, b2⟩
      · cases hr
theorem fits_sorted {l : List Ce} (hs : sortedB l = true) (hq : ∀ c ∈ l, c.q ≤ 9223372036854775807) : ∀ c ∈ l, FitsC c := fun c hc => by
  obtain ⟨_, h2, _, h4⟩ := may_of (sorted_may hs c hc)
  exact ⟨by omega, by omega, hq c hc⟩
set_option maxRecDepth 100000 in
set_option maxHeartbeats 16000000 in
theorem blocksBack_great (w : World) (v : Value) (l : List Ce) (s : List UInt8) (hs : SlAt v l w) (hw : ∀ c ∈ l, WfC c) (hss : s.length ≤ 140737488351232) (hg : greatL l 200 = true) :
    Calls Try.prog 8 #[v, .string ⟨s.toArray⟩] w fun e w' => e = .returned (.bool true) ∧ Below w.heap.size w w' := by
  have CDO := Lib.hid bdoes_true
  have cg := greatL_any v l 200 w hs hw (by omega)
  rw [hg] at cg
  have CG := Lib.hid cg
  clear cg hg hw hs
  go_enter Try.func8, Try.ntmps8
  go_wp2_with fail
  refine CG.out.mono ?_
  rintro e w1 ⟨rfl, b1⟩
  go_wp2_with fail
  go_ret
  exact ⟨rfl, b1⟩
set_option maxRecDepth 100000 in
set_option maxHeartbeats 16000000 in
theorem blocksBack_long (w : World) (v : Value) (l : List Ce) (s : List UInt8) (hs : SlAt v l w) (hw : ∀ c ∈ l, WfC c) (hss : s.length ≤ 140737488351232) (hg : greatL l 200 = false) (hlong : (5000 : Int) < (s.length : Int)) :
    Calls Try.prog 8 #[v, .string ⟨s.toArray⟩] w fun e w' => e = .returned (.bool true) ∧ Below w.heap.size w w' := by
  have CDO := Lib.hid bdoes_true
  have cg := greatL_any v l 200 w hs hw (by omega)
  rw [hg] at cg
  have CG := Lib.hid cg
  clear cg hg hw hs
  go_enter Try.func8, Try.ntmps8
  go_wp2_with fail
  refine CG.out.mono ?_
  rintro e w1 ⟨rfl, b1⟩
  go_wp2_with fail
  go_ret
  exact ⟨rfl, b1⟩
set_option maxRecDepth 100000 in
set_option maxHeartbeats 16000000 in
theorem blocksBack_yes (w : World) (v : Value) (l : List Ce) (s : List UInt8) (hs : SlAt v l w) (hw : ∀ c ∈ l, WfC c) (hss : s.length ≤ 140737488351232) (hg : greatL l 200 = false) (hlong : ¬ (5000 : Int) < (s.length : Int)) (hso : sortedB l = true) :
    Calls Try.prog 8 #[v, .string ⟨s.toArray⟩] w fun e w' => e = .returned (.bool true) ∧ Below w.heap.size w w' := by
  have CDO := Lib.hid bdoes_true
  have cg := greatL_any v l 200 w hs hw (by omega)
  have hf := fits_great hg hw
  have hlen := len_great hg (by omega) hw
  obtain ⟨hl200, _⟩ := great_yes hg
  rw [hg] at cg
  have CG := Lib.hid cg
  have ce := fun W (h : SlAt v l W) => encode_c v l W h hf (fun h => by have := hlen h; omega)
  have cs := fun W (h : SlAt v l W) => sortedBl_any v l W h hf
  rw [encV_c] at ce
  rw [hso] at cs
  have c2 := fun W => decodeB_any s W (by omega)
  have C2 := Lib.hid c2
  have e1 := decide_eq_false hlong
  rw [show encS l = blockB l by unfold encS; rw [hso]; rfl, show encE l = 0 by unfold encE; rw [hso]; rfl] at ce
  have c1 := fun W => decodeB_any (blockB l) W (by have := hlen hso; omega)
  have hdl : decB (blockB l) = some l := decB_block hso (by omega) (fun c hc => (hw c hc).2.2)
  have HDL := Lib.hid hdl
  have C1 := Lib.hid c1
  have sc := fun (a : Value) W (h : SlAt a l W) (k : SlAt v l W) => sameCells_any a v l l W h k
  rw [decide_eq_true rfl] at sc
  have SC := Lib.hid sc
  clear sc hdl c1
  generalize blockB l = bl at *
  have CE := Lib.hid ce
  have CS := Lib.hid cs
  have HS0 := Lib.hid hs
  clear ce cs cg hg hlen hl200 c2 hso hs hf hw
  obtain ⟨D, hD⟩ : ∃ D, decB s = D := ⟨_, rfl⟩
  have HD := Lib.hid hD
  clear hD
  cases D with
  | none =>
    go_enter Try.func8, Try.ntmps8
    go_wp2_with fail
    refine CG.out.mono ?_
    rintro e w1 ⟨rfl, b1⟩
    have hs := HS0.out.later b1
    have B := b1
    clear b1
    go_wp2_with fail
    refine (CE.out _ hs).mono ?_
    rintro e w2 ⟨rfl, b2⟩
    have hs := hs.later b2
    have B := btB B b2
    clear b2
    go_wp2_with fail
    refine (CS.out _ hs).mono ?_
    rintro e w3 ⟨rfl, b3⟩
    have hs := hs.later b3
    have B := btB B b3
    clear b3
    go_wp2_with fail
    refine (C1.out _).mono ?_
    rintro e w4 h4
    obtain ⟨b4, hx⟩ := h4
    have hm : ∃ v1, e = .returned (.tuple #[v1, .int .i64 0]) ∧ SlAt v1 l w4 := by
      rcases hx with ⟨hn, _⟩ | ⟨l2, v2, hl2, he, own⟩
      · rw [HDL.out] at hn; cases hn
      · rw [HDL.out] at hl2
        cases hl2
        exact ⟨v2, he, slAt_own own⟩
    obtain ⟨v1, rfl, sl1⟩ := hm
    have hs := hs.later b4
    have B := btB B b4
    clear hx b4
    go_wp2_with fail
    refine (SC.out _ _ sl1 hs).mono ?_
    rintro e w4b ⟨rfl, b4⟩
    have B := btB B b4
    clear b4
    go_wp2_with fail
    refine (C2.out _).mono ?_
    rintro e w5 h5
    obtain ⟨b5, hx⟩ := h5
    have hnil : e = .returned (.tuple #[.slice none 0 0, .int .i64 30]) := by
      rcases hx with ⟨_, he⟩ | ⟨l2, v2, hl2, _, _⟩
      · exact he
      · rw [HD.out] at hl2; cases hl2
    subst hnil
    have B := btB B b5
    clear hx b5
    go_wp2_with fail
    refine (CDO.out _).mono ?_
    rintro e w6 ⟨rfl, b6⟩
    have B := btB B b6
    go_wp2_with fail
    go_ret
    exact ⟨rfl, B⟩
  | some m =>
    have hdm := HD.out
    obtain ⟨so, sb, _⟩ := decB_some hdm
    obtain ⟨si, sq⟩ := decB_ints hdm
    have sf := fits_sorted so sq
    have ce2 := fun v' W (h : SlAt v' m W) => encode_c v' m W h sf (fun _ => by rw [sb]; omega)
    have cs2 := fun v' W (h : SlAt v' m W) => sortedBl_any v' m W h sf
    rw [encV_c, show encS m = s by unfold encS; rw [so]; exact sb, show encE m = 0 by unfold encE; rw [so]; rfl] at ce2
    rw [so] at cs2
    have CE2 := Lib.hid ce2
    have CS2 := Lib.hid cs2
    clear hdm so sb si sq sf ce2 cs2
    go_enter Try.func8, Try.ntmps8
    go_wp2_with fail
    refine CG.out.mono ?_
    rintro e w1 ⟨rfl, b1⟩
    have hs := HS0.out.later b1
    have B := b1
    clear b1
    go_wp2_with fail
    refine (CE.out _ hs).mono ?_
    rintro e w2 ⟨rfl, b2⟩
    have hs := hs.later b2
    have B := btB B b2
    clear b2
    go_wp2_with fail
    refine (CS.out _ hs).mono ?_
    rintro e w3 ⟨rfl, b3⟩
    have hs := hs.later b3
    have B := btB B b3
    clear b3
    go_wp2_with fail
    refine (C1.out _).mono ?_
    rintro e w4 h4
    obtain ⟨b4, hx⟩ := h4
    have hm : ∃ v1, e = .returned (.tuple #[v1, .int .i64 0]) ∧ SlAt v1 l w4 := by
      rcases hx with ⟨hn, _⟩ | ⟨l2, v2, hl2, he, own⟩
      · rw [HDL.out] at hn; cases hn
      · rw [HDL.out] at hl2
        cases hl2
        exact ⟨v2, he, slAt_own own⟩
    obtain ⟨v1, rfl, sl1⟩ := hm
    have hs := hs.later b4
    have B := btB B b4
    clear hx b4
    go_wp2_with fail
    refine (SC.out _ _ sl1 hs).mono ?_
    rintro e w4b ⟨rfl, b4⟩
    have B := btB B b4
    clear b4
    go_wp2_with fail
    refine (C2.out _).mono ?_
    rintro e w5 h5
    obtain ⟨b5, hx⟩ := h5
    have hnil : ∃ A cap, e = .returned (.tuple #[.slice A m.length cap, .int .i64 0]) ∧ SlAt (.slice A m.length cap) m w5 := by
      rcases hx with ⟨hn, _⟩ | ⟨l2, v2, hl2, he, own⟩
      · rw [HD.out] at hn; cases hn
      · rw [HD.out] at hl2
        cases hl2
        have hsl := slAt_own own
        obtain ⟨A, cap, rfl, _⟩ := id hsl
        exact ⟨A, cap, he, hsl⟩
    obtain ⟨A2, cap2, rfl, sl2⟩ := hnil
    have B := btB B b5
    clear hx b5
    go_wp2_with fail
    refine (CE2.out _ _ sl2).mono ?_
    rintro e w6 ⟨rfl, b6⟩
    have B := btB B b6
    have sl2 := sl2.later b6
    clear b6
    go_wp2_with fail
    refine (CS2.out _ _ sl2).mono ?_
    rintro e w7 ⟨rfl, b7⟩
    have B := btB B b7
    clear b7
    go_wp2_with fail
    refine (CDO.out _).mono ?_
    rintro e w8 ⟨rfl, b8⟩
    have B := btB B b8
    go_wp2_with fail
    go_ret
    exact ⟨rfl, B⟩
set_option maxRecDepth 100000 in
set_option maxHeartbeats 16000000 in
theorem blocksBack_no (w : World) (v : Value) (l : List Ce) (s : List UInt8) (hs : SlAt v l w) (hw : ∀ c ∈ l, WfC c) (hss : s.length ≤ 140737488351232) (hg : greatL l 200 = false) (hlong : ¬ (5000 : Int) < (s.length : Int)) (hso : sortedB l = false) :
    Calls Try.prog 8 #[v, .string ⟨s.toArray⟩] w fun e w' => e = .returned (.bool true) ∧ Below w.heap.size w w' := by
  have CDO := Lib.hid bdoes_true
  have cg := greatL_any v l 200 w hs hw (by omega)
  have hf := fits_great hg hw
  have hlen := len_great hg (by omega) hw
  obtain ⟨hl200, _⟩ := great_yes hg
  rw [hg] at cg
  have CG := Lib.hid cg
  have ce := fun W (h : SlAt v l W) => encode_c v l W h hf (fun h => by have := hlen h; omega)
  have cs := fun W (h : SlAt v l W) => sortedBl_any v l W h hf
  rw [encV_c] at ce
  rw [hso] at cs
  have c2 := fun W => decodeB_any s W (by omega)
  have C2 := Lib.hid c2
  have e1 := decide_eq_false hlong
  rw [show encS l = [] by unfold encS; rw [hso]; rfl, show encE l = 2 by unfold encE; rw [hso]; rfl] at ce
  have CE := Lib.hid ce
  have CS := Lib.hid cs
  have HS0 := Lib.hid hs
  clear ce cs cg hg hlen hl200 c2 hso hs hf hw
  obtain ⟨D, hD⟩ : ∃ D, decB s = D := ⟨_, rfl⟩
  have HD := Lib.hid hD
  clear hD
  cases D with
  | none =>
    go_enter Try.func8, Try.ntmps8
    go_wp2_with fail
    refine CG.out.mono ?_
    rintro e w1 ⟨rfl, b1⟩
    have hs := HS0.out.later b1
    have B := b1
    clear b1
    go_wp2_with fail
    refine (CE.out _ hs).mono ?_
    rintro e w2 ⟨rfl, b2⟩
    have hs := hs.later b2
    have B := btB B b2
    clear b2
    go_wp2_with fail
    refine (CS.out _ hs).mono ?_
    rintro e w3 ⟨rfl, b3⟩
    have hs := hs.later b3
    have B := btB B b3
    clear b3
    go_wp2_with fail
    refine (C2.out _).mono ?_
    rintro e w5 h5
    obtain ⟨b5, hx⟩ := h5
    have hnil : e = .returned (.tuple #[.slice none 0 0, .int .i64 30]) := by
      rcases hx with ⟨_, he⟩ | ⟨l2, v2, hl2, _, _⟩
      · exact he
      · rw [HD.out] at hl2; cases hl2
    subst hnil
    have B := btB B b5
    clear hx b5
    go_wp2_with fail
    refine (CDO.out _).mono ?_
    rintro e w6 ⟨rfl, b6⟩
    have B := btB B b6
    go_wp2_with fail
    go_ret
    exact ⟨rfl, B⟩
  | some m =>
    have hdm := HD.out
    obtain ⟨so, sb, _⟩ := decB_some hdm
    obtain ⟨si, sq⟩ := decB_ints hdm
    have sf := fits_sorted so sq
    have ce2 := fun v' W (h : SlAt v' m W) => encode_c v' m W h sf (fun _ => by rw [sb]; omega)
    have cs2 := fun v' W (h : SlAt v' m W) => sortedBl_any v' m W h sf
    rw [encV_c, show encS m = s by unfold encS; rw [so]; exact sb, show encE m = 0 by unfold encE; rw [so]; rfl] at ce2
    rw [so] at cs2
    have CE2 := Lib.hid ce2
    have CS2 := Lib.hid cs2
    clear hdm so sb si sq sf ce2 cs2
    go_enter Try.func8, Try.ntmps8
    go_wp2_with fail
    refine CG.out.mono ?_
    rintro e w1 ⟨rfl, b1⟩
    have hs := HS0.out.later b1
    have B := b1
    clear b1
    go_wp2_with fail
    refine (CE.out _ hs).mono ?_
    rintro e w2 ⟨rfl, b2⟩
    have hs := hs.later b2
    have B := btB B b2
    clear b2
    go_wp2_with fail
    refine (CS.out _ hs).mono ?_
    rintro e w3 ⟨rfl, b3⟩
    have hs := hs.later b3
    have B := btB B b3
    clear b3
    go_wp2_with fail
    refine (C2.out _).mono ?_
    rintro e w5 h5
    obtain ⟨b5, hx⟩ := h5
    have hnil : ∃ A cap, e = .returned (.tuple #[.slice A m.length cap, .int .i64 0]) ∧ SlAt (.slice A m.length cap) m w5 := by
      rcases hx with ⟨hn, _⟩ | ⟨l2, v2, hl2, he, own⟩
      · rw [HD.out] at hn; cases hn
      · rw [HD.out] at hl2
        cases hl2
        have hsl := slAt_own own
        obtain ⟨A, cap, rfl, _⟩ := id hsl
        exact ⟨A, cap, he, hsl⟩
    obtain ⟨A2, cap2, rfl, sl2⟩ := hnil
    have B := btB B b5
    clear hx b5
    go_wp2_with fail
    refine (CE2.out _ _ sl2).mono ?_
    rintro e w6 ⟨rfl, b6⟩
    have B := btB B b6
    have sl2 := sl2.later b6
    clear b6
    go_wp2_with fail
    refine (CS2.out _ _ sl2).mono ?_
    rintro e w7 ⟨rfl, b7⟩
    have B := btB B b7
    clear b7
    go_wp2_with fail
    refine (CDO.out _).mono ?_
    rintro e w8 ⟨rfl, b8⟩
    have B := btB B b8
    go_wp2_with fail
    go_ret
    exact ⟨rfl, B⟩
theorem blocksBack_law (w : World) (v : Value) (l : List Ce) (s : ByteArray) (hs : SlAt v l w) (hn : v = .slice none 0 0 ∨ ∃ ad n c, v = .slice (some ad) n c) (hw : ∀ c ∈ l, WfC c) (hss : s.size ≤ 140737488351232) :
    Calls Try.prog 8 #[v, .string s] w fun e w' => e = .returned (.bool true) ∧ Below w.heap.size w w' := by
  have es : s = ⟨s.data.toList.toArray⟩ := by cases s; simp
  rw [es] at hss ⊢
  rw [size_of] at hss
  generalize s.data.toList = s at *
  cases hg : greatL l 200 with
  | true => exact blocksBack_great w v l s hs hw hss hg
  | false =>
    by_cases h1 : (5000 : Int) < (s.length : Int)
    · exact blocksBack_long w v l s hs hw hss hg h1
    · cases hso : sortedB l with
      | true => exact blocksBack_yes w v l s hs hw hss hg h1 hso
      | false => exact blocksBack_no w v l s hs hw hss hg h1 hso
end Go.Proofs.Ytglonbkhocnplaa
