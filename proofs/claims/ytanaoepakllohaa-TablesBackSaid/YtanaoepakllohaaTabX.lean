/- TablesBack's walk. -/
import Derived.Test.YtanaoepakllohaaTabV
set_option linter.unusedSimpArgs false
set_option linter.unusedVariables false
namespace Go.Proofs.Ytanaoepakllohaa
set_option maxRecDepth 16000
open Go.RowKit Spoor
set_option linter.unusedVariables false

set_option maxRecDepth 100000 in
set_option maxHeartbeats 16000000 in
theorem tablesBack_law (w : World) (v : Value) (l : List Ce) (text : ByteArray) (hs : SlAt v l w) (hn : v = .slice none 0 0 ∨ ∃ ad n c, v = .slice (some ad) n c) (hw : ∀ c ∈ l, WfC c) (htext : text.size ≤ 140737488351232) :
    Calls Try.prog 8 #[v, .string text] w fun e w' => e = .returned (.bool true) ∧ Below w.heap.size w w' := by
  have es : text = ⟨text.data.toList.toArray⟩ := by cases text; simp
  rw [es] at htext ⊢
  rw [size_of] at htext
  generalize text.data.toList = text at *
  clear es
  have CDO := Lib.hid tdoes_true
  have cg := greatL_any v l 300 w hs hw (by omega)
  obtain ⟨M, hM⟩ : ∃ M, text.length = M := ⟨_, rfl⟩
  have hsm : (⟨text.toArray⟩ : ByteArray).size = M := by rw [← hM]; simp [ByteArray.size]
  cases hg : greatL l 300 with
  | true =>
    rw [hg] at cg
    have CG := Lib.hid cg
    clear cg hg hw hs hM
    go_enter Try.func8, Try.ntmps8
    go_wp2_with fail
    refine CG.out.mono ?_
    rintro e w1 ⟨rfl, b1⟩
    go_wp2_with fail
    go_ret
    exact ⟨rfl, b1⟩
  | false =>
    have hf := fits_great hg hw
    obtain ⟨hl300, _⟩ := great_yes hg
    rw [hg] at cg
    have CG := Lib.hid cg
    by_cases hm : M ≤ 20000
    rotate_left
    · have hmi : (20000 : Int) < (M : Int) := by omega
      clear cg hg hw hs hM hf
      go_enter Try.func8, Try.ntmps8
      go_wp2_with fail
      refine CG.out.mono ?_
      rintro e w1 ⟨rfl, b1⟩
      go_wp2_with fail
      go_ret
      exact ⟨rfl, b1⟩
    have hmi : ¬ (20000 : Int) < (M : Int) := by omega
    have CT := Lib.hid (fun W => openT_any text W (by omega))
    unfold OpenEx at CT
    have ce := fun W (h : SlAt v l W) => buildT_any v l W h hf (by omega)
    have cs := fun W (h : SlAt v l W) => sortedBl_any v l W h hf
    have HS0 := Lib.hid hs
    have hq := fits_q hf
    cases hso : sortedB l with
    | false =>
      rw [show buildV l = .tuple #[.string ⟨#[]⟩, .int .i64 2] by unfold buildV; rw [if_neg (by rw [hso]; exact Bool.false_ne_true)]] at ce
      rw [hso] at cs
      have CE := Lib.hid ce
      have CS := Lib.hid cs
      clear cg hg hw hs hM hf ce cs hq hso
      go_enter Try.func8, Try.ntmps8
      go_wp2_with fail
      refine CG.out.mono ?_
      rintro e w1 ⟨rfl, b1⟩
      go_wp2_with fail
      refine (CE.out _ (HS0.out.later b1)).mono ?_
      rintro e w2 ⟨rfl, b2⟩
      have B := btB b1 b2
      go_wp2_with fail
      refine (CS.out _ ((HS0.out.later b1).later b2)).mono ?_
      rintro e w3 ⟨rfl, b3⟩
      have B := btB B b3
      clear b1 b2 b3
      go_wp2_with fail
      refine (CT.out _).mono ?_
      rintro e wt ⟨bt, (⟨ho, rfl⟩ | ⟨gs, t2, ho, rfl, ht2⟩)⟩
      · have B := btB B bt
        clear bt ho
        go_wp2_with fail
        refine (CDO.out _).mono ?_
        rintro e w8 ⟨rfl, b8⟩
        have B := btB B b8
        go_wp2_with fail
        go_ret
        exact ⟨rfl, B⟩
      · have B := btB B bt
        obtain ⟨q1, q2, q3, q4, q5, q6, q7⟩ := open_facts ho
        have CA2 := Lib.hid (allS_any t2 gs wt ht2 q1 q2 q3 q4)
        have CB2 := Lib.hid (fun v W (h : SlAt v gs.flatten W) => buildT_any v gs.flatten W h q5 (by omega))
        rw [show buildV gs.flatten = .tuple #[.string ⟨text.toArray⟩, .int .i64 0] by unfold buildV; rw [if_pos q6, if_neg (by omega), q7]] at CB2
        have HB := Lib.hid B
        clear q1 q2 q3 q4 q5 q6 q7 ho ht2 bt B
        go_wp2_with fail
        refine CA2.out.mono ?_
        rintro e w8 ⟨b8, v8, rfl, sl8⟩
        have B := btB HB.out b8
        clear b8 CA2 HB
        go_wp2_with fail
        refine (CB2.out _ _ sl8).mono ?_
        rintro e w9 ⟨rfl, b9⟩
        have B := btB B b9
        clear b9 CB2 sl8
        have n9 : (text == text) = true := by simp
        go_wp2_with fail
        refine (CDO.out _).mono ?_
        rintro e w10 ⟨rfl, b10⟩
        have B := btB B b10
        go_wp2_with fail
        go_ret
        exact ⟨rfl, B⟩
    | true =>
      rw [show buildV l = .tuple #[.string ⟨(tableB l).toArray⟩, .int .i64 0] by unfold buildV; rw [if_pos hso, if_neg (by omega)]] at ce
      rw [hso] at cs
      have CE := Lib.hid ce
      have CS := Lib.hid cs
      have hln := (table_len hso hq (by omega)).2.2
      have C1 := Lib.hid (fun W => openT_some (open_build hso (by omega) hq) W (by omega))
      obtain ⟨f1, f2, f3, f4⟩ := fours_facts hso (by omega)
      have ca := fun t W (h : TabAt t (fours l) W) => allS_any t (fours l) W h f1 f2 f3 f4
      have cl := fun t W (h : TabAt t (fours l) W) => lenT_any t (fours l) W h (by omega) (by omega)
      rw [fours_flat] at ca cl
      have cq := fun a W (h : SlAt a l W) (k : SlAt v l W) => sameCells_any a v l l W h k
      rw [decide_eq_true rfl] at cq
      obtain ⟨A, cap, rfl, h1, h2, h3⟩ := slAt_row hs
      obtain ⟨n, hnn⟩ : ∃ n, l.length = n := ⟨_, rfl⟩
      rw [hnn] at cl cq HS0 CG CE CS ⊢
      obtain ⟨S, hS⟩ : ∃ S, tableB l = S := ⟨_, rfl⟩
      rw [hS] at CE C1
      have CA := Lib.hid ca
      have CL := Lib.hid cl
      have CQ := Lib.hid cq
      clear cg hg hw hs hM hf ce cs hq hso ca cl cq hln f1 f2 f3 f4 h1 h2 h3 hS hn hnn hl300
      go_enter Try.func8, Try.ntmps8
      go_wp2_with fail
      refine CG.out.mono ?_
      rintro e w1 ⟨rfl, b1⟩
      go_wp2_with fail
      refine (CE.out _ (HS0.out.later b1)).mono ?_
      rintro e w2 ⟨rfl, b2⟩
      have B := btB b1 b2
      have hsl := (HS0.out.later b1).later b2
      go_wp2_with fail
      refine (CS.out _ hsl).mono ?_
      rintro e w3 ⟨rfl, b3⟩
      have B := btB B b3
      have hsl := hsl.later b3
      clear b1 b2 b3
      go_wp2_with fail
      refine (C1.out _).mono ?_
      rintro e w4 ⟨b4, t, rfl, ht⟩
      have B := btB B b4
      have hsl := hsl.later b4
      go_wp2_with fail
      refine (CA.out _ _ ht).mono ?_
      rintro e w5 ⟨b5, v5, rfl, sl5⟩
      have B := btB B b5
      have hsl := hsl.later b5
      have ht := ht.later b5
      go_wp2_with fail
      refine (CQ.out _ _ sl5 hsl).mono ?_
      rintro e w6 ⟨rfl, b6⟩
      have B := btB B b6
      have ht := ht.later b6
      go_wp2_with fail
      refine (CL.out _ _ ht).mono ?_
      rintro e w7 ⟨rfl, b7⟩
      have B := btB B b7
      clear b4 b5 b6 b7 ht hsl sl5
      go_wp2_with fail
      refine (CT.out _).mono ?_
      rintro e wt ⟨bt, (⟨ho, rfl⟩ | ⟨gs, t2, ho, rfl, ht2⟩)⟩
      · have B := btB B bt
        clear bt ho
        go_wp2_with fail
        refine (CDO.out _).mono ?_
        rintro e w8 ⟨rfl, b8⟩
        have B := btB B b8
        go_wp2_with fail
        go_ret
        exact ⟨rfl, B⟩
      · have B := btB B bt
        obtain ⟨q1, q2, q3, q4, q5, q6, q7⟩ := open_facts ho
        have CA2 := Lib.hid (allS_any t2 gs wt ht2 q1 q2 q3 q4)
        have CB2 := Lib.hid (fun v W (h : SlAt v gs.flatten W) => buildT_any v gs.flatten W h q5 (by omega))
        rw [show buildV gs.flatten = .tuple #[.string ⟨text.toArray⟩, .int .i64 0] by unfold buildV; rw [if_pos q6, if_neg (by omega), q7]] at CB2
        have HB := Lib.hid B
        clear q1 q2 q3 q4 q5 q6 q7 ho ht2 bt B
        go_wp2_with fail
        refine CA2.out.mono ?_
        rintro e w8 ⟨b8, v8, rfl, sl8⟩
        have B := btB HB.out b8
        clear b8 CA2 HB
        go_wp2_with fail
        refine (CB2.out _ _ sl8).mono ?_
        rintro e w9 ⟨rfl, b9⟩
        have B := btB B b9
        clear b9 CB2 sl8
        have n9 : (text == text) = true := by simp
        go_wp2_with fail
        refine (CDO.out _).mono ?_
        rintro e w10 ⟨rfl, b10⟩
        have B := btB B b10
        go_wp2_with fail
        go_ret
        exact ⟨rfl, B⟩
end Go.Proofs.Ytanaoepakllohaa
