/- TablesTorn's walk. -/
import Derived.Test.YtanaoepakllohaaTabV
set_option linter.unusedSimpArgs false
set_option linter.unusedVariables false
namespace Go.Proofs.Ytanaoepakllohaa
set_option maxRecDepth 16000
open Go.RowKit Spoor
set_option linter.unusedVariables false

set_option maxRecDepth 100000 in
set_option maxHeartbeats 16000000 in
theorem tablesTorn_law (w : World) (v : Value) (l : List Ce) (cut : Int) (more : ByteArray) (hs : SlAt v l w) (hn : v = .slice none 0 0 ∨ ∃ ad n c, v = .slice (some ad) n c) (hw : ∀ c ∈ l, WfC c) (hcut : (Lit.int IntKind.u32 cut).wf = true) (hmore : more.size ≤ 140737488351232) :
    Calls Try.prog 5 #[v, .int .u32 cut, .string more] w fun e w' => e = .returned (.bool true) ∧ Below w.heap.size w w' := by
  have es : more = ⟨more.data.toList.toArray⟩ := by cases more; simp
  rw [es] at hmore ⊢
  rw [size_of] at hmore
  generalize more.data.toList = m at *
  clear es
  have hc2 : 0 ≤ cut ∧ cut ≤ 4294967295 := by simpa [Lit.wf, IntKind.min, IntKind.max, IntKind.signed, IntKind.bits] using hcut
  have CDO := Lib.hid tdoes_true
  have cg := greatL_any v l 100 w hs hw (by omega)
  obtain ⟨M, hM⟩ : ∃ M, m.length = M := ⟨_, rfl⟩
  have hsm : (⟨m.toArray⟩ : ByteArray).size = M := by rw [← hM]; simp [ByteArray.size]
  cases hg : greatL l 100 with
  | true =>
    rw [hg] at cg
    have CG := Lib.hid cg
    clear cg hg hw hs hcut hM
    go_enter Try.func5, Try.ntmps5
    go_wp2_with fail
    refine CG.out.mono ?_
    rintro e w1 ⟨rfl, b1⟩
    go_wp2_with fail
    go_ret
    exact ⟨rfl, b1⟩
  | false =>
    have hf := fits_great hg hw
    obtain ⟨hl100, _⟩ := great_yes hg
    rw [hg] at cg
    have CG := Lib.hid cg
    by_cases hm100 : M ≤ 100
    rotate_left
    · have hmi : (100 : Int) < (M : Int) := by omega
      clear cg hg hw hs hcut hM hf
      go_enter Try.func5, Try.ntmps5
      go_wp2_with fail
      refine CG.out.mono ?_
      rintro e w1 ⟨rfl, b1⟩
      go_wp2_with fail
      go_ret
      exact ⟨rfl, b1⟩
    have hmi : ¬ (100 : Int) < (M : Int) := by omega
    have ce := fun W (h : SlAt v l W) => buildT_any v l W h hf (by omega)
    have HS0 := Lib.hid hs
    have hq := fits_q hf
    obtain ⟨S, q, hbv, (⟨rfl, hso, -, rfl⟩ | ⟨hq0, -, -⟩)⟩ := buildV_eq l
    rotate_left
    · rw [hbv] at ce
      have CE := Lib.hid ce
      have hqb : (q == 0) = false := by rw [beq_eq_false_iff_ne]; exact hq0
      clear cg hg hw hs hcut hM hf ce hbv hq
      go_enter Try.func5, Try.ntmps5
      go_wp2_with fail
      refine CG.out.mono ?_
      rintro e w1 ⟨rfl, b1⟩
      go_wp2_with fail
      refine (CE.out _ (HS0.out.later b1)).mono ?_
      rintro e w2 ⟨rfl, b2⟩
      have B := btB b1 b2
      go_wp2_with fail
      refine (CDO.out _).mono ?_
      rintro e w3 ⟨rfl, b3⟩
      have B := btB B b3
      go_wp2_with fail
      go_ret
      exact ⟨rfl, B⟩
    rw [hbv] at ce
    have CE := Lib.hid ce
    have tc := fun i (hi : i < (tableB l).length) => torn_cut hso hq (by omega) hi
    have tm := fun (h : m ≠ []) => torn_more hso hq (by omega) h
    have t0 := open_build hso (by omega) hq
    have hp := table_ne l
    have hln := (table_len hso hq (by omega)).2.2
    obtain ⟨S, hS⟩ : ∃ S, tableB l = S := ⟨_, rfl⟩
    rw [hS] at CE tc tm t0 hp hln
    obtain ⟨N, hN⟩ : ∃ N, S.length = N := ⟨_, rfl⟩
    have hsS : (⟨S.toArray⟩ : ByteArray).size = N := by rw [← hN]; simp [ByteArray.size]
    rw [hN] at tc hp hln
    obtain ⟨c, rfl⟩ : ∃ c : Nat, cut = (c : Int) := ⟨cut.toNat, by omega⟩
    obtain ⟨x, hx⟩ : ∃ x, c % N = x := ⟨_, rfl⟩
    have hxN : x < N := by rw [← hx]; exact Nat.mod_lt _ hp
    have hrem : Int.tmod (c : Int) (N : Int) = (x : Int) := by rw [← hx]; rfl
    have hN0 : ¬ (N : Int) = 0 := by omega
    have hNb : ((N : Int) == 0) = false := by rw [beq_eq_false_iff_ne]; exact hN0
    have hwc : IntKind.i64.wrap (c : Int) = (c : Int) := by rw [IntKind.wrap_i64]; omega
    have hwx : IntKind.i64.wrap (x : Int) = (x : Int) := by rw [IntKind.wrap_i64]; omega
    have hs1 : ∀ W, (Instr.slice 9 (.string ⟨S.toArray⟩) none (some (.int .i64 (x : Int))) none).run Try.prog W = .ok (.string ⟨(S.take x).toArray⟩) W := fun W => by
      have hh := slice_at ⟨S.toArray⟩ 0 x (0 : Int) (x : Int) rfl rfl (Nat.zero_le _) (by rw [hsS]; omega) W
      have e1 : (⟨S.toArray⟩ : ByteArray).data.toList = S := by simp
      rw [e1, List.drop_zero, Nat.sub_zero] at hh
      exact hh
    have C1 := Lib.hid (fun W => openT_none (tc x hxN) W (by rw [List.length_take]; omega))
    have hcat : (⟨S.toArray⟩ : ByteArray) ++ ⟨m.toArray⟩ = ⟨(S ++ m).toArray⟩ := bytes_cat S m
    have hSe : (S == ([] : List UInt8)) = false := by
      rw [beq_eq_false_iff_ne]
      rintro rfl
      simp at hN
      omega
    have C2 : Hid (∀ W, Calls Try.prog 17 #[.string ⟨(S ++ m).toArray⟩] W fun e w' => Below W.heap.size W w' ∧ ∃ p g, e = .returned (.tuple #[p, .int .i64 g]) ∧ (g == 0) = (m == [])) := Lib.hid (fun W => by
      have hlen : (S ++ m).length ≤ 1000000 := by rw [List.length_append]; omega
      by_cases hme : m = []
      · subst hme
        rw [List.append_nil] at hlen ⊢
        exact (openT_some t0 W hlen).mono fun e w' ⟨hb, t, he, _⟩ => ⟨hb, _, 0, he, rfl⟩
      · exact (openT_none (tm hme) W hlen).mono fun e w' ⟨he, hb⟩ => ⟨hb, _, 30, he, by
          have : (m == []) = false := by rw [beq_eq_false_iff_ne]; exact hme
          rw [this]
          rfl⟩)
    clear cg hg hw hs hcut hM hf ce hbv hq tc tm t0 hS hN hx
    go_enter Try.func5, Try.ntmps5
    go_wp2_with fail
    refine CG.out.mono ?_
    rintro e w1 ⟨rfl, b1⟩
    go_wp2_with fail
    refine (CE.out _ (HS0.out.later b1)).mono ?_
    rintro e w2 ⟨rfl, b2⟩
    have B := btB b1 b2
    go_wp2_with fail
    refine (C1.out _).mono ?_
    rintro e w3 ⟨rfl, b3⟩
    have B := btB B b3
    go_wp2_with fail
    refine (C2.out _).mono ?_
    rintro e w4 ⟨b4, p, g, rfl, hg0⟩
    have B := btB B b4
    obtain ⟨gb, hgb⟩ : ∃ gb, (g == 0) = gb := ⟨_, rfl⟩
    rw [hgb] at hg0
    go_wp2_with fail
    refine (CDO.out _).mono ?_
    rintro e w5 ⟨rfl, b5⟩
    have B := btB B b5
    go_wp2_with fail
    go_ret
    exact ⟨rfl, B⟩
end Go.Proofs.Ytanaoepakllohaa
