/- TablesEach's walk. -/
import Derived.Test.YtanaoepakllohaaTabV
set_option linter.unusedSimpArgs false
set_option linter.unusedVariables false
namespace Go.Proofs.Ytanaoepakllohaa
set_option maxRecDepth 16000
open Go.RowKit Spoor
set_option linter.unusedVariables false

theorem rise_pair {l : List Ce} (h : Rise l) {a b : Nat} (hab : a < b) (hb : b < l.length) : aheadC (l.getD a Ce.zero) (l.getD b Ce.zero) = true := by
  have h1 := List.pairwise_iff_getElem.1 h a b (by omega) hb hab
  have ea : l.getD a Ce.zero = l[a] := by simp [List.getD, show a < l.length by omega]
  have eb : l.getD b Ce.zero = l[b] := by simp [List.getD, hb]
  rw [ea, eb]
  exact h1
theorem ahead_less {c d : Ce} (h : aheadC c d = true) (hne : c.k ≠ d.k) : Op.bytesLess c.k d.k = true := by
  unfold aheadC at h
  rw [Bool.or_eq_true] at h
  rcases h with h | h
  · exact h
  · rw [Bool.and_eq_true, beq_iff_eq] at h
    exact absurd h.1 hne
theorem each_range {l : List Ce} (hr : Rise l) {k f z : Nat} {key : List UInt8} (hkey : (l.getD k Ce.zero).k = key) (hk : k < l.length) (hf : f ≤ k) (h1 : ∀ j, f ≤ j → j ≤ k → (l.getD j Ce.zero).k = key) (h2 : f = 0 ∨ (l.getD (f - 1) Ce.zero).k ≠ key)
    (hz : k ≤ z) (hzn : z ≤ l.length) (h3 : ∀ j, k ≤ j → j < z → (l.getD j Ce.zero).k = key) (h4 : z = l.length ∨ (l.getD z Ce.zero).k ≠ key) :
    findC l key = some (l.getD f Ce.zero) ∧ rangeC l key (key ++ [0]) = (l.drop f).take (z - f) ∧ rangeC l key [] = l.drop f := by
  have lo : ∀ j, j < f → Op.bytesLess (l.getD j Ce.zero).k key = true := fun j hj => by
    rcases h2 with h2 | h2
    · omega
    · have q1 : Op.bytesLess (l.getD (f - 1) Ce.zero).k key = true := by
        have q := ahead_less (rise_pair hr (show f - 1 < k by omega) hk) (by rw [hkey]; exact h2)
        rwa [hkey] at q
      by_cases e : j = f - 1
      · rw [e]; exact q1
      · exact key_mono (rise_pair hr (show j < f - 1 by omega) (by omega)) q1
  have hi : ∀ j, f ≤ j → j < l.length → Op.bytesLess (l.getD j Ce.zero).k key = false := fun j hj hjl => by
    by_cases e : j ≤ k
    · rw [h1 j hj e]; exact bl_irrefl _
    · cases hh : Op.bytesLess (l.getD j Ce.zero).k key with
      | false => rfl
      | true =>
        have q := key_mono (rise_pair hr (show k < j by omega) hjl) hh
        rw [hkey, bl_irrefl] at q
        cases q
  have up : ∀ j, z ≤ j → j < l.length → Op.bytesLess key (l.getD j Ce.zero).k = true := fun j hj hjl => by
    rcases h4 with h4 | h4
    · omega
    · have hkz : k ≠ z := fun e => h4 (by rw [← e]; exact hkey)
      have qz : Op.bytesLess key (l.getD z Ce.zero).k = true := by
        have q := ahead_less (rise_pair hr (show k < z by omega) (by omega)) (by rw [hkey]; exact Ne.symm h4)
        rwa [hkey] at q
      by_cases e : (l.getD j Ce.zero).k = key
      · exfalso
        by_cases ez : j = z
        · rw [ez] at e; exact h4 e
        · have q := ahead_less (rise_pair hr (show z < j by omega) hjl) (by rw [e]; exact h4)
          rw [e, bl_asymm qz] at q
          cases q
      · have q := ahead_less (rise_pair hr (show k < j by omega) hjl) (by rw [hkey]; exact Ne.symm e)
        rwa [hkey] at q
  refine ⟨?_, ?_, ?_⟩
  · exact findT_at (fun j hj e => by have := lo j hj; rw [e, bl_irrefl] at this; cases this) (by omega) (h1 f (Nat.le_refl _) hf)
  · refine rangeC_cut lo hi (.inr ⟨by simp, fun j hj hjl hfj => ?_, fun j hj hjl => ?_⟩) (by omega) hzn
    · rw [key_next]
      by_cases e : j ≤ k
      · rw [h1 j hfj e, bl_irrefl]; rfl
      · rw [h3 j (by omega) hj, bl_irrefl]; rfl
    · rw [key_next, up j hj hjl]; rfl
  · have e : rangeC l key [] = (l.drop f).take (l.length - f) := rangeC_cut lo hi (.inl ⟨rfl, rfl⟩) (by omega) (Nat.le_refl _)
    rw [e, ← List.length_drop, List.take_length]
set_option maxRecDepth 100000 in
set_option maxHeartbeats 16000000 in
theorem tablesEach_law (w : World) (v : Value) (l : List Ce) (hs : SlAt v l w) (hn : v = .slice none 0 0 ∨ ∃ ad n c, v = .slice (some ad) n c) (hw : ∀ c ∈ l, WfC c) :
    Calls Try.prog 6 #[v] w fun e w' => e = .returned (.bool true) ∧ Below w.heap.size w w' := by
  have CDO := Lib.hid tdoes_true
  have cg := greatL_any v l 200 w hs hw (by omega)
  cases hg : greatL l 200 with
  | true =>
    rw [hg] at cg
    have CG := Lib.hid cg
    clear cg hg hw hs
    go_enter Try.func6, Try.ntmps6
    go_wp2_with fail
    refine CG.out.mono ?_
    rintro e w1 ⟨rfl, b1⟩
    go_wp2_with fail
    go_ret
    exact ⟨rfl, b1⟩
  | false =>
    have hf := fits_great hg hw
    have hlen := (great_yes hg).1
    have hkl := fun k (hk : k < l.length) => getD_lt (P := fun c => c.k.length ≤ 1000) (fun c hc => ((great_yes hg).2 c hc).1) hk
    rw [hg] at cg
    have COP := Lib.hid (fun W (h : SlAt v l W) => opened_any v l W h hf (by omega))
    unfold OpenedEx at COP
    obtain ⟨A, cap, rfl, hc1, hc2, hrow⟩ := slAt_row hs
    obtain ⟨n, hnn⟩ : ∃ n, l.length = n := ⟨_, rfl⟩
    have hnb : n ≤ 100000 := by rw [← hnn]; omega
    have CG := Lib.hid cg
    have HN := Lib.hid hnn
    have HKL := Lib.hid hkl
    have HLEN := Lib.hid hlen
    have HRW := Lib.hid hrow
    have HCAP := Lib.hid hc2
    have HS := Lib.hid (fun W (hb : Below w.heap.size w W) => hs.later hb)
    rw [hnn] at hc1 CG COP HS ⊢
    clear cg hf hg hw hs hn hnn hrow hc2 hlen hkl
    go_enter Try.func6, Try.ntmps6
    go_wp2_with fail
    refine CG.out.mono ?_
    rintro e w1 ⟨rfl, b1⟩
    have HB1 := Lib.hid b1
    clear b1 CG
    go_wp2_with fail
    refine (COP.out _ (HS.out _ HB1.out)).mono ?_
    rintro e w3 ⟨b3, (⟨-, rfl⟩ | ⟨hso, t, rfl, ht⟩)⟩
    · have HB3 := Lib.hid (btBx HB1.out b3)
      clear b3 HB1 COP
      go_wp2_with fail
      refine (CDO.out _).mono ?_
      rintro e w4 ⟨rfl, b4⟩
      have hB := btBx HB3.out b4
      go_wp2_with fail
      go_ret
      exact ⟨rfl, hB⟩
    have HB3 := Lib.hid (btBx HB1.out b3)
    have HT := Lib.hid (fun W (hb : Below w3.heap.size w3 W) => ht.later hb)
    have hlen := HLEN.out
    obtain ⟨f1', f2', f3', f4'⟩ := fours_facts hso (by omega)
    have cgt := fun key (hk : key.length ≤ 140737488351232) W (h : TabAt t (fours l) W) => getT_any t (fours l) key W h f1' f2' f3' (by omega) hk
    have cr := fun x y W (h : TabAt t (fours l) W) => rangeS_any t (fours l) x y W h f1' f2' f3' f4'
    rw [fours_flat] at cgt cr f1'
    have CT := Lib.hid cgt
    have CR := Lib.hid cr
    have HRI := Lib.hid f1'
    clear b3 HB1 COP ht hso f1' f2' f3' f4' cgt cr hlen HLEN
    go_wp2_with fail
    go_loopw [5] (fun i wr => ∃ k : Nat, i = .int .i64 k ∧ k ≤ n ∧ Hid (Below w3.heap.size w3 wr)) (fun i _ => n - (intOf i).toNat)
    case atStart => exact ⟨0, rfl, by omega, Lib.hid (Below.refl _ _)⟩
    case round =>
      obtain ⟨k, rfl, hk, HBR⟩ := hrel
      by_cases hlt : k < n
      rotate_left
      · obtain rfl : k = n := by omega
        have HBE := Lib.hid (btBx HB3.out HBR.out)
        clear HBR HT CT CR
        go_wp2_with fail
        refine (CDO.out _).mono ?_
        rintro e w4 ⟨rfl, b4⟩
        have hB := btBx HBE.out b4
        go_wp2_with fail
        go_ret
        exact ⟨rfl, hB⟩
      have hkll : k < l.length := by rw [HN.out]; exact hlt
      obtain ⟨b, o, rfl, hrow⟩ := HRW.out (by omega)
      have HROW := Lib.hid (fun W (hb : Below w3.heap.size w3 W) => hrow.later (btBx HB3.out hb) hrow.1)
      have hblt := (HROW.out w3 (Below.refl _ _)).1
      have hkey0 := HKL.out k hkll
      obtain ⟨key, hkey⟩ : ∃ key, (l.getD k Ce.zero).k = key := ⟨_, rfl⟩
      have HKEY := Lib.hid hkey
      rw [hkey] at hkey0
      have HK0 := Lib.hid hkey0
      have HKL2 := Lib.hid hkll
      have HBL := Lib.hid hblt
      clear hrow hkey hkey0 hkll hblt
      go_wp2_with fail
      go_loopw [6] (fun fv wq => ∃ f : Nat, fv = .int .i64 f ∧ f ≤ k ∧ Hid (∀ j, f ≤ j → j ≤ k → (l.getD j Ce.zero).k = key) ∧ Hid (Below w3.heap.size w3 wq)) (fun fv _ => (intOf fv).toNat)
      case atStart => exact ⟨k, rfl, Nat.le_refl _, Lib.hid (fun j h1 h2 => by obtain rfl : j = k := (by omega); exact HKEY.out), HBR⟩
      case round =>
        obtain ⟨f, rfl, hfk, HF, HB2⟩ := hrel
        clear HBR
        obtain ⟨cb, hcb⟩ : ∃ cb, (decide (0 < f) && ((l.getD (f - 1) Ce.zero).k == key)) = cb := ⟨_, rfl⟩
        have HCB := Lib.hid hcb
        clear hcb
        go_upto_region 10 with fail
        go_cut [43] (fun v wx => v = .bool cb ∧ Hid (Below w3.heap.size w3 wx))
        case first =>
          obtain ⟨wq, hwq⟩ : ∃ wq, wr = wq := ⟨_, rfl⟩
          rw [hwq] at HB2 ⊢
          clear hwq
          have hlt2 := Nat.lt_of_lt_of_le HBL.out HB2.out.size
          obtain ⟨y0, -, -⟩ := (HROW.out _ HB2.out).cells HKL2.out
          rw [HKEY.out] at y0
          by_cases hf0 : 0 < f
          · obtain ⟨g, hg⟩ : ∃ g, f - 1 = g := ⟨_, rfl⟩
            have hgl : g < l.length := by have := HKL2.out; omega
            obtain ⟨x0, -, -⟩ := (HROW.out _ HB2.out).cells hgl
            have hwg : IntKind.i64.wrap ((f : Int) - 1) = (g : Int) := by rw [IntKind.wrap_i64]; omega
            have hf0i : (0 : Int) < (f : Int) := by omega
            have hgn : g < n := by omega
            have hgni : (g : Int) < (n : Int) := by omega
            have hkni : (k : Int) < (n : Int) := by omega
            have hcb := HCB.out
            rw [hg, decide_eq_true hf0, Bool.true_and] at hcb
            have HCC := Lib.hid hcb
            obtain ⟨kg, hkg⟩ : ∃ kg, (l.getD g Ce.zero).k = kg := ⟨_, rfl⟩
            rw [hkg] at x0 HCC
            clear hcb hkg
            refine wp_region_more (by kernel_rfl) (by kernel_rfl) ?_
            repeat (go_big_quiet_step (fail))
            refine wpQuiet_nil ?_
            rintro _ ⟨ex, rfl⟩
            have hbx := World.below_more wq ex
            go_wp2_with fail
            go_meet
            exact ⟨by rw [← HCC.out], Lib.hid (btBx HB2.out hbx)⟩
          · obtain rfl : f = 0 := by omega
            refine wp_region_more (by kernel_rfl) (by kernel_rfl) ?_
            repeat (go_big_quiet_step (fail))
            refine wpQuiet_nil ?_
            rintro _ ⟨ex, rfl⟩
            have hbx := World.below_more wq ex
            go_wp2_with fail
            go_meet
            exact ⟨by rw [← HCB.out]; rfl, Lib.hid (btBx HB2.out hbx)⟩
        obtain ⟨hcv, HB4⟩ := hcut
        subst hcv
        clear HB2
        cases cb with
        | true =>
          have hcb := HCB.out
          rw [Bool.and_eq_true, decide_eq_true_eq, beq_iff_eq] at hcb
          have HF2 := Lib.hid (show ∀ j, f - 1 ≤ j → j ≤ k → (l.getD j Ce.zero).k = key from fun j h1 h2 => by
            by_cases e : j = f - 1
            · rw [e]; exact hcb.2
            · exact HF.out j (by omega) h2)
          have hf0 := hcb.1
          obtain ⟨g, hg⟩ : ∃ g, f - 1 = g := ⟨_, rfl⟩
          have hwg : IntKind.i64.wrap ((f : Int) - 1) = (g : Int) := by rw [IntKind.wrap_i64]; omega
          rw [hg] at HF2
          clear hcb HF HCB
          go_wp2_with fail
          go_roundw
          case rel => exact ⟨g, rfl, by omega, HF2, HB4⟩
          case measure => simp [intOf]; omega
        | false =>
          have HF0 := Lib.hid (show f = 0 ∨ (l.getD (f - 1) Ce.zero).k ≠ key from by
            have hcb := HCB.out
            rcases Nat.eq_zero_or_pos f with h | h
            · exact .inl h
            · rw [decide_eq_true h, Bool.true_and, beq_eq_false_iff_ne] at hcb
              exact .inr hcb)
          clear HCB
          go_wp2_with fail
          go_loopw [7] (fun zv wq => ∃ z : Nat, zv = .int .i64 z ∧ k ≤ z ∧ z ≤ n ∧ Hid (∀ j, k ≤ j → j < z → (l.getD j Ce.zero).k = key) ∧ Hid (Below w3.heap.size w3 wq)) (fun zv _ => n - (intOf zv).toNat)
          case atStart => exact ⟨k, rfl, Nat.le_refl _, hk, Lib.hid (fun j h1 h2 => by omega), HB4⟩
          case round =>
            obtain ⟨z, rfl, hkz, hzn, HZ, HB2⟩ := hrel
            clear HB4
            obtain ⟨cb, hcb⟩ : ∃ cb, (decide (z < n) && ((l.getD z Ce.zero).k == key)) = cb := ⟨_, rfl⟩
            have HCB := Lib.hid hcb
            clear hcb
            go_upto_region 12 with fail
            go_cut [62] (fun v wx => v = .bool cb ∧ Hid (Below w3.heap.size w3 wx))
            case first =>
              obtain ⟨wq, hwq⟩ : ∃ wq, wr = wq := ⟨_, rfl⟩
              rw [hwq] at HB2 ⊢
              clear hwq
              have hlt2 := Nat.lt_of_lt_of_le HBL.out HB2.out.size
              obtain ⟨y0, -, -⟩ := (HROW.out _ HB2.out).cells HKL2.out
              rw [HKEY.out] at y0
              have hkni : (k : Int) < (n : Int) := by omega
              by_cases hz0 : z < n
              · have hzl : z < l.length := by rw [HN.out]; exact hz0
                obtain ⟨x0, -, -⟩ := (HROW.out _ HB2.out).cells hzl
                have hzni : (z : Int) < (n : Int) := by omega
                have hcb := HCB.out
                rw [decide_eq_true hz0, Bool.true_and] at hcb
                have HCC := Lib.hid hcb
                obtain ⟨kg, hkg⟩ : ∃ kg, (l.getD z Ce.zero).k = kg := ⟨_, rfl⟩
                rw [hkg] at x0 HCC
                clear hcb hkg
                refine wp_region_more (by kernel_rfl) (by kernel_rfl) ?_
                repeat (go_big_quiet_step (fail))
                refine wpQuiet_nil ?_
                rintro _ ⟨ex, rfl⟩
                have hbx := World.below_more wq ex
                go_wp2_with fail
                go_meet
                exact ⟨by rw [← HCC.out], Lib.hid (btBx HB2.out hbx)⟩
              · obtain rfl : z = n := by omega
                refine wp_region_more (by kernel_rfl) (by kernel_rfl) ?_
                repeat (go_big_quiet_step (fail))
                refine wpQuiet_nil ?_
                rintro _ ⟨ex, rfl⟩
                have hbx := World.below_more wq ex
                go_wp2_with fail
                go_meet
                exact ⟨by rw [← HCB.out]; simp, Lib.hid (btBx HB2.out hbx)⟩
            obtain ⟨hcv, HB5⟩ := hcut
            subst hcv
            clear HB2
            cases cb with
            | true =>
              have hcb := HCB.out
              rw [Bool.and_eq_true, decide_eq_true_eq, beq_iff_eq] at hcb
              have HZ2 := Lib.hid (show ∀ j, k ≤ j → j < z + 1 → (l.getD j Ce.zero).k = key from fun j h1 h2 => by
                by_cases e : j = z
                · rw [e]; exact hcb.2
                · exact HZ.out j h1 (by omega))
              have hz0 := hcb.1
              clear hcb HZ HCB
              go_wp2_with fail
              go_roundw
              case rel => exact ⟨z + 1, by go_num, by omega, by omega, HZ2, HB5⟩
              case measure => simp [intOf]; omega
            | false =>
              have hz4 : z = l.length ∨ (l.getD z Ce.zero).k ≠ key := by
                have hcb := HCB.out
                rw [HN.out]
                by_cases h : z < n
                · rw [decide_eq_true h, Bool.true_and, beq_eq_false_iff_ne] at hcb
                  exact .inr hcb
                · exact .inl (by omega)
              obtain ⟨p1, p2, p3⟩ := each_range HRI.out HKEY.out HKL2.out hfk HF.out HF0.out hkz (by rw [HN.out]; exact hzn) HZ.out hz4
              have hfl : f < l.length := by have := HKL2.out; omega
              have cgt := fun W (h : TabAt t (fours l) W) => CT.out key (by have := HK0.out; omega) W h
              have cr1 := fun W (h : TabAt t (fours l) W) => CR.out key (key ++ [0]) W h
              have cr2 := fun W (h : TabAt t (fours l) W) => CR.out key [] W h
              rw [p1] at cgt
              rw [p2] at cr1
              rw [p3] at cr2
              have cq1 := fun a W (h : SlAt a ((l.drop f).take (z - f)) W) (hr : RowAt b o l W) => sameCells_any a (.slice (some ⟨b, o + f * 3, none⟩) (z - f) (cap - f)) _ _ W h (sl_cut hr HN.out (by omega) hzn hc1 HCAP.out)
              rw [decide_eq_true rfl] at cq1
              have e9 : (l.drop f).take (n - f) = l.drop f := by rw [← HN.out, ← List.length_drop, List.take_length]
              have cq2 := fun a W (h : SlAt a (l.drop f) W) (hr : RowAt b o l W) => sameCells_any a (.slice (some ⟨b, o + f * 3, none⟩) (n - f) (cap - f)) _ _ W h (by have := sl_cut hr HN.out (show f ≤ n by omega) (Nat.le_refl n) hc1 HCAP.out; rwa [e9] at this)
              rw [decide_eq_true rfl] at cq2
              obtain ⟨x, hx⟩ : ∃ x, l.getD f Ce.zero = x := ⟨_, rfl⟩
              have hrf := fun W (hb : Below w3.heap.size w3 W) => (HROW.out W hb).cells hfl
              have hrk := fun W (hb : Below w3.heap.size w3 W) => ((HROW.out W hb).cells HKL2.out).1
              rw [hx] at cgt
              simp only [hx] at hrf
              simp only [HKEY.out] at hrk
              rw [show ceV (some x) = .tuple #[.agg #[.string ⟨x.k.toArray⟩, .int .i64 x.q, .string ⟨x.v.toArray⟩], .bool true] from rfl] at cgt
              have CG1 := Lib.hid cgt
              have CR1 := Lib.hid cr1
              have CR2 := Lib.hid cr2
              have CQ1 := Lib.hid (fun a W h hr => cq1 a W h hr)
              have CQ2 := Lib.hid (fun a W h hr => cq2 a W h hr)
              have HRF := Lib.hid hrf
              have HRK := Lib.hid hrk
              have hcat := bytes_snoc key
              have hal : key.length ≤ 140737488351232 := by have := HK0.out; omega
              have hal2 : (⟨key.toArray⟩ : ByteArray).size ≤ 140737488351232 := by rw [size_of]; exact hal
              have hkni : (k : Int) < (n : Int) := by omega
              have hfni : (f : Int) < (n : Int) := by omega
              have hfn : f < n := by omega
              have hac1 : ¬ (cap = f) := by omega
              have hac2 : f ≤ cap := by omega
              have hac3 : z ≤ cap := by omega
              have hac4 : f ≤ z := by omega
              have hac5 : f ≤ n := by omega
              have LAT0 := Lib.hid (fun W (hb : Below w3.heap.size w3 W) => And.intro (HT.out W hb) (And.intro (HROW.out W hb) hb))
              have s0 := HRK.out _ HB5.out
              clear p1 p2 p3 hz4 cgt cr1 cr2 cq1 cq2 e9 hrf hrk hx HZ HF HF0 HCB
              go_wp2_with fail
              clear s0
              refine (CG1.out _ (HT.out _ HB5.out)).mono ?_
              rintro e w5 ⟨rfl, b5⟩
              have LAT5 := Lib.hid (fun W (hb : Below w5.heap.size w5 W) => LAT0.out W (btBx HB5.out (btBx b5 hb)))
              clear b5 LAT0 CG1
              have nb6 := (Below.refl w5.heap.size w5).alloc (Nat.le_refl _) (boxC Ce.zero)
              have q6 := CeAt.boxed Ce.zero w5
              obtain ⟨c6, hc6⟩ : ∃ c6, w5.heap.size = c6 := ⟨_, rfl⟩
              have hcc6 : w5.heap.size ≤ c6 := by omega
              rw [hc6] at q6
              obtain ⟨v6, hv6⟩ : ∃ v6, w5.alloc (boxC Ce.zero) = v6 := ⟨_, rfl⟩
              have hvv6 : w5.alloc (.cells #[.string ⟨#[]⟩, .int .i64 0, .string ⟨#[]⟩] 36) = v6 := hv6
              rw [hv6] at nb6 q6
              obtain ⟨y0, y1, y2⟩ := q6.cell
              obtain ⟨z0, z1, z2⟩ := q6.frees
              unfold Ce.zero at y0 y1 y2
              dsimp only at y0 y1 y2
              have HQ6 := Lib.hid (q6.all nb6 hcc6 x)
              have hlt6 := q6.lt
              clear nb6 hv6 q6
              go_wp2_with fail
              obtain ⟨qq6, bb6⟩ := HQ6.out
              generalize (((v6.setCell ⟨c6, 0, none⟩ (.string ⟨(x).k.toArray⟩)).setCell ⟨c6, 1, none⟩ (.int .i64 (x).q)).setCell ⟨c6, 2, none⟩ (.string ⟨(x).v.toArray⟩)) = w6 at *
              have LAT6 := Lib.hid (fun W (hb : Below w6.heap.size w6 W) => And.intro (qq6.later hb qq6.lt) (LAT5.out W (btB bb6 hb)))
              clear y0 y1 y2 z0 z1 z2 HQ6 hvv6 bb6 qq6 LAT5
              have LD := Lib.hid (fun W (hb : Below w6.drew.heap.size w6.drew W) => And.intro (LAT6.out W ((Below.drew (Below.refl w6.heap.size w6)).trans hb)).1.cell (And.intro (HRF.out W (LAT6.out W ((Below.drew (Below.refl w6.heap.size w6)).trans hb)).2.2.2) (HRK.out W (LAT6.out W ((Below.drew (Below.refl w6.heap.size w6)).trans hb)).2.2.2)))
              have LAT := Lib.hid (fun W (hb : Below w6.drew.heap.size w6.drew W) => (LAT6.out W ((Below.drew (Below.refl w6.heap.size w6)).trans hb)).2)
              clear LAT6 HRF HRK
              as_aux_lemma =>
                refine (wpIn_wide (n := 5)).1 ?_
                refine wpIn_region_rel [[], [(0, some 75)], [(1, some 76)], [(2, some 77)], [(2, some 77)], [(2, some 77)], [(2, some 77), (4, some 79), (5, some 80)], [(2, some 77), (6, some 81)], [(2, some 77), (3, some 78), (7, some 82)], [(2, some 77), (8, some 83)], [(9, some 84)], [(10, some 85)], [(10, some 85)], [(10, some 85)], [(10, some 85), (12, some 87), (13, some 88)], [(10, some 85), (14, some 89)], [(10, some 85), (15, some 90)], [(10, some 85)], [(10, some 85)], [(10, some 85), (17, some 92), (18, some 93)], [(10, some 85), (19, some 94)], [(10, some 85), (20, some 95)], [(10, some 85), (21, some 96)], [(10, some 85), (11, some 86), (16, some 91), (22, some 97)], [(10, some 85)], [(10, some 85)], [(10, some 85)], [(10, some 85), (24, some 99), (25, some 100), (26, some 101)], [(10, some 85), (23, some 98), (27, some 102)], [(10, some 85), (28, some 103)], [(10, some 85), (29, some 104)], [(30, some 105)], [(31, some 106)], [(31, some 106)], [(31, some 106)], [(31, some 106), (33, some 108), (34, some 109)], [(31, some 106), (35, some 110)], [(31, some 106), (36, some 111)], [(31, some 106), (32, some 107), (37, some 112)], [(31, some 106)], [(31, some 106)], [(31, some 106), (39, some 114), (40, some 115)], [(31, some 106), (38, some 113), (41, some 116)], [(31, some 106), (42, some 117)], [(31, some 106), (43, some 118)]]
                  [fun v _ => v = Value.bool true, fun v _ => v = Value.bool false, fun v _ => v = Value.bool false, fun v _ => v = Value.agg #[.string ⟨x.k.toArray⟩, .int .i64 x.q, .string ⟨x.v.toArray⟩], fun v _ => v = Value.slice (some ⟨b, o, none⟩) n cap, fun v _ => v = Value.int .i64 f, fun v _ => v = Value.pointer (some ⟨b, o + f * 3, none⟩), fun v _ => v = Value.agg #[.string ⟨x.k.toArray⟩, .int .i64 x.q, .string ⟨x.v.toArray⟩], fun v _ => v = Value.bool false, fun v _ => v = Value.bool false, fun v _ => v = Value.bool false, fun v _ => v = Value.pointer (some ⟨t, 0, none⟩), fun v _ => v = Value.slice (some ⟨b, o, none⟩) n cap, fun v _ => v = Value.int .i64 k, fun v _ => v = Value.pointer (some ⟨b, o + k * 3, none⟩), fun v _ => v = Value.pointer (some ⟨b, o + k * 3, none⟩), fun v _ => v = Value.string ⟨key.toArray⟩, fun v _ => v = Value.slice (some ⟨b, o, none⟩) n cap, fun v _ => v = Value.int .i64 k, fun v _ => v = Value.pointer (some ⟨b, o + k * 3, none⟩), fun v _ => v = Value.pointer (some ⟨b, o + k * 3, none⟩), fun v _ => v = Value.string ⟨key.toArray⟩, fun v _ => v = Value.string ⟨(key ++ [0]).toArray⟩, fun v W => SlAt v ((l.drop f).take (z - f)) W, fun v _ => v = Value.slice (some ⟨b, o, none⟩) n cap, fun v _ => v = Value.int .i64 f, fun v _ => v = Value.int .i64 z, fun v _ => v = Value.slice (some ⟨b, o + f * 3, none⟩) (z - f) (cap - f), fun v _ => v = Value.bool true, fun v _ => v = Value.bool false, fun v _ => v = Value.bool false, fun v _ => v = Value.bool false, fun v _ => v = Value.pointer (some ⟨t, 0, none⟩), fun v _ => v = Value.slice (some ⟨b, o, none⟩) n cap, fun v _ => v = Value.int .i64 k, fun v _ => v = Value.pointer (some ⟨b, o + k * 3, none⟩), fun v _ => v = Value.pointer (some ⟨b, o + k * 3, none⟩), fun v _ => v = Value.string ⟨key.toArray⟩, fun v W => SlAt v (l.drop f) W, fun v _ => v = Value.slice (some ⟨b, o, none⟩) n cap, fun v _ => v = Value.int .i64 f, fun v _ => v = Value.slice (some ⟨b, o + f * 3, none⟩) (n - f) (cap - f), fun v _ => v = Value.bool true, fun v _ => v = Value.bool false, fun v _ => v = Value.bool false]
                  [(0, some 75), (1, some 76), (2, some 77), (3, some 78), (4, some 79), (5, some 80), (6, some 81), (7, some 82), (8, some 83), (9, some 84), (10, some 85), (11, some 86), (12, some 87), (13, some 88), (14, some 89), (15, some 90), (16, some 91), (17, some 92), (18, some 93), (19, some 94), (20, some 95), (21, some 96), (22, some 97), (23, some 98), (24, some 99), (25, some 100), (26, some 101), (27, some 102), (28, some 103), (29, some 104), (30, some 105), (31, some 106), (32, some 107), (33, some 108), (34, some 109), (35, some 110), (36, some 111), (37, some 112), (38, some 113), (39, some 114), (40, some 115), (41, some 116), (42, some 117), (43, some 118), (44, some 119)] (by kernel_rfl) (by kernel_rfl) (by kernel_rfl) ⟨MonoR.is _, MonoR.is _, MonoR.is _, MonoR.is _, MonoR.is _, MonoR.is _, MonoR.is _, MonoR.is _, MonoR.is _, MonoR.is _, MonoR.is _, MonoR.is _, MonoR.is _, MonoR.is _, MonoR.is _, MonoR.is _, MonoR.is _, MonoR.is _, MonoR.is _, MonoR.is _, MonoR.is _, MonoR.is _, MonoR.is _, MonoR.sl _, MonoR.is _, MonoR.is _, MonoR.is _, MonoR.is _, MonoR.is _, MonoR.is _, MonoR.is _, MonoR.is _, MonoR.is _, MonoR.is _, MonoR.is _, MonoR.is _, MonoR.is _, MonoR.is _, MonoR.sl _, MonoR.is _, MonoR.is _, MonoR.is _, MonoR.is _, MonoR.is _, MonoR.is _, trivial⟩ ?_ ?_
                · refine ⟨?_, ?_⟩
                  · intro vs W hb hD K hK
                    simp only [fillL, Act.put, List.setIfInBounds_toArray, List.set_cons_succ, List.set_cons_zero] at hK ⊢
                    clear hD
                    refine want_yes (by kernel_rfl) ?_
                    go_simp
                    exact hK _ _ _ rfl (Below.refl _ _) rfl
                  refine ⟨?_, ?_⟩
                  · intro vs W hb hD K hK
                    have h0 : vs 0 = Value.bool true := hD (0, some 75) List.mem_cons_self
                    simp only [fillL, Act.put, List.setIfInBounds_toArray, List.set_cons_succ, List.set_cons_zero, h0] at hK ⊢
                    clear hD h0
                    refine want_yes (by kernel_rfl) ?_
                    go_simp
                    exact hK _ _ _ rfl (Below.refl _ _) rfl
                  refine ⟨?_, ?_⟩
                  · intro vs W hb hD K hK
                    have h1 : vs 1 = Value.bool false := hD (1, some 76) List.mem_cons_self
                    simp only [fillL, Act.put, List.setIfInBounds_toArray, List.set_cons_succ, List.set_cons_zero, h1] at hK ⊢
                    clear hD h1
                    refine want_yes (by kernel_rfl) ?_
                    go_simp
                    exact hK _ _ _ rfl (Below.refl _ _) rfl
                  refine ⟨?_, ?_⟩
                  · intro vs W hb hD K hK
                    have h2 : vs 2 = Value.bool false := hD (2, some 77) List.mem_cons_self
                    simp only [fillL, Act.put, List.setIfInBounds_toArray, List.set_cons_succ, List.set_cons_zero, h2] at hK ⊢
                    clear hD h2
                    refine want_yes (by kernel_rfl) ?_
                    obtain ⟨⟨a0, a1, a2⟩, ⟨r0, r1, r2⟩, s0⟩ := LD.out W hb
                    go_simp
                    exact hK _ _ _ rfl (Below.refl _ _) rfl
                  refine ⟨?_, ?_⟩
                  · intro vs W hb hD K hK
                    have h2 : vs 2 = Value.bool false := hD (2, some 77) List.mem_cons_self
                    simp only [fillL, Act.put, List.setIfInBounds_toArray, List.set_cons_succ, List.set_cons_zero, h2] at hK ⊢
                    clear hD h2
                    refine want_yes (by kernel_rfl) ?_
                    go_simp
                    exact hK _ _ _ rfl (Below.refl _ _) rfl
                  refine ⟨?_, ?_⟩
                  · intro vs W hb hD K hK
                    have h2 : vs 2 = Value.bool false := hD (2, some 77) List.mem_cons_self
                    simp only [fillL, Act.put, List.setIfInBounds_toArray, List.set_cons_succ, List.set_cons_zero, h2] at hK ⊢
                    clear hD h2
                    refine want_yes (by kernel_rfl) ?_
                    go_simp
                    exact hK _ _ _ rfl (Below.refl _ _) rfl
                  refine ⟨?_, ?_⟩
                  · intro vs W hb hD K hK
                    have h2 : vs 2 = Value.bool false := hD (2, some 77) List.mem_cons_self
                    have h4 : vs 4 = Value.slice (some ⟨b, o, none⟩) n cap := hD (4, some 79) (List.mem_cons_of_mem _ List.mem_cons_self)
                    have h5 : vs 5 = Value.int .i64 f := hD (5, some 80) (List.mem_cons_of_mem _ (List.mem_cons_of_mem _ List.mem_cons_self))
                    simp only [fillL, Act.put, List.setIfInBounds_toArray, List.set_cons_succ, List.set_cons_zero, h2, h4, h5] at hK ⊢
                    clear hD h2 h4 h5
                    refine want_yes (by kernel_rfl) ?_
                    go_simp
                    exact hK _ _ _ rfl (Below.refl _ _) rfl
                  refine ⟨?_, ?_⟩
                  · intro vs W hb hD K hK
                    have h2 : vs 2 = Value.bool false := hD (2, some 77) List.mem_cons_self
                    have h6 : vs 6 = Value.pointer (some ⟨b, o + f * 3, none⟩) := hD (6, some 81) (List.mem_cons_of_mem _ List.mem_cons_self)
                    simp only [fillL, Act.put, List.setIfInBounds_toArray, List.set_cons_succ, List.set_cons_zero, h2, h6] at hK ⊢
                    clear hD h2 h6
                    refine want_yes (by kernel_rfl) ?_
                    obtain ⟨⟨a0, a1, a2⟩, ⟨r0, r1, r2⟩, s0⟩ := LD.out W hb
                    go_simp
                    exact hK _ _ _ rfl (Below.refl _ _) rfl
                  refine ⟨?_, ?_⟩
                  · intro vs W hb hD K hK
                    have h2 : vs 2 = Value.bool false := hD (2, some 77) List.mem_cons_self
                    have h3 : vs 3 = Value.agg #[.string ⟨x.k.toArray⟩, .int .i64 x.q, .string ⟨x.v.toArray⟩] := hD (3, some 78) (List.mem_cons_of_mem _ List.mem_cons_self)
                    have h7 : vs 7 = Value.agg #[.string ⟨x.k.toArray⟩, .int .i64 x.q, .string ⟨x.v.toArray⟩] := hD (7, some 82) (List.mem_cons_of_mem _ (List.mem_cons_of_mem _ List.mem_cons_self))
                    simp only [fillL, Act.put, List.setIfInBounds_toArray, List.set_cons_succ, List.set_cons_zero, h2, h3, h7] at hK ⊢
                    clear hD h2 h3 h7
                    refine want_yes (by kernel_rfl) ?_
                    have k1 : (x.k == x.k) = true := by simp
                    have k2 : (x.v == x.v) = true := by simp
                    have k3 : (x.k != x.k) = false := by simp
                    have k4 : (x.v != x.v) = false := by simp
                    go_simp
                    exact hK _ _ _ rfl (Below.refl _ _) rfl
                  refine ⟨?_, ?_⟩
                  · intro vs W hb hD K hK
                    have h2 : vs 2 = Value.bool false := hD (2, some 77) List.mem_cons_self
                    have h8 : vs 8 = Value.bool false := hD (8, some 83) (List.mem_cons_of_mem _ List.mem_cons_self)
                    simp only [fillL, Act.put, List.setIfInBounds_toArray, List.set_cons_succ, List.set_cons_zero, h2, h8] at hK ⊢
                    clear hD h2 h8
                    refine want_yes (by kernel_rfl) ?_
                    go_simp
                    exact hK _ _ _ rfl (Below.refl _ _) rfl
                  refine ⟨?_, ?_⟩
                  · intro vs W hb hD K hK
                    have h9 : vs 9 = Value.bool false := hD (9, some 84) List.mem_cons_self
                    simp only [fillL, Act.put, List.setIfInBounds_toArray, List.set_cons_succ, List.set_cons_zero, h9] at hK ⊢
                    clear hD h9
                    refine want_yes (by kernel_rfl) ?_
                    go_simp
                    exact hK _ _ _ rfl (Below.refl _ _) rfl
                  refine ⟨?_, ?_⟩
                  · intro vs W hb hD K hK
                    have h10 : vs 10 = Value.bool false := hD (10, some 85) List.mem_cons_self
                    simp only [fillL, Act.put, List.setIfInBounds_toArray, List.set_cons_succ, List.set_cons_zero, h10] at hK ⊢
                    clear hD h10
                    refine want_yes (by kernel_rfl) ?_
                    go_simp
                    exact hK _ _ _ rfl (Below.refl _ _) rfl
                  refine ⟨?_, ?_⟩
                  · intro vs W hb hD K hK
                    have h10 : vs 10 = Value.bool false := hD (10, some 85) List.mem_cons_self
                    simp only [fillL, Act.put, List.setIfInBounds_toArray, List.set_cons_succ, List.set_cons_zero, h10] at hK ⊢
                    clear hD h10
                    refine want_yes (by kernel_rfl) ?_
                    go_simp
                    exact hK _ _ _ rfl (Below.refl _ _) rfl
                  refine ⟨?_, ?_⟩
                  · intro vs W hb hD K hK
                    have h10 : vs 10 = Value.bool false := hD (10, some 85) List.mem_cons_self
                    simp only [fillL, Act.put, List.setIfInBounds_toArray, List.set_cons_succ, List.set_cons_zero, h10] at hK ⊢
                    clear hD h10
                    refine want_yes (by kernel_rfl) ?_
                    go_simp
                    exact hK _ _ _ rfl (Below.refl _ _) rfl
                  refine ⟨?_, ?_⟩
                  · intro vs W hb hD K hK
                    have h10 : vs 10 = Value.bool false := hD (10, some 85) List.mem_cons_self
                    have h12 : vs 12 = Value.slice (some ⟨b, o, none⟩) n cap := hD (12, some 87) (List.mem_cons_of_mem _ List.mem_cons_self)
                    have h13 : vs 13 = Value.int .i64 k := hD (13, some 88) (List.mem_cons_of_mem _ (List.mem_cons_of_mem _ List.mem_cons_self))
                    simp only [fillL, Act.put, List.setIfInBounds_toArray, List.set_cons_succ, List.set_cons_zero, h10, h12, h13] at hK ⊢
                    clear hD h10 h12 h13
                    refine want_yes (by kernel_rfl) ?_
                    go_simp
                    exact hK _ _ _ rfl (Below.refl _ _) rfl
                  refine ⟨?_, ?_⟩
                  · intro vs W hb hD K hK
                    have h10 : vs 10 = Value.bool false := hD (10, some 85) List.mem_cons_self
                    have h14 : vs 14 = Value.pointer (some ⟨b, o + k * 3, none⟩) := hD (14, some 89) (List.mem_cons_of_mem _ List.mem_cons_self)
                    simp only [fillL, Act.put, List.setIfInBounds_toArray, List.set_cons_succ, List.set_cons_zero, h10, h14] at hK ⊢
                    clear hD h10 h14
                    refine want_yes (by kernel_rfl) ?_
                    go_simp
                    exact hK _ _ _ rfl (Below.refl _ _) rfl
                  refine ⟨?_, ?_⟩
                  · intro vs W hb hD K hK
                    have h10 : vs 10 = Value.bool false := hD (10, some 85) List.mem_cons_self
                    have h15 : vs 15 = Value.pointer (some ⟨b, o + k * 3, none⟩) := hD (15, some 90) (List.mem_cons_of_mem _ List.mem_cons_self)
                    simp only [fillL, Act.put, List.setIfInBounds_toArray, List.set_cons_succ, List.set_cons_zero, h10, h15] at hK ⊢
                    clear hD h10 h15
                    refine want_yes (by kernel_rfl) ?_
                    obtain ⟨⟨a0, a1, a2⟩, ⟨r0, r1, r2⟩, s0⟩ := LD.out W hb
                    go_simp
                    exact hK _ _ _ rfl (Below.refl _ _) rfl
                  refine ⟨?_, ?_⟩
                  · intro vs W hb hD K hK
                    have h10 : vs 10 = Value.bool false := hD (10, some 85) List.mem_cons_self
                    simp only [fillL, Act.put, List.setIfInBounds_toArray, List.set_cons_succ, List.set_cons_zero, h10] at hK ⊢
                    clear hD h10
                    refine want_yes (by kernel_rfl) ?_
                    go_simp
                    exact hK _ _ _ rfl (Below.refl _ _) rfl
                  refine ⟨?_, ?_⟩
                  · intro vs W hb hD K hK
                    have h10 : vs 10 = Value.bool false := hD (10, some 85) List.mem_cons_self
                    simp only [fillL, Act.put, List.setIfInBounds_toArray, List.set_cons_succ, List.set_cons_zero, h10] at hK ⊢
                    clear hD h10
                    refine want_yes (by kernel_rfl) ?_
                    go_simp
                    exact hK _ _ _ rfl (Below.refl _ _) rfl
                  refine ⟨?_, ?_⟩
                  · intro vs W hb hD K hK
                    have h10 : vs 10 = Value.bool false := hD (10, some 85) List.mem_cons_self
                    have h17 : vs 17 = Value.slice (some ⟨b, o, none⟩) n cap := hD (17, some 92) (List.mem_cons_of_mem _ List.mem_cons_self)
                    have h18 : vs 18 = Value.int .i64 k := hD (18, some 93) (List.mem_cons_of_mem _ (List.mem_cons_of_mem _ List.mem_cons_self))
                    simp only [fillL, Act.put, List.setIfInBounds_toArray, List.set_cons_succ, List.set_cons_zero, h10, h17, h18] at hK ⊢
                    clear hD h10 h17 h18
                    refine want_yes (by kernel_rfl) ?_
                    go_simp
                    exact hK _ _ _ rfl (Below.refl _ _) rfl
                  refine ⟨?_, ?_⟩
                  · intro vs W hb hD K hK
                    have h10 : vs 10 = Value.bool false := hD (10, some 85) List.mem_cons_self
                    have h19 : vs 19 = Value.pointer (some ⟨b, o + k * 3, none⟩) := hD (19, some 94) (List.mem_cons_of_mem _ List.mem_cons_self)
                    simp only [fillL, Act.put, List.setIfInBounds_toArray, List.set_cons_succ, List.set_cons_zero, h10, h19] at hK ⊢
                    clear hD h10 h19
                    refine want_yes (by kernel_rfl) ?_
                    go_simp
                    exact hK _ _ _ rfl (Below.refl _ _) rfl
                  refine ⟨?_, ?_⟩
                  · intro vs W hb hD K hK
                    have h10 : vs 10 = Value.bool false := hD (10, some 85) List.mem_cons_self
                    have h20 : vs 20 = Value.pointer (some ⟨b, o + k * 3, none⟩) := hD (20, some 95) (List.mem_cons_of_mem _ List.mem_cons_self)
                    simp only [fillL, Act.put, List.setIfInBounds_toArray, List.set_cons_succ, List.set_cons_zero, h10, h20] at hK ⊢
                    clear hD h10 h20
                    refine want_yes (by kernel_rfl) ?_
                    obtain ⟨⟨a0, a1, a2⟩, ⟨r0, r1, r2⟩, s0⟩ := LD.out W hb
                    go_simp
                    exact hK _ _ _ rfl (Below.refl _ _) rfl
                  refine ⟨?_, ?_⟩
                  · intro vs W hb hD K hK
                    have h10 : vs 10 = Value.bool false := hD (10, some 85) List.mem_cons_self
                    have h21 : vs 21 = Value.string ⟨key.toArray⟩ := hD (21, some 96) (List.mem_cons_of_mem _ List.mem_cons_self)
                    simp only [fillL, Act.put, List.setIfInBounds_toArray, List.set_cons_succ, List.set_cons_zero, h10, h21] at hK ⊢
                    clear hD h10 h21
                    refine want_yes (by kernel_rfl) ?_
                    have hal3 : ¬ 9223372036854775807 < key.length + 1 := by omega
                    go_simp
                    exact hK _ _ _ rfl (Below.refl _ _) rfl
                  refine ⟨?_, ?_⟩
                  · intro vs W hb hD K hK
                    have h10 : vs 10 = Value.bool false := hD (10, some 85) List.mem_cons_self
                    have h11 : vs 11 = Value.pointer (some ⟨t, 0, none⟩) := hD (11, some 86) (List.mem_cons_of_mem _ List.mem_cons_self)
                    have h16 : vs 16 = Value.string ⟨key.toArray⟩ := hD (16, some 91) (List.mem_cons_of_mem _ (List.mem_cons_of_mem _ List.mem_cons_self))
                    have h22 : vs 22 = Value.string ⟨(key ++ [0]).toArray⟩ := hD (22, some 97) (List.mem_cons_of_mem _ (List.mem_cons_of_mem _ (List.mem_cons_of_mem _ List.mem_cons_self)))
                    simp only [fillL, Act.put, List.setIfInBounds_toArray, List.set_cons_succ, List.set_cons_zero, h10, h11, h16, h22] at hK ⊢
                    clear hD h10 h11 h16 h22
                    refine want_yes (by kernel_rfl) ?_
                    obtain ⟨ht, -⟩ := LAT.out W hb
                    go_simp
                    refine ⟨trivial, (callsIn_wide.2 (CR1.out _ ht)).mono ?_⟩
                    rintro e9 wb ⟨bb, v, rfl, sl⟩
                    exact hK _ _ _ rfl bb sl
                  refine ⟨?_, ?_⟩
                  · intro vs W hb hD K hK
                    have h10 : vs 10 = Value.bool false := hD (10, some 85) List.mem_cons_self
                    simp only [fillL, Act.put, List.setIfInBounds_toArray, List.set_cons_succ, List.set_cons_zero, h10] at hK ⊢
                    clear hD h10
                    refine want_yes (by kernel_rfl) ?_
                    go_simp
                    exact hK _ _ _ rfl (Below.refl _ _) rfl
                  refine ⟨?_, ?_⟩
                  · intro vs W hb hD K hK
                    have h10 : vs 10 = Value.bool false := hD (10, some 85) List.mem_cons_self
                    simp only [fillL, Act.put, List.setIfInBounds_toArray, List.set_cons_succ, List.set_cons_zero, h10] at hK ⊢
                    clear hD h10
                    refine want_yes (by kernel_rfl) ?_
                    go_simp
                    exact hK _ _ _ rfl (Below.refl _ _) rfl
                  refine ⟨?_, ?_⟩
                  · intro vs W hb hD K hK
                    have h10 : vs 10 = Value.bool false := hD (10, some 85) List.mem_cons_self
                    simp only [fillL, Act.put, List.setIfInBounds_toArray, List.set_cons_succ, List.set_cons_zero, h10] at hK ⊢
                    clear hD h10
                    refine want_yes (by kernel_rfl) ?_
                    go_simp
                    exact hK _ _ _ rfl (Below.refl _ _) rfl
                  refine ⟨?_, ?_⟩
                  · intro vs W hb hD K hK
                    have h10 : vs 10 = Value.bool false := hD (10, some 85) List.mem_cons_self
                    have h24 : vs 24 = Value.slice (some ⟨b, o, none⟩) n cap := hD (24, some 99) (List.mem_cons_of_mem _ List.mem_cons_self)
                    have h25 : vs 25 = Value.int .i64 f := hD (25, some 100) (List.mem_cons_of_mem _ (List.mem_cons_of_mem _ List.mem_cons_self))
                    have h26 : vs 26 = Value.int .i64 z := hD (26, some 101) (List.mem_cons_of_mem _ (List.mem_cons_of_mem _ (List.mem_cons_of_mem _ List.mem_cons_self)))
                    simp only [fillL, Act.put, List.setIfInBounds_toArray, List.set_cons_succ, List.set_cons_zero, h10, h24, h25, h26] at hK ⊢
                    clear hD h10 h24 h25 h26
                    refine want_yes (by kernel_rfl) ?_
                    go_simp
                    exact hK _ _ _ rfl (Below.refl _ _) rfl
                  refine ⟨?_, ?_⟩
                  · intro vs W hb hD K hK
                    have h10 : vs 10 = Value.bool false := hD (10, some 85) List.mem_cons_self
                    obtain ⟨x23, hx23⟩ : ∃ x, vs 23 = x := ⟨_, rfl⟩
                    have h23 : (fun v W => SlAt v ((l.drop f).take (z - f)) W) (vs 23) W := hD (23, some 98) (List.mem_cons_of_mem _ List.mem_cons_self)
                    rw [hx23] at h23
                    have h27 : vs 27 = Value.slice (some ⟨b, o + f * 3, none⟩) (z - f) (cap - f) := hD (27, some 102) (List.mem_cons_of_mem _ (List.mem_cons_of_mem _ List.mem_cons_self))
                    simp only [fillL, Act.put, List.setIfInBounds_toArray, List.set_cons_succ, List.set_cons_zero, h10, hx23, h27] at hK ⊢
                    clear hD h10 hx23 h27
                    refine want_yes (by kernel_rfl) ?_
                    obtain ⟨-, hrow, -⟩ := LAT.out W hb
                    go_simp
                    refine ⟨trivial, (callsIn_wide.2 (CQ1.out _ _ h23 hrow)).mono ?_⟩
                    rintro e9 wb ⟨rfl, bb⟩
                    exact hK _ _ _ rfl bb rfl
                  refine ⟨?_, ?_⟩
                  · intro vs W hb hD K hK
                    have h10 : vs 10 = Value.bool false := hD (10, some 85) List.mem_cons_self
                    have h28 : vs 28 = Value.bool true := hD (28, some 103) (List.mem_cons_of_mem _ List.mem_cons_self)
                    simp only [fillL, Act.put, List.setIfInBounds_toArray, List.set_cons_succ, List.set_cons_zero, h10, h28] at hK ⊢
                    clear hD h10 h28
                    refine want_yes (by kernel_rfl) ?_
                    go_simp
                    exact hK _ _ _ rfl (Below.refl _ _) rfl
                  refine ⟨?_, ?_⟩
                  · intro vs W hb hD K hK
                    have h10 : vs 10 = Value.bool false := hD (10, some 85) List.mem_cons_self
                    have h29 : vs 29 = Value.bool false := hD (29, some 104) (List.mem_cons_of_mem _ List.mem_cons_self)
                    simp only [fillL, Act.put, List.setIfInBounds_toArray, List.set_cons_succ, List.set_cons_zero, h10, h29] at hK ⊢
                    clear hD h10 h29
                    refine want_yes (by kernel_rfl) ?_
                    go_simp
                    exact hK _ _ _ rfl (Below.refl _ _) rfl
                  refine ⟨?_, ?_⟩
                  · intro vs W hb hD K hK
                    have h30 : vs 30 = Value.bool false := hD (30, some 105) List.mem_cons_self
                    simp only [fillL, Act.put, List.setIfInBounds_toArray, List.set_cons_succ, List.set_cons_zero, h30] at hK ⊢
                    clear hD h30
                    refine want_yes (by kernel_rfl) ?_
                    go_simp
                    exact hK _ _ _ rfl (Below.refl _ _) rfl
                  refine ⟨?_, ?_⟩
                  · intro vs W hb hD K hK
                    have h31 : vs 31 = Value.bool false := hD (31, some 106) List.mem_cons_self
                    simp only [fillL, Act.put, List.setIfInBounds_toArray, List.set_cons_succ, List.set_cons_zero, h31] at hK ⊢
                    clear hD h31
                    refine want_yes (by kernel_rfl) ?_
                    go_simp
                    exact hK _ _ _ rfl (Below.refl _ _) rfl
                  refine ⟨?_, ?_⟩
                  · intro vs W hb hD K hK
                    have h31 : vs 31 = Value.bool false := hD (31, some 106) List.mem_cons_self
                    simp only [fillL, Act.put, List.setIfInBounds_toArray, List.set_cons_succ, List.set_cons_zero, h31] at hK ⊢
                    clear hD h31
                    refine want_yes (by kernel_rfl) ?_
                    go_simp
                    exact hK _ _ _ rfl (Below.refl _ _) rfl
                  refine ⟨?_, ?_⟩
                  · intro vs W hb hD K hK
                    have h31 : vs 31 = Value.bool false := hD (31, some 106) List.mem_cons_self
                    simp only [fillL, Act.put, List.setIfInBounds_toArray, List.set_cons_succ, List.set_cons_zero, h31] at hK ⊢
                    clear hD h31
                    refine want_yes (by kernel_rfl) ?_
                    go_simp
                    exact hK _ _ _ rfl (Below.refl _ _) rfl
                  refine ⟨?_, ?_⟩
                  · intro vs W hb hD K hK
                    have h31 : vs 31 = Value.bool false := hD (31, some 106) List.mem_cons_self
                    have h33 : vs 33 = Value.slice (some ⟨b, o, none⟩) n cap := hD (33, some 108) (List.mem_cons_of_mem _ List.mem_cons_self)
                    have h34 : vs 34 = Value.int .i64 k := hD (34, some 109) (List.mem_cons_of_mem _ (List.mem_cons_of_mem _ List.mem_cons_self))
                    simp only [fillL, Act.put, List.setIfInBounds_toArray, List.set_cons_succ, List.set_cons_zero, h31, h33, h34] at hK ⊢
                    clear hD h31 h33 h34
                    refine want_yes (by kernel_rfl) ?_
                    go_simp
                    exact hK _ _ _ rfl (Below.refl _ _) rfl
                  refine ⟨?_, ?_⟩
                  · intro vs W hb hD K hK
                    have h31 : vs 31 = Value.bool false := hD (31, some 106) List.mem_cons_self
                    have h35 : vs 35 = Value.pointer (some ⟨b, o + k * 3, none⟩) := hD (35, some 110) (List.mem_cons_of_mem _ List.mem_cons_self)
                    simp only [fillL, Act.put, List.setIfInBounds_toArray, List.set_cons_succ, List.set_cons_zero, h31, h35] at hK ⊢
                    clear hD h31 h35
                    refine want_yes (by kernel_rfl) ?_
                    go_simp
                    exact hK _ _ _ rfl (Below.refl _ _) rfl
                  refine ⟨?_, ?_⟩
                  · intro vs W hb hD K hK
                    have h31 : vs 31 = Value.bool false := hD (31, some 106) List.mem_cons_self
                    have h36 : vs 36 = Value.pointer (some ⟨b, o + k * 3, none⟩) := hD (36, some 111) (List.mem_cons_of_mem _ List.mem_cons_self)
                    simp only [fillL, Act.put, List.setIfInBounds_toArray, List.set_cons_succ, List.set_cons_zero, h31, h36] at hK ⊢
                    clear hD h31 h36
                    refine want_yes (by kernel_rfl) ?_
                    obtain ⟨⟨a0, a1, a2⟩, ⟨r0, r1, r2⟩, s0⟩ := LD.out W hb
                    go_simp
                    exact hK _ _ _ rfl (Below.refl _ _) rfl
                  refine ⟨?_, ?_⟩
                  · intro vs W hb hD K hK
                    have h31 : vs 31 = Value.bool false := hD (31, some 106) List.mem_cons_self
                    have h32 : vs 32 = Value.pointer (some ⟨t, 0, none⟩) := hD (32, some 107) (List.mem_cons_of_mem _ List.mem_cons_self)
                    have h37 : vs 37 = Value.string ⟨key.toArray⟩ := hD (37, some 112) (List.mem_cons_of_mem _ (List.mem_cons_of_mem _ List.mem_cons_self))
                    simp only [fillL, Act.put, List.setIfInBounds_toArray, List.set_cons_succ, List.set_cons_zero, h31, h32, h37] at hK ⊢
                    clear hD h31 h32 h37
                    refine want_yes (by kernel_rfl) ?_
                    obtain ⟨ht, -⟩ := LAT.out W hb
                    go_simp
                    refine ⟨trivial, (callsIn_wide.2 (CR2.out _ ht)).mono ?_⟩
                    rintro e9 wb ⟨bb, v, rfl, sl⟩
                    exact hK _ _ _ rfl bb sl
                  refine ⟨?_, ?_⟩
                  · intro vs W hb hD K hK
                    have h31 : vs 31 = Value.bool false := hD (31, some 106) List.mem_cons_self
                    simp only [fillL, Act.put, List.setIfInBounds_toArray, List.set_cons_succ, List.set_cons_zero, h31] at hK ⊢
                    clear hD h31
                    refine want_yes (by kernel_rfl) ?_
                    go_simp
                    exact hK _ _ _ rfl (Below.refl _ _) rfl
                  refine ⟨?_, ?_⟩
                  · intro vs W hb hD K hK
                    have h31 : vs 31 = Value.bool false := hD (31, some 106) List.mem_cons_self
                    simp only [fillL, Act.put, List.setIfInBounds_toArray, List.set_cons_succ, List.set_cons_zero, h31] at hK ⊢
                    clear hD h31
                    refine want_yes (by kernel_rfl) ?_
                    go_simp
                    exact hK _ _ _ rfl (Below.refl _ _) rfl
                  refine ⟨?_, ?_⟩
                  · intro vs W hb hD K hK
                    have h31 : vs 31 = Value.bool false := hD (31, some 106) List.mem_cons_self
                    have h39 : vs 39 = Value.slice (some ⟨b, o, none⟩) n cap := hD (39, some 114) (List.mem_cons_of_mem _ List.mem_cons_self)
                    have h40 : vs 40 = Value.int .i64 f := hD (40, some 115) (List.mem_cons_of_mem _ (List.mem_cons_of_mem _ List.mem_cons_self))
                    simp only [fillL, Act.put, List.setIfInBounds_toArray, List.set_cons_succ, List.set_cons_zero, h31, h39, h40] at hK ⊢
                    clear hD h31 h39 h40
                    refine want_yes (by kernel_rfl) ?_
                    go_simp
                    exact hK _ _ _ rfl (Below.refl _ _) rfl
                  refine ⟨?_, ?_⟩
                  · intro vs W hb hD K hK
                    have h31 : vs 31 = Value.bool false := hD (31, some 106) List.mem_cons_self
                    obtain ⟨x38, hx38⟩ : ∃ x, vs 38 = x := ⟨_, rfl⟩
                    have h38 : (fun v W => SlAt v (l.drop f) W) (vs 38) W := hD (38, some 113) (List.mem_cons_of_mem _ List.mem_cons_self)
                    rw [hx38] at h38
                    have h41 : vs 41 = Value.slice (some ⟨b, o + f * 3, none⟩) (n - f) (cap - f) := hD (41, some 116) (List.mem_cons_of_mem _ (List.mem_cons_of_mem _ List.mem_cons_self))
                    simp only [fillL, Act.put, List.setIfInBounds_toArray, List.set_cons_succ, List.set_cons_zero, h31, hx38, h41] at hK ⊢
                    clear hD h31 hx38 h41
                    refine want_yes (by kernel_rfl) ?_
                    obtain ⟨-, hrow, -⟩ := LAT.out W hb
                    go_simp
                    refine ⟨trivial, (callsIn_wide.2 (CQ2.out _ _ h38 hrow)).mono ?_⟩
                    rintro e9 wb ⟨rfl, bb⟩
                    exact hK _ _ _ rfl bb rfl
                  refine ⟨?_, ?_⟩
                  · intro vs W hb hD K hK
                    have h31 : vs 31 = Value.bool false := hD (31, some 106) List.mem_cons_self
                    have h42 : vs 42 = Value.bool true := hD (42, some 117) (List.mem_cons_of_mem _ List.mem_cons_self)
                    simp only [fillL, Act.put, List.setIfInBounds_toArray, List.set_cons_succ, List.set_cons_zero, h31, h42] at hK ⊢
                    clear hD h31 h42
                    refine want_yes (by kernel_rfl) ?_
                    go_simp
                    exact hK _ _ _ rfl (Below.refl _ _) rfl
                  refine ⟨?_, ?_⟩
                  · intro vs W hb hD K hK
                    have h31 : vs 31 = Value.bool false := hD (31, some 106) List.mem_cons_self
                    have h43 : vs 43 = Value.bool false := hD (43, some 118) (List.mem_cons_of_mem _ List.mem_cons_self)
                    simp only [fillL, Act.put, List.setIfInBounds_toArray, List.set_cons_succ, List.set_cons_zero, h31, h43] at hK ⊢
                    clear hD h31 h43
                    refine want_yes (by kernel_rfl) ?_
                    go_simp
                    exact hK _ _ _ rfl (Below.refl _ _) rfl
                  trivial
                · intro vs W hb hF
                  have h0 : vs 0 = Value.bool true := hF 0 (by decide)
                  have h1 : vs 1 = Value.bool false := hF 1 (by decide)
                  have h2 : vs 2 = Value.bool false := hF 2 (by decide)
                  have h3 : vs 3 = Value.agg #[.string ⟨x.k.toArray⟩, .int .i64 x.q, .string ⟨x.v.toArray⟩] := hF 3 (by decide)
                  have h4 : vs 4 = Value.slice (some ⟨b, o, none⟩) n cap := hF 4 (by decide)
                  have h5 : vs 5 = Value.int .i64 f := hF 5 (by decide)
                  have h6 : vs 6 = Value.pointer (some ⟨b, o + f * 3, none⟩) := hF 6 (by decide)
                  have h7 : vs 7 = Value.agg #[.string ⟨x.k.toArray⟩, .int .i64 x.q, .string ⟨x.v.toArray⟩] := hF 7 (by decide)
                  have h8 : vs 8 = Value.bool false := hF 8 (by decide)
                  have h9 : vs 9 = Value.bool false := hF 9 (by decide)
                  have h10 : vs 10 = Value.bool false := hF 10 (by decide)
                  have h11 : vs 11 = Value.pointer (some ⟨t, 0, none⟩) := hF 11 (by decide)
                  have h12 : vs 12 = Value.slice (some ⟨b, o, none⟩) n cap := hF 12 (by decide)
                  have h13 : vs 13 = Value.int .i64 k := hF 13 (by decide)
                  have h14 : vs 14 = Value.pointer (some ⟨b, o + k * 3, none⟩) := hF 14 (by decide)
                  have h15 : vs 15 = Value.pointer (some ⟨b, o + k * 3, none⟩) := hF 15 (by decide)
                  have h16 : vs 16 = Value.string ⟨key.toArray⟩ := hF 16 (by decide)
                  have h17 : vs 17 = Value.slice (some ⟨b, o, none⟩) n cap := hF 17 (by decide)
                  have h18 : vs 18 = Value.int .i64 k := hF 18 (by decide)
                  have h19 : vs 19 = Value.pointer (some ⟨b, o + k * 3, none⟩) := hF 19 (by decide)
                  have h20 : vs 20 = Value.pointer (some ⟨b, o + k * 3, none⟩) := hF 20 (by decide)
                  have h21 : vs 21 = Value.string ⟨key.toArray⟩ := hF 21 (by decide)
                  have h22 : vs 22 = Value.string ⟨(key ++ [0]).toArray⟩ := hF 22 (by decide)
                  obtain ⟨x23, hx23⟩ : ∃ x, vs 23 = x := ⟨_, rfl⟩
                  have h23 : (fun v W => SlAt v ((l.drop f).take (z - f)) W) (vs 23) W := hF 23 (by decide)
                  rw [hx23] at h23
                  have h24 : vs 24 = Value.slice (some ⟨b, o, none⟩) n cap := hF 24 (by decide)
                  have h25 : vs 25 = Value.int .i64 f := hF 25 (by decide)
                  have h26 : vs 26 = Value.int .i64 z := hF 26 (by decide)
                  have h27 : vs 27 = Value.slice (some ⟨b, o + f * 3, none⟩) (z - f) (cap - f) := hF 27 (by decide)
                  have h28 : vs 28 = Value.bool true := hF 28 (by decide)
                  have h29 : vs 29 = Value.bool false := hF 29 (by decide)
                  have h30 : vs 30 = Value.bool false := hF 30 (by decide)
                  have h31 : vs 31 = Value.bool false := hF 31 (by decide)
                  have h32 : vs 32 = Value.pointer (some ⟨t, 0, none⟩) := hF 32 (by decide)
                  have h33 : vs 33 = Value.slice (some ⟨b, o, none⟩) n cap := hF 33 (by decide)
                  have h34 : vs 34 = Value.int .i64 k := hF 34 (by decide)
                  have h35 : vs 35 = Value.pointer (some ⟨b, o + k * 3, none⟩) := hF 35 (by decide)
                  have h36 : vs 36 = Value.pointer (some ⟨b, o + k * 3, none⟩) := hF 36 (by decide)
                  have h37 : vs 37 = Value.string ⟨key.toArray⟩ := hF 37 (by decide)
                  obtain ⟨x38, hx38⟩ : ∃ x, vs 38 = x := ⟨_, rfl⟩
                  have h38 : (fun v W => SlAt v (l.drop f) W) (vs 38) W := hF 38 (by decide)
                  rw [hx38] at h38
                  have h39 : vs 39 = Value.slice (some ⟨b, o, none⟩) n cap := hF 39 (by decide)
                  have h40 : vs 40 = Value.int .i64 f := hF 40 (by decide)
                  have h41 : vs 41 = Value.slice (some ⟨b, o + f * 3, none⟩) (n - f) (cap - f) := hF 41 (by decide)
                  have h42 : vs 42 = Value.bool true := hF 42 (by decide)
                  have h43 : vs 43 = Value.bool false := hF 43 (by decide)
                  have h44 : vs 44 = Value.bool false := hF 44 (by decide)
                  simp only [fillL, Act.put, List.setIfInBounds_toArray, List.set_cons_succ, List.set_cons_zero, h0, h1, h2, h3, h4, h5, h6, h7, h8, h9, h10, h11, h12, h13, h14, h15, h16, h17, h18, h19, h20, h21, h22, hx23, h24, h25, h26, h27, h28, h29, h30, h31, h32, h33, h34, h35, h36, h37, hx38, h39, h40, h41, h42, h43, h44]
                  clear hF h0 h1 h2 h3 h4 h5 h6 h7 h8 h9 h10 h11 h12 h13 h14 h15 h16 h17 h18 h19 h20 h21 h22 hx23 h24 h25 h26 h27 h28 h29 h30 h31 h32 h33 h34 h35 h36 h37 hx38 h39 h40 h41 h42 h43 h44
                  obtain ⟨-, -, hB⟩ := LAT.out W hb
                  have HBE := Lib.hid hB
                  clear LAT LD CR1 CR2 CQ1 CQ2 hB
                  go_wp2_with fail
                  go_roundw
                  case rel => exact ⟨k + 1, by go_num, by omega, HBE⟩
                  case measure => simp [intOf]; omega
end Go.Proofs.Ytanaoepakllohaa
