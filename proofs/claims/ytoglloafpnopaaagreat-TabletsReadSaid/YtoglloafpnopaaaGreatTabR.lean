/- Open, the program's. -/
import Derived.Test.YtoglloafpnopaaaGreatTabRa
set_option linter.unusedSimpArgs false
set_option linter.unusedVariables false
namespace Go.Proofs.YtoglloafpnopaaaGreat
set_option maxRecDepth 16000
open Go.RowKit Spoor
set_option maxRecDepth 100000 in
set_option maxHeartbeats 16000000 in
theorem openT_any (text : List UInt8) (w : World) (hl : text.length ≤ 1000000) :
 Calls Tryz.prog 18 #[.string ⟨text.toArray⟩] w (OpenEx text w) := by
 have HOT := Lib.hid (fun h1 h2 => openT_head (text := text) h1 h2)
 have hsf := suffix_mark text
 obtain ⟨N, hN⟩ : ∃ N, text.length = N := ⟨_, rfl⟩
 have HN := Lib.hid hN
 have hsx := fun W => Tryz.strings_HasSuffix ⟨text.toArray⟩ ⟨Spoor.mark.toArray⟩ W (by rw [size_of]; omega)
 by_cases h25 : text.length < 25
 · have ho : openT text = none := by unfold openT; rw [if_pos (.inl h25)]
   have HO := Lib.hid ho
   rw [hN] at h25
   have hlt : (N : Int) < 25 := by omega
   clear ho hsf hsx HOT h25
   have hNN : text.length = N := hN
   go_enter Tryz.func18, Tryz.ntmps18
   go_wp2_with fail
   go_ret2
   exact ⟨Below.refl _ _, .inl ⟨HO.out, rfl⟩⟩
 by_cases hmk : text.drop (text.length - 5) = Spoor.mark
 rotate_left
 · have ho : openT text = none := by unfold openT; rw [if_pos (.inr hmk)]
   have HO := Lib.hid ho
   rw [hN] at h25
   have hlt : ¬ (N : Int) < 25 := by omega
   have hs0 : ∀ W, Calls Tryz.prog 40 #[.string ⟨text.toArray⟩, .string ⟨#[115, 112, 111, 111, 114]⟩] W fun e w' => e = .returned (.bool false) ∧ w' = W := fun W => (hsx W).mono (by
    rintro e w' ⟨rfl, rfl⟩
    refine ⟨?_, rfl⟩
    have e1 : (⟨text.toArray⟩ : ByteArray).data.toList = text := by simp
    have e2 : (⟨Spoor.mark.toArray⟩ : ByteArray).data.toList = Spoor.mark := by simp
    rw [e1, e2, hsf, decide_eq_false hmk])
   have HS0 := Lib.hid hs0
   clear ho hsf hsx HOT h25 hmk hs0
   have hNN : text.length = N := hN
   go_enter Tryz.func18, Tryz.ntmps18
   go_wp2_with fail
   refine (HS0.out _).mono ?_
   rintro e w1 ⟨rfl, rfl⟩
   go_wp2_with fail
   go_ret2
   exact ⟨Below.refl _ _, .inl ⟨HO.out, rfl⟩⟩
 have ho := HOT.out h25 hmk
 have hs0 : ∀ W, Calls Tryz.prog 40 #[.string ⟨text.toArray⟩, .string ⟨#[115, 112, 111, 111, 114]⟩] W fun e w' => e = .returned (.bool true) ∧ w' = W := fun W => (hsx W).mono (by
  rintro e w' ⟨rfl, rfl⟩
  refine ⟨?_, rfl⟩
  have e1 : (⟨text.toArray⟩ : ByteArray).data.toList = text := by simp
  have e2 : (⟨Spoor.mark.toArray⟩ : ByteArray).data.toList = Spoor.mark := by simp
  rw [e1, e2, hsf, decide_eq_true hmk])
 have HS0 := Lib.hid hs0
 obtain ⟨e, he⟩ : ∃ e, text.length - 25 = e := ⟨_, rfl⟩
 have HO := Lib.hid ho
 have ob1 := fun W => ofBigN_any text (e + 4) W (by omega)
 have ob2 := fun W => ofBigN_any text (e + 12) W (by omega)
 obtain ⟨sz, hsz⟩ : ∃ sz, bN (ofBig (text.drop (e + 4))) = sz := ⟨_, rfl⟩
 obtain ⟨mn, hmn⟩ : ∃ mn, bN (ofBig (text.drop (e + 12))) = mn := ⟨_, rfl⟩
 obtain ⟨g1, hg1⟩ : ∃ g1, gO (ofBig (text.drop (e + 4))) = g1 := ⟨_, rfl⟩
 obtain ⟨g2, hg2⟩ : ∃ g2, gO (ofBig (text.drop (e + 12))) = g2 := ⟨_, rfl⟩
 have hsz63 : sz ≤ 9223372036854775807 := by
  rw [← hsz]
  cases h : ofBig (text.drop (e + 4)) with
  | none => exact Nat.zero_le _
  | some n => exact (ofBig_some h).2.1
 have hmn63 : mn ≤ 9223372036854775807 := by
  rw [← hmn]
  cases h : ofBig (text.drop (e + 12)) with
  | none => exact Nat.zero_le _
  | some n => exact (ofBig_some h).2.1
 have hszT : szT text = sz := by unfold szT; rw [he]; exact hsz
 have hmnT : mnT text = mn := by unfold mnT; rw [he]; exact hmn
 have hd : hdOk text = (g1 && g2 && decide (sz ≤ e) && decide (sumB (ixT text) = (text.drop e).take 4)) := by
  unfold hdOk ixT
  rw [hszT, he, hsz, hg1, hg2]
 have hixl : sz ≤ e → (ixT text).length = e - sz := fun h => by
  unfold ixT
  rw [hszT, he, List.length_take, List.length_drop]
  omega
 have hdtl : sz ≤ e → (dtT text).length = sz := fun h => by
  unfold dtT
  rw [hszT, List.length_take]
  omega
 rw [hsz, hg1] at ob1
 rw [hmn, hg2] at ob2
 rw [show ((e + 4 : Nat) : Int) = (e : Int) + 4 by omega] at ob1
 rw [show ((e + 12 : Nat) : Int) = (e : Int) + 12 by omega] at ob2
 have OB1 := Lib.hid ob1
 have OB2 := Lib.hid ob2
 have HD := Lib.hid hd
 have HFT := Lib.hid (And.intro hszT (And.intro hmnT he))
 have HXL := Lib.hid (And.intro hixl hdtl)
 have hL2 : (⟨text.toArray⟩ : ByteArray).size = N := by rw [← hN]; simp [ByteArray.size]
 have hs1 : sz ≤ e → ∀ W, (Instr.slice 9 (.string ⟨text.toArray⟩) (some (.int .i64 (sz : Int))) (some (.int .i64 (e : Int))) none).run Tryz.prog W = .ok (.string ⟨(ixT text).toArray⟩) W := fun h W => by
  have hh := slice_at ⟨text.toArray⟩ sz e (sz : Int) (e : Int) rfl rfl h (by omega) W
  have e1 : (⟨text.toArray⟩ : ByteArray).data.toList = text := by simp
  rw [e1] at hh
  rw [hh]
  unfold ixT
  rw [hszT, he]
 have hs2 : ∀ W, (Instr.slice 9 (.string ⟨text.toArray⟩) (some (.int .i64 (e : Int))) (some (.int .i64 ((e : Int) + 4))) none).run Tryz.prog W = .ok (.string ⟨((text.drop e).take 4).toArray⟩) W := fun W => by
  have hh := slice_at ⟨text.toArray⟩ e (e + 4) (e : Int) ((e : Int) + 4) rfl (by omega) (by omega) (by omega) W
  rw [Nat.add_sub_cancel_left] at hh
  exact hh
 have hs3 : sz ≤ e → ∀ W, (Instr.slice 9 (.string ⟨text.toArray⟩) none (some (.int .i64 (sz : Int))) none).run Tryz.prog W = .ok (.string ⟨(dtT text).toArray⟩) W := fun h W => by
  have hh := slice_at ⟨text.toArray⟩ 0 sz (0 : Int) (sz : Int) rfl rfl (Nat.zero_le _) (by omega) W
  have e1 : (⟨text.toArray⟩ : ByteArray).data.toList = text := by simp
  rw [e1, List.drop_zero, Nat.sub_zero] at hh
  unfold dtT
  rw [hszT]
  rw [← hh]
  rfl
 have HS1 := Lib.hid hs1
 have HS2 := Lib.hid hs2
 have HS3 := Lib.hid hs3
 obtain ⟨E4, hE4⟩ : ∃ E4, (text.drop e).take 4 = E4 := ⟨_, rfl⟩
 rw [hE4] at HD HS2
 rw [hN] at h25 he
 have hlt : ¬ (N : Int) < 25 := by omega
 have hw0 : IntKind.i64.wrap ((N : Int) - 25) = (e : Int) := by rw [IntKind.wrap_i64]; omega
 have hw1 : IntKind.i64.wrap ((e : Int) + 4) = (e : Int) + 4 := by rw [IntKind.wrap_i64]; omega
 have hw2 : IntKind.i64.wrap ((e : Int) + 4 + 8) = (e : Int) + 12 := by rw [IntKind.wrap_i64]; omega
 have hNN : text.length = N := hN
 have HEN := Lib.hid (And.intro he (show e ≤ 1000000 by omega))
 clear ho hsf hsx HOT h25 hmk hs0 ob1 ob2 hsz hmn hg1 hg2 hszT hmnT hd hixl hdtl hs1 hs2 hs3 hE4 hL2 he hN
 go_enter Tryz.func18, Tryz.ntmps18
 go_wp2_with fail
 refine (HS0.out _).mono ?_
 rintro e9 w1 ⟨rfl, rfl⟩
 clear HS0
 go_wp2_with fail
 refine (OB1.out _).mono ?_
 rintro e9 w2 ⟨rfl, hwx⟩
 subst hwx
 clear OB1
 go_wp2_with fail
 refine (OB2.out _).mono ?_
 rintro e9 w2 ⟨rfl, hwx⟩
 subst hwx
 clear OB2
 go_wp2_with fail
 obtain ⟨hb, hhb⟩ : ∃ hb, (g1 && g2 && decide (sz ≤ e) && decide (sumB (ixT text) = E4)) = hb := ⟨_, rfl⟩
 have HHB := Lib.hid hhb
 clear hhb
 go_cut [66] (fun v wx => v = .bool (!hb) ∧ Hid (Below w1.heap.size w1 wx))
 case first =>
  have hS : True := trivial
  cases g1 with
  | false =>
    as_aux_lemma =>
     refine (wpIn_wide (n := 5)).1 ?_
     refine wpIn_region_lit_late (fun _ => True) (fun _ => false) (k := 24) (listed := #[false, false, false, false, false, false, false, false, false, false, false, false, false, false, false, false, false, false, false, false, false, false, false, false]) (by kernel_rfl) (by kernel_rfl) (by kernel_rfl) ?_
     have bz := Below.drew (Below.refl w1.heap.size w1)
     have HBZ := Lib.hid bz
     obtain ⟨wz, hwz⟩ : ∃ wz, w1.drew = wz := ⟨_, rfl⟩
     rw [hwz] at HBZ ⊢
     clear hwz bz
     refine AnyS.yes 0 43 ?_ rfl rfl (by kernel_rfl) (fun _ _ _ _ _ => id) hS (fun _ => rfl) ?_ ?_; rotate_left; intro w' hw'; go_simp; with_reducible rfl; simp only [zP,zS,zC,zZ]
     refine AnyS.yes 1 44 ?_ rfl rfl (by kernel_rfl) (fun _ _ _ _ _ => id) hS (fun _ => rfl) ?_ ?_; rotate_left; intro w' hw'; go_simp; with_reducible rfl; simp only [zP,zS,zC,zZ]
     refine AnyS.yes 2 45 ?_ rfl rfl (by kernel_rfl) (fun _ _ _ _ _ => id) hS (fun _ => rfl) ?_ ?_; rotate_left; intro w' hw'; go_simp; with_reducible rfl; simp only [zP,zS,zC,zZ]
     refine AnyS.no 3 46 rfl rfl (by kernel_rfl) (fun _ _ _ _ _ => id) hS (fun _ => rfl) ?_; simp only [zP,zS,zC,zZ]
     refine AnyS.no 4 47 rfl rfl (by kernel_rfl) (fun _ _ _ _ _ => id) hS (fun _ => rfl) ?_; simp only [zP,zS,zC,zZ]
     refine AnyS.yes 5 48 ?_ rfl rfl (by kernel_rfl) (fun _ _ _ _ _ => id) hS (fun _ => rfl) ?_ ?_; rotate_left; intro w' hw'; go_simp; with_reducible rfl; simp only [zP,zS,zC,zZ]
     refine AnyS.yes 6 49 ?_ rfl rfl (by kernel_rfl) (fun _ _ _ _ _ => id) hS (fun _ => rfl) ?_ ?_; rotate_left; intro w' hw'; go_simp; with_reducible rfl; simp only [zP,zS,zC,zZ]
     refine AnyS.no 7 50 rfl rfl (by kernel_rfl) (fun _ _ _ _ _ => id) hS (fun _ => rfl) ?_; simp only [zP,zS,zC,zZ]
     refine AnyS.no 8 51 rfl rfl (by kernel_rfl) (fun _ _ _ _ _ => id) hS (fun _ => rfl) ?_; simp only [zP,zS,zC,zZ]
     refine AnyS.no 9 52 rfl rfl (by kernel_rfl) (fun _ _ _ _ _ => id) hS (fun _ => rfl) ?_; simp only [zP,zS,zC,zZ]
     refine AnyS.yes 10 53 ?_ rfl rfl (by kernel_rfl) (fun _ _ _ _ _ => id) hS (fun _ => rfl) ?_ ?_; rotate_left; intro w' hw'; go_simp; with_reducible rfl; simp only [zP,zS,zC,zZ]
     refine AnyS.yes 11 54 ?_ rfl rfl (by kernel_rfl) (fun _ _ _ _ _ => id) hS (fun _ => rfl) ?_ ?_; rotate_left; intro w' hw'; go_simp; with_reducible rfl; simp only [zP,zS,zC,zZ]
     refine AnyS.no 12 55 rfl rfl (by kernel_rfl) (fun _ _ _ _ _ => id) hS (fun _ => rfl) ?_; simp only [zP,zS,zC,zZ]
     refine AnyS.no 13 56 rfl rfl (by kernel_rfl) (fun _ _ _ _ _ => id) hS (fun _ => rfl) ?_; simp only [zP,zS,zC,zZ]
     refine AnyS.no 14 57 rfl rfl (by kernel_rfl) (fun _ _ _ _ _ => id) hS (fun _ => rfl) ?_; simp only [zP,zS,zC,zZ]
     refine AnyS.no 15 58 rfl rfl (by kernel_rfl) (fun _ _ _ _ _ => id) hS (fun _ => rfl) ?_; simp only [zP,zS,zC,zZ]
     refine AnyS.no 17 60 rfl rfl (by kernel_rfl) (fun _ _ _ _ _ => id) hS (fun _ => rfl) ?_; simp only [zP,zS,zC,zZ]
     refine AnyS.no 18 61 rfl rfl (by kernel_rfl) (fun _ _ _ _ _ => id) hS (fun _ => rfl) ?_; simp only [zP,zS,zC,zZ]
     refine AnyS.no 19 62 rfl rfl (by kernel_rfl) (fun _ _ _ _ _ => id) hS (fun _ => rfl) ?_; simp only [zP,zS,zC,zZ]
     refine AnyS.no 20 63 rfl rfl (by kernel_rfl) (fun _ _ _ _ _ => id) hS (fun _ => rfl) ?_; simp only [zP,zS,zC,zZ]
     refine AnyS.no 21 64 rfl rfl (by kernel_rfl) (fun _ _ _ _ _ => id) hS (fun _ => rfl) ?_; simp only [zP,zS,zC,zZ]
     refine AnyS.next (i := 16) rfl (by kernel_rfl) (by kernel_rfl) fun K' hK' => ?_
     refine want_no (Bool.eq_false_iff.1 (by kernel_rfl)) ⟨fun _ _ => trivial, ?_⟩
     go_simp
     refine hK' _ _ (fun _ => trivial) ?_
     clear hK' K'
     try simp only [zP,zN,zS,zC,zZ]
     refine AnyS.no 22 65 rfl rfl (by kernel_rfl) (fun _ _ _ _ _ => id) hS (fun _ => rfl) ?_; simp only [zP,zS,zC,zZ]
     refine AnyS.yes 23 66 ?_ rfl rfl (by kernel_rfl) (fun _ _ _ _ _ => id) hS (fun _ => rfl) ?_ ?_; rotate_left; intro w' hw'; go_simp; with_reducible rfl; simp only [zP,zS,zC,zZ]
     refine AnyS.done (by kernel_rfl) ?_ _
     clear hS
     go_wp2_with fail
     go_meet
     exact ⟨by rw [← HHB.out]; simp, HBZ⟩
  | true =>
    cases g2 with
    | false =>
      as_aux_lemma =>
       refine (wpIn_wide (n := 5)).1 ?_
       refine wpIn_region_lit_late (fun _ => True) (fun _ => false) (k := 24) (listed := #[false, false, false, false, false, false, false, false, false, false, false, false, false, false, false, false, false, false, false, false, false, false, false, false]) (by kernel_rfl) (by kernel_rfl) (by kernel_rfl) ?_
       have bz := Below.drew (Below.refl w1.heap.size w1)
       have HBZ := Lib.hid bz
       obtain ⟨wz, hwz⟩ : ∃ wz, w1.drew = wz := ⟨_, rfl⟩
       rw [hwz] at HBZ ⊢
       clear hwz bz
       refine AnyS.yes 0 43 ?_ rfl rfl (by kernel_rfl) (fun _ _ _ _ _ => id) hS (fun _ => rfl) ?_ ?_; rotate_left; intro w' hw'; go_simp; with_reducible rfl; simp only [zP,zS,zC,zZ]
       refine AnyS.yes 1 44 ?_ rfl rfl (by kernel_rfl) (fun _ _ _ _ _ => id) hS (fun _ => rfl) ?_ ?_; rotate_left; intro w' hw'; go_simp; with_reducible rfl; simp only [zP,zS,zC,zZ]
       refine AnyS.yes 2 45 ?_ rfl rfl (by kernel_rfl) (fun _ _ _ _ _ => id) hS (fun _ => rfl) ?_ ?_; rotate_left; intro w' hw'; go_simp; with_reducible rfl; simp only [zP,zS,zC,zZ]
       refine AnyS.yes 3 46 ?_ rfl rfl (by kernel_rfl) (fun _ _ _ _ _ => id) hS (fun _ => rfl) ?_ ?_; rotate_left; intro w' hw'; go_simp; with_reducible rfl; simp only [zP,zS,zC,zZ]
       refine AnyS.yes 4 47 ?_ rfl rfl (by kernel_rfl) (fun _ _ _ _ _ => id) hS (fun _ => rfl) ?_ ?_; rotate_left; intro w' hw'; go_simp; with_reducible rfl; simp only [zP,zS,zC,zZ]
       refine AnyS.yes 5 48 ?_ rfl rfl (by kernel_rfl) (fun _ _ _ _ _ => id) hS (fun _ => rfl) ?_ ?_; rotate_left; intro w' hw'; go_simp; with_reducible rfl; simp only [zP,zS,zC,zZ]
       refine AnyS.yes 6 49 ?_ rfl rfl (by kernel_rfl) (fun _ _ _ _ _ => id) hS (fun _ => rfl) ?_ ?_; rotate_left; intro w' hw'; go_simp; with_reducible rfl; simp only [zP,zS,zC,zZ]
       refine AnyS.no 7 50 rfl rfl (by kernel_rfl) (fun _ _ _ _ _ => id) hS (fun _ => rfl) ?_; simp only [zP,zS,zC,zZ]
       refine AnyS.no 8 51 rfl rfl (by kernel_rfl) (fun _ _ _ _ _ => id) hS (fun _ => rfl) ?_; simp only [zP,zS,zC,zZ]
       refine AnyS.no 9 52 rfl rfl (by kernel_rfl) (fun _ _ _ _ _ => id) hS (fun _ => rfl) ?_; simp only [zP,zS,zC,zZ]
       refine AnyS.yes 10 53 ?_ rfl rfl (by kernel_rfl) (fun _ _ _ _ _ => id) hS (fun _ => rfl) ?_ ?_; rotate_left; intro w' hw'; go_simp; with_reducible rfl; simp only [zP,zS,zC,zZ]
       refine AnyS.yes 11 54 ?_ rfl rfl (by kernel_rfl) (fun _ _ _ _ _ => id) hS (fun _ => rfl) ?_ ?_; rotate_left; intro w' hw'; go_simp; with_reducible rfl; simp only [zP,zS,zC,zZ]
       refine AnyS.no 12 55 rfl rfl (by kernel_rfl) (fun _ _ _ _ _ => id) hS (fun _ => rfl) ?_; simp only [zP,zS,zC,zZ]
       refine AnyS.no 13 56 rfl rfl (by kernel_rfl) (fun _ _ _ _ _ => id) hS (fun _ => rfl) ?_; simp only [zP,zS,zC,zZ]
       refine AnyS.no 14 57 rfl rfl (by kernel_rfl) (fun _ _ _ _ _ => id) hS (fun _ => rfl) ?_; simp only [zP,zS,zC,zZ]
       refine AnyS.no 15 58 rfl rfl (by kernel_rfl) (fun _ _ _ _ _ => id) hS (fun _ => rfl) ?_; simp only [zP,zS,zC,zZ]
       refine AnyS.no 17 60 rfl rfl (by kernel_rfl) (fun _ _ _ _ _ => id) hS (fun _ => rfl) ?_; simp only [zP,zS,zC,zZ]
       refine AnyS.no 18 61 rfl rfl (by kernel_rfl) (fun _ _ _ _ _ => id) hS (fun _ => rfl) ?_; simp only [zP,zS,zC,zZ]
       refine AnyS.no 19 62 rfl rfl (by kernel_rfl) (fun _ _ _ _ _ => id) hS (fun _ => rfl) ?_; simp only [zP,zS,zC,zZ]
       refine AnyS.no 20 63 rfl rfl (by kernel_rfl) (fun _ _ _ _ _ => id) hS (fun _ => rfl) ?_; simp only [zP,zS,zC,zZ]
       refine AnyS.no 21 64 rfl rfl (by kernel_rfl) (fun _ _ _ _ _ => id) hS (fun _ => rfl) ?_; simp only [zP,zS,zC,zZ]
       refine AnyS.next (i := 16) rfl (by kernel_rfl) (by kernel_rfl) fun K' hK' => ?_
       refine want_no (Bool.eq_false_iff.1 (by kernel_rfl)) ⟨fun _ _ => trivial, ?_⟩
       go_simp
       refine hK' _ _ (fun _ => trivial) ?_
       clear hK' K'
       try simp only [zP,zN,zS,zC,zZ]
       refine AnyS.no 22 65 rfl rfl (by kernel_rfl) (fun _ _ _ _ _ => id) hS (fun _ => rfl) ?_; simp only [zP,zS,zC,zZ]
       refine AnyS.yes 23 66 ?_ rfl rfl (by kernel_rfl) (fun _ _ _ _ _ => id) hS (fun _ => rfl) ?_ ?_; rotate_left; intro w' hw'; go_simp; with_reducible rfl; simp only [zP,zS,zC,zZ]
       refine AnyS.done (by kernel_rfl) ?_ _
       clear hS
       go_wp2_with fail
       go_meet
       exact ⟨by rw [← HHB.out]; simp, HBZ⟩
    | true =>
      by_cases hse : sz ≤ e
      · have hse2 : ¬ ((e : Int) < (sz : Int)) := by omega
        have hsl1 := HS1.out hse
        have hsl2 := HS2.out
        as_aux_lemma =>
         refine (wpIn_wide (n := 5)).1 ?_
         refine wpIn_region_lit_late (fun _ => True) (fun _ => false) (k := 24) (listed := #[false, false, false, false, false, false, false, false, false, false, false, false, false, false, false, false, false, false, false, false, false, false, false, false]) (by kernel_rfl) (by kernel_rfl) (by kernel_rfl) ?_
         have bz := Below.drew (Below.refl w1.heap.size w1)
         have HBZ := Lib.hid bz
         obtain ⟨wz, hwz⟩ : ∃ wz, w1.drew = wz := ⟨_, rfl⟩
         rw [hwz] at HBZ ⊢
         clear hwz bz
         refine AnyS.yes 0 43 ?_ rfl rfl (by kernel_rfl) (fun _ _ _ _ _ => id) hS (fun _ => rfl) ?_ ?_; rotate_left; intro w' hw'; go_simp; with_reducible rfl; simp only [zP,zS,zC,zZ]
         refine AnyS.yes 1 44 ?_ rfl rfl (by kernel_rfl) (fun _ _ _ _ _ => id) hS (fun _ => rfl) ?_ ?_; rotate_left; intro w' hw'; go_simp; with_reducible rfl; simp only [zP,zS,zC,zZ]
         refine AnyS.yes 2 45 ?_ rfl rfl (by kernel_rfl) (fun _ _ _ _ _ => id) hS (fun _ => rfl) ?_ ?_; rotate_left; intro w' hw'; go_simp; with_reducible rfl; simp only [zP,zS,zC,zZ]
         refine AnyS.yes 3 46 ?_ rfl rfl (by kernel_rfl) (fun _ _ _ _ _ => id) hS (fun _ => rfl) ?_ ?_; rotate_left; intro w' hw'; go_simp; with_reducible rfl; simp only [zP,zS,zC,zZ]
         refine AnyS.yes 4 47 ?_ rfl rfl (by kernel_rfl) (fun _ _ _ _ _ => id) hS (fun _ => rfl) ?_ ?_; rotate_left; intro w' hw'; go_simp; with_reducible rfl; simp only [zP,zS,zC,zZ]
         refine AnyS.yes 5 48 ?_ rfl rfl (by kernel_rfl) (fun _ _ _ _ _ => id) hS (fun _ => rfl) ?_ ?_; rotate_left; intro w' hw'; go_simp; with_reducible rfl; simp only [zP,zS,zC,zZ]
         refine AnyS.yes 6 49 ?_ rfl rfl (by kernel_rfl) (fun _ _ _ _ _ => id) hS (fun _ => rfl) ?_ ?_; rotate_left; intro w' hw'; go_simp; with_reducible rfl; simp only [zP,zS,zC,zZ]
         refine AnyS.yes 7 50 ?_ rfl rfl (by kernel_rfl) (fun _ _ _ _ _ => id) hS (fun _ => rfl) ?_ ?_; rotate_left; intro w' hw'; go_simp; with_reducible rfl; simp only [zP,zS,zC,zZ]
         refine AnyS.yes 8 51 ?_ rfl rfl (by kernel_rfl) (fun _ _ _ _ _ => id) hS (fun _ => rfl) ?_ ?_; rotate_left; intro w' hw'; go_simp; with_reducible rfl; simp only [zP,zS,zC,zZ]
         refine AnyS.yes 9 52 ?_ rfl rfl (by kernel_rfl) (fun _ _ _ _ _ => id) hS (fun _ => rfl) ?_ ?_; rotate_left; intro w' hw'; go_simp; with_reducible rfl; simp only [zP,zS,zC,zZ]
         refine AnyS.yes 10 53 ?_ rfl rfl (by kernel_rfl) (fun _ _ _ _ _ => id) hS (fun _ => rfl) ?_ ?_; rotate_left; intro w' hw'; go_simp; with_reducible rfl; simp only [zP,zS,zC,zZ]
         refine AnyS.yes 11 54 ?_ rfl rfl (by kernel_rfl) (fun _ _ _ _ _ => id) hS (fun _ => rfl) ?_ ?_; rotate_left; intro w' hw'; go_simp; with_reducible rfl; simp only [zP,zS,zC,zZ]
         refine AnyS.yes 12 55 ?_ rfl rfl (by kernel_rfl) (fun _ _ _ _ _ => id) hS (fun _ => rfl) ?_ ?_; rotate_left; intro w' hw'; go_simp; with_reducible rfl; simp only [zP,zS,zC,zZ]
         refine AnyS.yes 13 56 ?_ rfl rfl (by kernel_rfl) (fun _ _ _ _ _ => id) hS (fun _ => rfl) ?_ ?_; rotate_left; intro w' hw'; go_simp; with_reducible rfl; simp only [zP,zS,zC,zZ]
         refine AnyS.yes 14 57 ?_ rfl rfl (by kernel_rfl) (fun _ _ _ _ _ => id) hS (fun _ => rfl) ?_ ?_; rotate_left; intro w' hw'; go_simp; with_reducible rfl; simp only [zP,zS,zC,zZ]
         refine AnyS.yes 15 58 ?_ rfl rfl (by kernel_rfl) (fun _ _ _ _ _ => id) hS (fun _ => rfl) ?_ ?_; rotate_left; intro w' hw'; go_simp; with_reducible rfl; simp only [zP,zS,zC,zZ]
         refine AnyS.yes 17 60 ?_ rfl rfl (by kernel_rfl) (fun _ _ _ _ _ => id) hS (fun _ => rfl) ?_ ?_; rotate_left; intro w' hw'; go_simp; with_reducible rfl; simp only [zP,zS,zC,zZ]
         refine AnyS.yes 18 61 ?_ rfl rfl (by kernel_rfl) (fun _ _ _ _ _ => id) hS (fun _ => rfl) ?_ ?_; rotate_left; intro w' hw'; go_simp; with_reducible rfl; simp only [zP,zS,zC,zZ]
         refine AnyS.yes 19 62 ?_ rfl rfl (by kernel_rfl) (fun _ _ _ _ _ => id) hS (fun _ => rfl) ?_ ?_; rotate_left; intro w' hw'; go_simp; with_reducible rfl; simp only [zP,zS,zC,zZ]
         refine AnyS.yes 20 63 ?_ rfl rfl (by kernel_rfl) (fun _ _ _ _ _ => id) hS (fun _ => rfl) ?_ ?_; rotate_left; intro w' hw'; go_simp; with_reducible rfl; simp only [zP,zS,zC,zZ]
         refine AnyS.yes 21 64 ?_ rfl rfl (by kernel_rfl) (fun _ _ _ _ _ => id) hS (fun _ => rfl) ?_ ?_; rotate_left; intro w' hw'; go_simp; with_reducible rfl; simp only [zP,zS,zC,zZ]
         refine AnyS.next (i := 16) rfl (by kernel_rfl) (by kernel_rfl) fun K' hK' => ?_
         refine want_yes (by kernel_rfl) ?_
         go_simp
         refine ⟨trivial, (callsIn_wide.2 (sumB_any (ixT text) _ (by have := HXL.out.1 hse; have := HEN.out.2; omega))).mono ?_⟩
         rintro e9 wb ⟨rfl, bb⟩
         have HBB := Lib.hid (btP HBZ.out bb)
         refine hK' _ _ (fun _ => trivial) ?_
         clear hK' K' bb HBZ
         simp only [zP,zN,zS,zC,zZ]
         refine AnyS.yes 22 65 ?_ rfl rfl (by kernel_rfl) (fun _ _ _ _ _ => id) hS (fun _ => rfl) ?_ ?_; rotate_left; intro w' hw'; go_simp; with_reducible rfl; simp only [zP,zS,zC,zZ]
         refine AnyS.yes 23 66 ?_ rfl rfl (by kernel_rfl) (fun _ _ _ _ _ => id) hS (fun _ => rfl) ?_ ?_; rotate_left; intro w' hw'; go_simp; with_reducible rfl; simp only [zP,zS,zC,zZ]
         refine AnyS.done (by kernel_rfl) ?_ _
         clear hS
         go_wp2_with fail
         go_meet
         refine ⟨?_, HBB⟩
         rw [← HHB.out]
         by_cases hq : sumB (ixT text) = E4 <;> simp [hq, hse]
      · have hse2 : (e : Int) < (sz : Int) := by omega
        as_aux_lemma =>
         refine (wpIn_wide (n := 5)).1 ?_
         refine wpIn_region_lit_late (fun _ => True) (fun _ => false) (k := 24) (listed := #[false, false, false, false, false, false, false, false, false, false, false, false, false, false, false, false, false, false, false, false, false, false, false, false]) (by kernel_rfl) (by kernel_rfl) (by kernel_rfl) ?_
         have bz := Below.drew (Below.refl w1.heap.size w1)
         have HBZ := Lib.hid bz
         obtain ⟨wz, hwz⟩ : ∃ wz, w1.drew = wz := ⟨_, rfl⟩
         rw [hwz] at HBZ ⊢
         clear hwz bz
         refine AnyS.yes 0 43 ?_ rfl rfl (by kernel_rfl) (fun _ _ _ _ _ => id) hS (fun _ => rfl) ?_ ?_; rotate_left; intro w' hw'; go_simp; with_reducible rfl; simp only [zP,zS,zC,zZ]
         refine AnyS.yes 1 44 ?_ rfl rfl (by kernel_rfl) (fun _ _ _ _ _ => id) hS (fun _ => rfl) ?_ ?_; rotate_left; intro w' hw'; go_simp; with_reducible rfl; simp only [zP,zS,zC,zZ]
         refine AnyS.yes 2 45 ?_ rfl rfl (by kernel_rfl) (fun _ _ _ _ _ => id) hS (fun _ => rfl) ?_ ?_; rotate_left; intro w' hw'; go_simp; with_reducible rfl; simp only [zP,zS,zC,zZ]
         refine AnyS.yes 3 46 ?_ rfl rfl (by kernel_rfl) (fun _ _ _ _ _ => id) hS (fun _ => rfl) ?_ ?_; rotate_left; intro w' hw'; go_simp; with_reducible rfl; simp only [zP,zS,zC,zZ]
         refine AnyS.yes 4 47 ?_ rfl rfl (by kernel_rfl) (fun _ _ _ _ _ => id) hS (fun _ => rfl) ?_ ?_; rotate_left; intro w' hw'; go_simp; with_reducible rfl; simp only [zP,zS,zC,zZ]
         refine AnyS.yes 5 48 ?_ rfl rfl (by kernel_rfl) (fun _ _ _ _ _ => id) hS (fun _ => rfl) ?_ ?_; rotate_left; intro w' hw'; go_simp; with_reducible rfl; simp only [zP,zS,zC,zZ]
         refine AnyS.yes 6 49 ?_ rfl rfl (by kernel_rfl) (fun _ _ _ _ _ => id) hS (fun _ => rfl) ?_ ?_; rotate_left; intro w' hw'; go_simp; with_reducible rfl; simp only [zP,zS,zC,zZ]
         refine AnyS.yes 7 50 ?_ rfl rfl (by kernel_rfl) (fun _ _ _ _ _ => id) hS (fun _ => rfl) ?_ ?_; rotate_left; intro w' hw'; go_simp; with_reducible rfl; simp only [zP,zS,zC,zZ]
         refine AnyS.yes 8 51 ?_ rfl rfl (by kernel_rfl) (fun _ _ _ _ _ => id) hS (fun _ => rfl) ?_ ?_; rotate_left; intro w' hw'; go_simp; with_reducible rfl; simp only [zP,zS,zC,zZ]
         refine AnyS.yes 9 52 ?_ rfl rfl (by kernel_rfl) (fun _ _ _ _ _ => id) hS (fun _ => rfl) ?_ ?_; rotate_left; intro w' hw'; go_simp; with_reducible rfl; simp only [zP,zS,zC,zZ]
         refine AnyS.yes 10 53 ?_ rfl rfl (by kernel_rfl) (fun _ _ _ _ _ => id) hS (fun _ => rfl) ?_ ?_; rotate_left; intro w' hw'; go_simp; with_reducible rfl; simp only [zP,zS,zC,zZ]
         refine AnyS.yes 11 54 ?_ rfl rfl (by kernel_rfl) (fun _ _ _ _ _ => id) hS (fun _ => rfl) ?_ ?_; rotate_left; intro w' hw'; go_simp; with_reducible rfl; simp only [zP,zS,zC,zZ]
         refine AnyS.no 12 55 rfl rfl (by kernel_rfl) (fun _ _ _ _ _ => id) hS (fun _ => rfl) ?_; simp only [zP,zS,zC,zZ]
         refine AnyS.no 13 56 rfl rfl (by kernel_rfl) (fun _ _ _ _ _ => id) hS (fun _ => rfl) ?_; simp only [zP,zS,zC,zZ]
         refine AnyS.no 14 57 rfl rfl (by kernel_rfl) (fun _ _ _ _ _ => id) hS (fun _ => rfl) ?_; simp only [zP,zS,zC,zZ]
         refine AnyS.no 15 58 rfl rfl (by kernel_rfl) (fun _ _ _ _ _ => id) hS (fun _ => rfl) ?_; simp only [zP,zS,zC,zZ]
         refine AnyS.no 17 60 rfl rfl (by kernel_rfl) (fun _ _ _ _ _ => id) hS (fun _ => rfl) ?_; simp only [zP,zS,zC,zZ]
         refine AnyS.no 18 61 rfl rfl (by kernel_rfl) (fun _ _ _ _ _ => id) hS (fun _ => rfl) ?_; simp only [zP,zS,zC,zZ]
         refine AnyS.no 19 62 rfl rfl (by kernel_rfl) (fun _ _ _ _ _ => id) hS (fun _ => rfl) ?_; simp only [zP,zS,zC,zZ]
         refine AnyS.no 20 63 rfl rfl (by kernel_rfl) (fun _ _ _ _ _ => id) hS (fun _ => rfl) ?_; simp only [zP,zS,zC,zZ]
         refine AnyS.no 21 64 rfl rfl (by kernel_rfl) (fun _ _ _ _ _ => id) hS (fun _ => rfl) ?_; simp only [zP,zS,zC,zZ]
         refine AnyS.next (i := 16) rfl (by kernel_rfl) (by kernel_rfl) fun K' hK' => ?_
         refine want_no (Bool.eq_false_iff.1 (by kernel_rfl)) ⟨fun _ _ => trivial, ?_⟩
         go_simp
         refine hK' _ _ (fun _ => trivial) ?_
         clear hK' K'
         try simp only [zP,zN,zS,zC,zZ]
         refine AnyS.no 22 65 rfl rfl (by kernel_rfl) (fun _ _ _ _ _ => id) hS (fun _ => rfl) ?_; simp only [zP,zS,zC,zZ]
         refine AnyS.yes 23 66 ?_ rfl rfl (by kernel_rfl) (fun _ _ _ _ _ => id) hS (fun _ => rfl) ?_ ?_; rotate_left; intro w' hw'; go_simp; with_reducible rfl; simp only [zP,zS,zC,zZ]
         refine AnyS.done (by kernel_rfl) ?_ _
         clear hS
         go_wp2_with fail
         go_meet
         exact ⟨by rw [← HHB.out]; simp [hse], HBZ⟩
 obtain ⟨hcv, HC⟩ := hcut
 subst hcv
 cases hb with
 | false =>
   have ho : openT text = none := by
    rw [HO.out, HD.out, HHB.out]
    rfl
   have HN0 := Lib.hid ho
   clear ho
   go_wp2_with fail
   go_ret2
   exact ⟨HC.out, .inl ⟨HN0.out, rfl⟩⟩
 | true =>
   have hcond := HHB.out
   simp only [Bool.and_eq_true, decide_eq_true_eq] at hcond
   obtain ⟨⟨⟨rfl, rfl⟩, hse⟩, -⟩ := hcond
   have ho : openT text = if gO (get (ixT text)) = true then finT text (openL (dtT text) (ixT text) (gN (get (ixT text))) (gA 0 (get (ixT text))) 0 none) else none := by
    rw [HO.out, HD.out, HHB.out]
    rfl
   have HO2 := Lib.hid ho
   have hsl1 := HS1.out hse
   have hsl3 := HS3.out hse
   have HXL2 := Lib.hid (And.intro (HXL.out.1 hse) (HXL.out.2 hse))
   have HS4 := Lib.hid (And.intro hsl1 hsl3)
   clear ho HO HD HHB HS1 HS2 HS3 HXL hsl1 hsl3
   go_wp2_with fail
   have HW3 := Lib.hid (show Below w1.heap.size w1 (wc.alloc (.cells #[.slice none 0 0] 92)) from btP HC.out ((Below.refl wc.heap.size wc).alloc (Nat.le_refl _) _))
   have HT3 := Lib.hid (heap_alloc_new wc (.cells #[.slice none 0 0] 92))
   have HZ3 := Lib.hid (show (wc.alloc (.cells #[.slice none 0 0] 92)).heap.size = wc.heap.size + 1 by simp)
   obtain ⟨T0, hT0⟩ : ∃ T0, wc.heap.size = T0 := ⟨_, rfl⟩
   have HT0 := Lib.hid (show w1.heap.size ≤ T0 by rw [← hT0]; exact HC.out.size)
   rw [hT0] at HT3 HZ3 ⊢
   obtain ⟨w3, hw3⟩ : ∃ w3, wc.alloc (.cells #[.slice none 0 0] 92) = w3 := ⟨_, rfl⟩
   rw [hw3] at HW3 HT3 HZ3 ⊢
   clear hT0 hw3 HC
   have hsl1 := HS4.out.1
   have hsl3 := HS4.out.2
   go_cut [10, 11] (fun v10 v11 wx => ∃ Dl Ix, v10 = .pointer (some ⟨Dl, 0, none⟩) ∧ v11 = .pointer (some ⟨Ix, 0, none⟩) ∧ Hid (OpSt T0 Dl Ix (T0 + 3) (dtT text) (ixT text) w1 0 0 false false [] (.slice none 0 0) [] (.slice none 0 0) [] wx))
   case first =>
    as_aux_lemma =>
     refine (wpIn_wide (n := 5)).1 ?_
     refine wpIn_region_lit_late (fun _ => True) (fun _ => false) (k := 13) (listed := #[false, false, false, false, false, false, false, false, false, false, false, false, false]) (by kernel_rfl) (by kernel_rfl) (by kernel_rfl) ?_
     have hS : True := trivial
     have bz := Below.drew (Below.refl w3.heap.size w3)
     have HBZ := Lib.hid (btP HW3.out bz)
     have HTZ := Lib.hid (show w3.drew.heap[T0]? = some (.cells #[.slice none 0 0] 92 (0, 0)) from HT3.out)
     have HZZ := Lib.hid (show w3.drew.heap.size = T0 + 1 from HZ3.out)
     obtain ⟨wz, hwz⟩ : ∃ wz, w3.drew = wz := ⟨_, rfl⟩
     rw [hwz] at HBZ HTZ HZZ ⊢
     clear hwz bz HW3 HT3 HZ3
     have n1 := (Below.refl wz.heap.size wz).alloc (Nat.le_refl _) (.cells #[.int .i64 (0 : Nat), .bool false, .string ⟨(dtT text).toArray⟩] 97)
     have n2 := n1.alloc n1.size (.cells #[.int .i64 (0 : Nat), .bool false, .string ⟨(ixT text).toArray⟩] 97)
     have m1 := (Below.refl wz.heap.size wz).alloc (Nat.le_refl _) (.cells #[.int .i64 (0 : Nat), .bool false, .string ⟨(ixT text).toArray⟩] 97)
     have m2 := m1.alloc m1.size (.cells #[.int .i64 (0 : Nat), .bool false, .string ⟨(dtT text).toArray⟩] 97)
     have fin : ∀ (A B : Obj) (W' : World), W' = (wz.alloc A).alloc B → W'.heap[T0 + 1]? = some A ∧ W'.heap[T0 + 2]? = some B ∧ W'.heap[T0]? = some (.cells #[.slice none 0 0] 92 (0, 0)) ∧ W'.heap.size = T0 + 3 := by
      intro A B W' hW
      subst hW
      have z := HZZ.out
      have e1 := heap_alloc_new wz A
      have e2 := heap_alloc_new (wz.alloc A) B
      have e3 := Below.heap_alloc (wz.alloc A) B wz.heap.size (by simp)
      have z1 : (wz.alloc A).heap.size = T0 + 2 := by simp; omega
      have e4 := Below.heap_alloc (wz.alloc A) B T0 (by omega)
      have e5 := Below.heap_alloc wz A T0 (by omega)
      rw [z] at e1 e3
      rw [z1] at e2
      refine ⟨e3.trans e1, e2, e4.trans (e5.trans HTZ.out), by simp; omega⟩
     have HFN := Lib.hid fin
     have HN2 := Lib.hid n2
     have HM2 := Lib.hid m2
     clear fin n1 n2 m1 m2
     have hz1 := HZZ.out
     refine AnyS.yes 0 69 ?_ rfl rfl (by kernel_rfl) (fun _ _ _ _ _ => id) hS (fun _ => rfl) ?_ ?_; rotate_left; intro w' hw'; go_simp; with_reducible rfl; simp only [zP,zS,zC,zZ]
     refine AnyS.yes 1 70 ?_ rfl rfl (by kernel_rfl) (fun _ _ _ _ _ => id) hS (fun _ => rfl) ?_ ?_; rotate_left; intro w' hw'; go_simp; with_reducible rfl; simp only [zP,zS,zC,zZ]
     refine AnyS.yes 2 71 ?_ rfl rfl (by kernel_rfl) (fun _ _ _ _ _ => id) hS (fun _ => rfl) ?_ ?_; rotate_left; intro w' hw'; go_simp; with_reducible rfl; simp only [zP,zS,zC,zZ]
     refine AnyS.yes 3 72 ?_ rfl rfl (by kernel_rfl) (fun _ _ _ _ _ => id) hS (fun _ => rfl) ?_ ?_; rotate_left; intro w' hw'; go_simp; with_reducible rfl; simp only [zP,zS,zC,zZ]
     refine AnyS.yes 5 74 ?_ rfl rfl (by kernel_rfl) (fun _ _ _ _ _ => id) hS (fun _ => rfl) ?_ ?_; rotate_left; intro w' hw'; go_simp; with_reducible rfl; simp only [zP,zS,zC,zZ]
     refine AnyS.yes 6 75 ?_ rfl rfl (by kernel_rfl) (fun _ _ _ _ _ => id) hS (fun _ => rfl) ?_ ?_; rotate_left; intro w' hw'; go_simp; with_reducible rfl; simp only [zP,zS,zC,zZ]
     refine AnyS.yes 7 76 ?_ rfl rfl (by kernel_rfl) (fun _ _ _ _ _ => id) hS (fun _ => rfl) ?_ ?_; rotate_left; intro w' hw'; go_simp; with_reducible rfl; simp only [zP,zS,zC,zZ]
     refine AnyS.yes 8 77 ?_ rfl rfl (by kernel_rfl) (fun _ _ _ _ _ => id) hS (fun _ => rfl) ?_ ?_; rotate_left; intro w' hw'; go_simp; with_reducible rfl; simp only [zP,zS,zC,zZ]
     refine AnyS.yes 9 78 ?_ rfl rfl (by kernel_rfl) (fun _ _ _ _ _ => id) hS (fun _ => rfl) ?_ ?_; rotate_left; intro w' hw'; go_simp; with_reducible rfl; simp only [zP,zS,zC,zZ]
     refine AnyS.two (i := 4) (j := 10) rfl rfl (by kernel_rfl) (by kernel_rfl) (fun K' hK' => ?_) (fun K' hK' => ?_)
     · refine want_yes (by kernel_rfl) ?_
       go_simp
       refine hK' _ _ (fun _ => trivial) ?_
       clear hK' K'
       simp only [zP,zN,zS,zC,zZ]
       refine AnyS.yes 11 10 ?_ rfl rfl (by kernel_rfl) (fun _ _ _ _ _ => id) hS (fun _ => rfl) ?_ ?_; rotate_left; intro w' hw'; go_simp; with_reducible rfl; simp only [zP,zS,zC,zZ]
       refine AnyS.next (i := 10) rfl (by kernel_rfl) (by kernel_rfl) fun K' hK' => ?_
       refine want_yes (by kernel_rfl) ?_
       go_simp
       refine hK' _ _ (fun _ => trivial) ?_
       clear hK' K'
       simp only [zP,zN,zS,zC,zZ]
       refine AnyS.yes 12 11 ?_ rfl rfl (by kernel_rfl) (fun _ _ _ _ _ => id) hS (fun _ => rfl) ?_ ?_; rotate_left; intro w' hw'; go_simp; with_reducible rfl; simp only [zP,zS,zC,zZ]
       refine AnyS.done (by kernel_rfl) ?_ _
       clear hS
       obtain ⟨q1, q2, q3, q4⟩ := HFN.out (.cells #[.int .i64 (0 : Nat), .bool false, .string ⟨(dtT text).toArray⟩] 97) (.cells #[.int .i64 (0 : Nat), .bool false, .string ⟨(ixT text).toArray⟩] 97) _ rfl
       have bb := HBZ.out.trans (HN2.out.mono HBZ.out.size)
       have HST := Lib.hid (OpSt.mk (T0 := T0) (Dl := T0 + 1) (Ix := T0 + 2) (base := T0 + 3) (D := dtT text) (I := ixT text) (w0 := w1) (ia := 0) (da := 0) (ib := false) (db := false) (acc := []) (vt := .slice none 0 0) (vs := []) (vl := .slice none 0 0) (lg := []) q1 q2 q3 (World.ownsRow_nil _ _ _ _) (SlG.nil _ _) (.inl ⟨rfl, rfl⟩) (by omega) (by omega) (by omega) (by omega) (by omega) (by omega) (by rw [q4]; exact Nat.le_refl _) (by have := HT0.out; omega) (by have := HT0.out; omega) HT0.out bb)
       clear q1 q2 q3 q4 bb
       go_wp2_with fail
       go_meet
       first
       | exact ⟨T0 + 1, T0 + 2, rfl, rfl, HST⟩
       | (refine ⟨T0 + 1, T0 + 2, ?_, ?_, HST⟩ <;> simp [hz1])
     · refine want_yes (by kernel_rfl) ?_
       go_simp
       refine hK' _ _ (fun _ => trivial) ?_
       clear hK' K'
       simp only [zP,zN,zS,zC,zZ]
       refine AnyS.next (i := 4) rfl (by kernel_rfl) (by kernel_rfl) fun K' hK' => ?_
       refine want_yes (by kernel_rfl) ?_
       go_simp
       refine hK' _ _ (fun _ => trivial) ?_
       clear hK' K'
       simp only [zP,zN,zS,zC,zZ]
       refine AnyS.yes 11 10 ?_ rfl rfl (by kernel_rfl) (fun _ _ _ _ _ => id) hS (fun _ => rfl) ?_ ?_; rotate_left; intro w' hw'; go_simp; with_reducible rfl; simp only [zP,zS,zC,zZ]
       refine AnyS.yes 12 11 ?_ rfl rfl (by kernel_rfl) (fun _ _ _ _ _ => id) hS (fun _ => rfl) ?_ ?_; rotate_left; intro w' hw'; go_simp; with_reducible rfl; simp only [zP,zS,zC,zZ]
       refine AnyS.done (by kernel_rfl) ?_ _
       clear hS
       obtain ⟨q1, q2, q3, q4⟩ := HFN.out (.cells #[.int .i64 (0 : Nat), .bool false, .string ⟨(ixT text).toArray⟩] 97) (.cells #[.int .i64 (0 : Nat), .bool false, .string ⟨(dtT text).toArray⟩] 97) _ rfl
       have bb := HBZ.out.trans (HM2.out.mono HBZ.out.size)
       have HST := Lib.hid (OpSt.mk (T0 := T0) (Dl := T0 + 2) (Ix := T0 + 1) (base := T0 + 3) (D := dtT text) (I := ixT text) (w0 := w1) (ia := 0) (da := 0) (ib := false) (db := false) (acc := []) (vt := .slice none 0 0) (vs := []) (vl := .slice none 0 0) (lg := []) q2 q1 q3 (World.ownsRow_nil _ _ _ _) (SlG.nil _ _) (.inl ⟨rfl, rfl⟩) (by omega) (by omega) (by omega) (by omega) (by omega) (by omega) (by rw [q4]; exact Nat.le_refl _) (by have := HT0.out; omega) (by have := HT0.out; omega) HT0.out bb)
       clear q1 q2 q3 q4 bb
       go_wp2_with fail
       go_meet
       first
       | exact ⟨T0 + 2, T0 + 1, rfl, rfl, HST⟩
       | (refine ⟨T0 + 2, T0 + 1, ?_, ?_, HST⟩ <;> simp [hz1])
   clear hsl1 hsl3
   obtain ⟨Dl, Ix, hc10, hc11, HST⟩ := hcut
   subst hc10 hc11
   clear HW3 HT3 HZ3
   go_wp2_with fail
   have nc := number_any Ix 0 false (ixT text) wc HST.out.ri (by have := HXL2.out.1; have := HEN.out.2; omega) (Nat.zero_le _)
   rw [List.drop_zero, Bool.false_or] at nc
   have NC := Lib.hid nc
   clear nc
   obtain ⟨n0, hn0⟩ : ∃ n0, gN (get (ixT text)) = n0 := ⟨_, rfl⟩
   obtain ⟨k0, hk0⟩ : ∃ k0, gA 0 (get (ixT text)) = k0 := ⟨_, rfl⟩
   obtain ⟨o0, ho0⟩ : ∃ o0, gO (get (ixT text)) = o0 := ⟨_, rfl⟩
   have hn63 : n0 ≤ 9223372036854775807 := by
    rw [← hn0]
    have := gN_le (l := ixT text) (a := 0)
    rwa [List.drop_zero] at this
   have hk63 : k0 ≤ (ixT text).length := by
    rw [← hk0]
    have := gA_le (l := ixT text) (a := 0)
    rwa [List.drop_zero] at this
   rw [hn0, hk0, ho0] at NC
   have ho2 := HO2.out
   rw [hn0, hk0, ho0] at ho2
   obtain ⟨D, hDD⟩ : ∃ D, dtT text = D := ⟨_, rfl⟩
   obtain ⟨I, hII⟩ : ∃ I, ixT text = I := ⟨_, rfl⟩
   rw [hDD, hII] at ho2 HXL2
   rw [hII] at NC hk63
   rw [hDD, hII] at HST
   have HO3 := Lib.hid ho2
   have HK := Lib.hid (And.intro hn63 hk63)
   clear hn63 hk63 ho2 HO2 hn0 hk0 ho0 hDD hII HS4
   go_wp2_with fail
   refine NC.out.mono ?_
   rintro e9 wd ⟨rfl, hR, hF⟩
   have HS5 := Lib.hid (HST.out.setI hR hF)
   clear NC hR hF HST
   go_wp2_with fail
   go_loopw [12, 13] (fun vl vn wr => ∃ (n ia da : Nat) (ib db : Bool) (acc : List (List Ce)) (vt : Value) (vs : List Value) (lg : List Ce), vn = .int .i64 n ∧ n ≤ 9223372036854775807 ∧ Hid (OpSt T0 Dl Ix (T0 + 3) D I w1 ia da ib db acc vt vs vl lg wr) ∧ Hid (RoundOk text D I n0 k0 o0 n ia da ib db acc lg)) (fun _ vn _ => (intOf vn).toNat)
   case atStart => exact ⟨n0, k0, 0, !o0, false, [], _, _, [], rfl, HK.out.1, HS5, Lib.hid (RoundOk.start HO3.out HK.out.2)⟩
   case round =>
    obtain ⟨n, ia, da, ib, db, acc, vt, vs, lg, rfl, hn63, HS, HRO⟩ := hrel
    clear HS5
    obtain ⟨c, hc⟩ : ∃ c, (decide (0 < n) && !ib && !db) = c := ⟨_, rfl⟩
    have HCC := Lib.hid hc
    clear hc
    go_upto_region 12 with fail
    have HRD := Lib.hid HS.out.rd.cells
    have HRI := Lib.hid HS.out.ri.cells
    go_cut [99] (fun v wx => v = .bool c ∧ wx = wr)
    case first =>
     obtain ⟨t1, t2, t3⟩ := HRD.out
     obtain ⟨s1, s2, s3⟩ := HRI.out
     by_cases h0 : 0 < n
     · have h0i : (0 : Int) < (n : Int) := by omega
       cases ib with
       | true =>
         go_wp2_with fail
         go_meet
         exact ⟨by rw [← HCC.out]; simp, rfl⟩
       | false =>
         go_wp2_with fail
         go_meet
         refine ⟨?_, rfl⟩
         rw [← HCC.out]
         cases db <;> simp [h0]
     · obtain rfl : n = 0 := by omega
       go_wp2_with fail
       go_meet
       exact ⟨by rw [← HCC.out]; simp, rfl⟩
    obtain ⟨hcv, hwx⟩ := hcut
    subst hcv hwx
    cases c with
    | true =>
      have hcond := HCC.out
      simp only [Bool.and_eq_true, decide_eq_true_eq, Bool.not_eq_true'] at hcond
      obtain ⟨⟨hn1, rfl⟩, rfl⟩ := hcond
      obtain ⟨n', hn'⟩ : ∃ n', n = n' + 1 := ⟨n - 1, by omega⟩
      have HR2 := Lib.hid (show RoundOk text D I n0 k0 o0 (n' + 1) ia da false false acc lg from hn' ▸ HRO.out)
      have hwn : IntKind.i64.wrap ((n : Int) - 1) = (n' : Int) := by rw [IntKind.wrap_i64]; omega
      have HN1 := Lib.hid hn'
      clear HCC HRO hn1 hn'
      go_wp2_with fail
      have nmc : Calls Tryz.prog 43 #[.pointer (some ⟨Ix, 0, none⟩)] wc fun e w' => e = .returned (.string ⟨(rKey I ia).toArray⟩) ∧ RdAt Ix (tA ia (getText (I.drop ia))) (!gO (getText (I.drop ia))) I w' ∧ Fr [Ix] wc w' := name_any Ix ia false I wc HS.out.ri (by have := HXL2.out.1; have := HEN.out.2; omega) HR2.out.hi
      have nuc : ∀ W, RdAt Ix (tA ia (getText (I.drop ia))) (!gO (getText (I.drop ia))) I W → Calls Tryz.prog 42 #[.pointer (some ⟨Ix, 0, none⟩)] W fun e w' => e = .returned (.int .i64 (rNum I ia)) ∧ RdAt Ix (rNext I ia) (rBad I ia) I w' ∧ Fr [Ix] W w' := fun W h => number_any Ix _ _ I W h (by have := HXL2.out.1; have := HEN.out.2; omega) (tA_le HR2.out.hi)
      have tkc := fun W (h : RdAt Dl da false D W) => taken_any Dl da false D (rNum I ia) W h (by have := HXL2.out.2; have := HEN.out.2; omega) HR2.out.hd rNum_le
      have nx := fun {g : List Ce} => HR2.out.next (g := g)
      have stp := HR2.out.stop
      have hsl : (tkS da D (rNum I ia)).length ≤ 1000000000 := by
       unfold tkS
       rw [List.length_take, List.length_drop]
       have := HXL2.out.2
       have := HEN.out.2
       omega
      obtain ⟨K0, hK0⟩ : ∃ K0, rKey I ia = K0 := ⟨_, rfl⟩
      obtain ⟨NM, hNM⟩ : ∃ NM, rNum I ia = NM := ⟨_, rfl⟩
      obtain ⟨NX, hNX⟩ : ∃ NX, rNext I ia = NX := ⟨_, rfl⟩
      obtain ⟨RB, hRB⟩ : ∃ RB, rBad I ia = RB := ⟨_, rfl⟩
      obtain ⟨ja, hja⟩ : ∃ ja, tA ia (getText (I.drop ia)) = ja := ⟨_, rfl⟩
      obtain ⟨jb, hjb⟩ : ∃ jb, (!gO (getText (I.drop ia))) = jb := ⟨_, rfl⟩
      obtain ⟨S, hSS⟩ : ∃ S, tkS da D NM = S := ⟨_, rfl⟩
      rw [hK0, hja, hjb] at nmc
      rw [hja, hjb, hNM, hNX, hRB] at nuc
      rw [hNM] at tkc hsl
      rw [hSS] at tkc hsl
      have HQ := Lib.hid (And.intro hK0 (And.intro hNM hSS))
      have NXT := Lib.hid (fun (g : List Ce) (q1 : tkOk da false D NM = true) (q2 : decB S = some g) (q3 : g ≠ []) (q4 : keyG g = K0) (q5 : n' = 0 ∨ g.length = 4) (q6 : g.length ≤ 4) (q7 : sortedFrom (lastOr none acc.flatten) g = true) => (show RoundOk text D I n0 k0 o0 n' NX (da + NM + 4) RB (!tkSum da D NM) (acc ++ [g]) g from by
       have h := nx (g := g) (by rw [hNM]; exact q1) (by rw [hNM, hSS]; exact q2) q3 (by rw [hK0]; exact q4) q5 q6 q7
       rw [hNX, hNM, hRB] at h
       exact h))
      have STP := Lib.hid stp
      have NMC := Lib.hid nmc
      have NUC := Lib.hid nuc
      have TKC := Lib.hid tkc
      have HSL := Lib.hid hsl
      clear nx stp nmc nuc tkc hK0 hNM hNX hRB hja hjb hSS hsl
      refine NMC.out.mono ?_
      rintro e9 we1 ⟨rfl, hR, hF⟩
      have HS1 := Lib.hid (HS.out.setI hR hF)
      clear NMC hR hF HS
      go_wp2_with fail
      refine (NUC.out _ HS1.out.ri).mono ?_
      rintro e9 we2 ⟨rfl, hR, hF⟩
      have HS2 := Lib.hid (HS1.out.setI hR hF)
      clear NUC hR hF HS1
      go_wp2_with fail
      refine (TKC.out _ HS2.out.rd).mono ?_
      rintro e9 we3 ⟨hF, (⟨hk0, rfl, hR⟩ | ⟨hk0, rfl, hR⟩)⟩
      · have HS3 := Lib.hid (HS2.out.setD hR hF)
        have HN0 := Lib.hid (STP.out fun g hg => by have := hg.ok; rw [HQ.out.2.1, hk0] at this; cases this)
        clear TKC hR hF HS2 hk0 NXT STP
        go_wp2_with fail
        refine (decodeB_any [] _ (by simp)).mono ?_
        rintro e9 we4 ⟨hB, (⟨-, rfl⟩ | ⟨l, v, hd, -⟩)⟩
        · have HB := Lib.hid (HS3.out.bl.trans (hB.mono HS3.out.bl.size))
          clear hB
          go_wp2_with fail
          go_ret2
          exact ⟨HB.out, .inl ⟨HN0.out, rfl⟩⟩
        · rw [decB_nil] at hd
          cases hd
      · have HS3 := Lib.hid (HS2.out.setD hR hF)
        have HK0 := Lib.hid hk0
        clear TKC hR hF HS2 hk0
        go_wp2_with fail
        refine (decodeB_any S _ HSL.out).mono ?_
        rintro e9 we4 ⟨hB, (⟨hdn, rfl⟩ | ⟨g, v, hd, rfl, own⟩)⟩
        · have HB := Lib.hid (HS3.out.bl.trans (hB.mono HS3.out.bl.size))
          have HN0 := Lib.hid (STP.out fun g hg => by have := hg.dec; rw [HQ.out.2.1, HQ.out.2.2, hdn] at this; cases this)
          clear hB hdn NXT STP
          go_wp2_with fail
          go_ret2
          exact ⟨HB.out, .inl ⟨HN0.out, rfl⟩⟩
        · have HS4 := Lib.hid (HS3.out.later hB)
          have HL3 := Lib.hid HS3.out.lb
          have HD := Lib.hid hd
          clear hB hd
          cases g with
          | nil =>
            obtain ⟨A, cap, rfl⟩ := own_slice own
            have HN0 := Lib.hid (STP.out fun g hg => by
             have h1 := hg.dec
             have h2 := hg.ne
             rw [HQ.out.2.1, HQ.out.2.2, HD.out] at h1
             cases h1
             exact h2 rfl)
            clear own NXT STP HS3
            go_wp2_with fail
            go_ret2
            exact ⟨HS4.out.bl, .inl ⟨HN0.out, rfl⟩⟩
          | cons d g' =>
            obtain ⟨b, hP, hlb⟩ := page_own own (by simp)
            have hbb := Nat.le_trans HL3.out hlb
            have HPP := Lib.hid (And.intro hP hbb)
            have c0 := (hP.row.2.cells (i := 0) (by simp)).1
            obtain ⟨cap, cur, rfl, hc1, hc2, -⟩ := hP
            have hc3 : cap ≤ 9223372036854775807 := by unfold maxLen at hc2; omega
            simp only [Nat.zero_mul, Nat.add_zero] at c0
            have e0 : ((d :: g').getD 0 Ce.zero).k = d.k := rfl
            rw [e0] at c0
            obtain ⟨m, hm⟩ : ∃ m, (d :: g').length = m := ⟨_, rfl⟩
            have hm1 : 1 ≤ m := by rw [← hm]; simp
            rw [hm] at hc1
            have HM := Lib.hid hm
            rw [hm] at HPP ⊢
            obtain ⟨bd, hbd⟩ : ∃ bd, (decide (¬ d.k = K0) || (decide (0 < n') && decide (¬ m = 4)) || decide (4 < m)) = bd := ⟨_, rfl⟩
            have HBD := Lib.hid hbd
            clear hbd hm own hlb hbb HS3 HL3 hc2 e0
            go_upto_region 16 with fail
            go_cut [140] (fun v wx => v = .bool bd ∧ wx = we4)
            case first =>
             clear HR2 NXT STP HQ HPP HS4 HD
             by_cases e1 : d.k = K0
             · by_cases e2 : (1 : Int) < (n : Int)
               · have e2' : 0 < n' := by have := HN1.out; omega
                 by_cases e3 : m = 4
                 · subst e3
                   rw [← e1]
                   go_wp2_with fail
                   go_meet
                   exact ⟨by rw [← HBD.out]; simp [e1], rfl⟩
                 · have e3' : ¬ (m : Int) = 4 := by omega
                   rw [← e1]
                   go_wp2_with fail
                   go_meet
                   exact ⟨by rw [← HBD.out]; simp [e1, e2', e3], rfl⟩
               · have e2' : ¬ 0 < n' := by have := HN1.out; omega
                 have e2'' : n' = 0 := by omega
                 rw [← e1]
                 by_cases e4 : (4 : Int) < (m : Int)
                 · have e4' : 4 < m := by omega
                   go_wp2_with fail
                   go_meet
                   exact ⟨by rw [← HBD.out]; simp [e4'], rfl⟩
                 · have e4' : ¬ 4 < m := by omega
                   go_wp2_with fail
                   go_meet
                   exact ⟨by rw [← HBD.out]; simp [e1, e2', e4', show ¬ m = 0 from by omega], rfl⟩
             · have e1' : ¬ (⟨d.k.toArray⟩ : ByteArray) = ⟨K0.toArray⟩ := fun h => e1 (by injection h with h; simpa using h)
               go_wp2_with fail
               go_meet
               exact ⟨by rw [← HBD.out]; simp [e1], rfl⟩
            obtain ⟨hcv, hwx⟩ := hcut
            subst hcv hwx
            cases bd with
            | true =>
              have HN0 := Lib.hid (STP.out fun g hg => by
               have h1 := hg.dec
               rw [HQ.out.2.1, HQ.out.2.2, HD.out] at h1
               obtain rfl : d :: g' = g := Option.some.inj h1
               have h2 := hg.key
               rw [HQ.out.1] at h2
               have h3 := hg.four
               have h4 := hg.most
               rw [HM.out] at h3 h4
               have h5 := HBD.out
               simp only [Bool.or_eq_true, Bool.and_eq_true, decide_eq_true_eq] at h5
               rcases h5 with (h5 | h5) | h5
               · exact h5 h2
               · omega
               · omega)
              clear NXT STP
              go_wp2_with fail
              go_ret2
              exact ⟨HS4.out.bl, .inl ⟨HN0.out, rfl⟩⟩
            | false =>
              have hbd := HBD.out
              simp only [Bool.or_eq_false_iff, Bool.and_eq_false_iff, decide_eq_false_iff_not, Decidable.not_not] at hbd
              obtain ⟨⟨hk1, hk2⟩, hk3⟩ := hbd
              have HGD := Lib.hid (And.intro hk1 (And.intro hk2 hk3))
              clear hk1 hk2 hk3 HBD
              obtain ⟨srt, hsrt⟩ : ∃ srt, sortedFrom (lastOr none acc.flatten) (d :: g') = srt := ⟨_, rfl⟩
              have HSRT := Lib.hid hsrt
              clear hsrt
              go_wp2_with fail
              go_cut [156] (fun v wx => v = .bool (!srt) ∧ Hid (Below wc.heap.size wc wx))
              case first =>
               have hsrt := HSRT.out
               rw [HR2.out.hp] at hsrt
               by_cases hlg : lg = []
               · obtain ⟨A, cp, hvl⟩ := HS4.out.nolast hlg
                 rw [hlg] at hsrt
                 rw [show sortedFrom (lastOr none []) (d :: g') = sortedB (d :: g') from rfl, (decB_some HD.out).1] at hsrt
                 subst hsrt hvl
                 clear HR2 NXT STP HQ HPP HS4 HD c0
                 have hS : True := trivial
                 as_aux_lemma =>
                  refine (wpIn_wide (n := 5)).1 ?_
                  refine wpIn_region_lit_late (fun _ => True) (fun _ => false) (k := 16) (listed := #[false, false, false, false, false, false, false, false, false, false, false, false, false, false, false, false]) (by kernel_rfl) (by kernel_rfl) (by kernel_rfl) ?_
                  have bz := Below.drew (Below.refl wc.heap.size wc)
                  have HBZ := Lib.hid bz
                  obtain ⟨wz, hwz⟩ : ∃ wz, wc.drew = wz := ⟨_, rfl⟩
                  rw [hwz] at HBZ ⊢
                  clear hwz bz
                  refine AnyS.yes 0 141 ?_ rfl rfl (by kernel_rfl) (fun _ _ _ _ _ => id) hS (fun _ => rfl) ?_ ?_; rotate_left; intro w' hw'; go_simp; with_reducible rfl; simp only [zP,zS,zC,zZ]
                  refine AnyS.yes 1 142 ?_ rfl rfl (by kernel_rfl) (fun _ _ _ _ _ => id) hS (fun _ => rfl) ?_ ?_; rotate_left; intro w' hw'; go_simp; with_reducible rfl; simp only [zP,zS,zC,zZ]
                  refine AnyS.yes 2 143 ?_ rfl rfl (by kernel_rfl) (fun _ _ _ _ _ => id) hS (fun _ => rfl) ?_ ?_; rotate_left; intro w' hw'; go_simp; with_reducible rfl; simp only [zP,zS,zC,zZ]
                  refine AnyS.yes 3 144 ?_ rfl rfl (by kernel_rfl) (fun _ _ _ _ _ => id) hS (fun _ => rfl) ?_ ?_; rotate_left; intro w' hw'; go_simp; with_reducible rfl; simp only [zP,zS,zC,zZ]
                  refine AnyS.no 4 145 rfl rfl (by kernel_rfl) (fun _ _ _ _ _ => id) hS (fun _ => rfl) ?_; simp only [zP,zS,zC,zZ]
                  refine AnyS.no 5 146 rfl rfl (by kernel_rfl) (fun _ _ _ _ _ => id) hS (fun _ => rfl) ?_; simp only [zP,zS,zC,zZ]
                  refine AnyS.no 6 147 rfl rfl (by kernel_rfl) (fun _ _ _ _ _ => id) hS (fun _ => rfl) ?_; simp only [zP,zS,zC,zZ]
                  refine AnyS.no 7 148 rfl rfl (by kernel_rfl) (fun _ _ _ _ _ => id) hS (fun _ => rfl) ?_; simp only [zP,zS,zC,zZ]
                  refine AnyS.no 8 149 rfl rfl (by kernel_rfl) (fun _ _ _ _ _ => id) hS (fun _ => rfl) ?_; simp only [zP,zS,zC,zZ]
                  refine AnyS.no 9 150 rfl rfl (by kernel_rfl) (fun _ _ _ _ _ => id) hS (fun _ => rfl) ?_; simp only [zP,zS,zC,zZ]
                  refine AnyS.no 10 151 rfl rfl (by kernel_rfl) (fun _ _ _ _ _ => id) hS (fun _ => rfl) ?_; simp only [zP,zS,zC,zZ]
                  refine AnyS.no 11 152 rfl rfl (by kernel_rfl) (fun _ _ _ _ _ => id) hS (fun _ => rfl) ?_; simp only [zP,zS,zC,zZ]
                  refine AnyS.no 12 153 rfl rfl (by kernel_rfl) (fun _ _ _ _ _ => id) hS (fun _ => rfl) ?_; simp only [zP,zS,zC,zZ]
                  refine AnyS.next (i := 13) rfl (by kernel_rfl) (by kernel_rfl) fun K' hK' => ?_
                  refine want_no (Bool.eq_false_iff.1 (by kernel_rfl)) ⟨fun _ _ => trivial, ?_⟩
                  go_simp
                  refine hK' _ _ (fun _ => trivial) ?_
                  clear hK' K'
                  try simp only [zP,zN,zS,zC,zZ]
                  refine AnyS.no 14 155 rfl rfl (by kernel_rfl) (fun _ _ _ _ _ => id) hS (fun _ => rfl) ?_; simp only [zP,zS,zC,zZ]
                  refine AnyS.yes 15 156 ?_ rfl rfl (by kernel_rfl) (fun _ _ _ _ _ => id) hS (fun _ => rfl) ?_ ?_; rotate_left; intro w' hw'; go_simp; with_reducible rfl; simp only [zP,zS,zC,zZ]
                  refine AnyS.done (by kernel_rfl) ?_ _
                  clear hS
                  go_wp2_with fail
                  go_meet
                  exact ⟨rfl, HBZ⟩
               · obtain ⟨bl, kl, cpl, c, hvl, hb1, hb2, hlc, hcc⟩ := HS4.out.last hlg
                 have hcd := HPP.out.1.first
                 rw [hlc, sorted_behind (decB_some HD.out).1] at hsrt
                 have hr := cmpCe_less c d
                 rw [hsrt] at hr
                 obtain ⟨r, hrr⟩ : ∃ r, cmpCe c d = r := ⟨_, rfl⟩
                 have cc := fun W => compare_any c d W
                 rw [hrr] at hr cc
                 unfold ceVal at cc
                 have CC := Lib.hid cc
                 have HRR := Lib.hid hr
                 have HSF := Lib.hid (fun W' hb => And.intro (hcc W' hb) (hcd W' hb))
                 subst hvl
                 obtain ⟨nl, hnl⟩ : ∃ nl, kl + 1 = nl := ⟨_, rfl⟩
                 rw [hnl] at hb1 ⊢
                 have hwl : IntKind.i64.wrap ((nl : Int) - 1) = (kl : Int) := by rw [IntKind.wrap_i64]; omega
                 have hkn : (kl : Int) < (nl : Int) := by omega
                 have hn0 : (0 : Int) < (nl : Int) := by omega
                 have hm0 : (0 : Int) < (m : Int) := by omega
                 have hm0' : 0 < m := hm1
                 have hn0' : 0 < nl := by omega
                 have hkn' : kl < nl := by omega
                 clear HR2 NXT STP HQ HPP HS4 HD c0 hsrt hlc hr hrr cc hcc hcd hlg
                 as_aux_lemma =>
                  refine (wpIn_wide (n := 5)).1 ?_
                  refine wpIn_region_lit_late (fun W' => (W'.cell? ⟨bl, kl * 3, none⟩ = some (.string ⟨c.k.toArray⟩) ∧ W'.cell? ⟨bl, kl * 3 + 1, none⟩ = some (.int .i64 c.q) ∧ W'.cell? ⟨bl, kl * 3 + 2, none⟩ = some (.string ⟨c.v.toArray⟩)) ∧ W'.cell? ⟨b, 0, none⟩ = some (.string ⟨d.k.toArray⟩) ∧ W'.cell? ⟨b, 1, none⟩ = some (.int .i64 d.q) ∧ W'.cell? ⟨b, 2, none⟩ = some (.string ⟨d.v.toArray⟩)) (fun _ => false) (k := 16) (listed := #[false, false, false, false, false, false, false, false, false, false, false, false, false, false, false, false]) (by kernel_rfl) (by kernel_rfl) (by kernel_rfl) ?_
                  have bz := Below.drew (Below.refl wc.heap.size wc)
                  have hS := HSF.out _ bz
                  have HBZ := Lib.hid bz
                  obtain ⟨wz, hwz⟩ : ∃ wz, wc.drew = wz := ⟨_, rfl⟩
                  rw [hwz] at hS HBZ ⊢
                  clear hwz bz
                  refine AnyS.yes 0 141 ?_ rfl rfl (by kernel_rfl) (fun _ _ _ _ _ => id) hS (fun _ => rfl) ?_ ?_; rotate_left; intro w' hw'; go_simp; with_reducible rfl; simp only [zP,zS,zC,zZ]
                  refine AnyS.yes 1 142 ?_ rfl rfl (by kernel_rfl) (fun _ _ _ _ _ => id) hS (fun _ => rfl) ?_ ?_; rotate_left; intro w' hw'; go_simp; with_reducible rfl; simp only [zP,zS,zC,zZ]
                  refine AnyS.yes 2 143 ?_ rfl rfl (by kernel_rfl) (fun _ _ _ _ _ => id) hS (fun _ => rfl) ?_ ?_; rotate_left; intro w' hw'; go_simp; with_reducible rfl; simp only [zP,zS,zC,zZ]
                  refine AnyS.yes 3 144 ?_ rfl rfl (by kernel_rfl) (fun _ _ _ _ _ => id) hS (fun _ => rfl) ?_ ?_; rotate_left; intro w' hw'; go_simp; with_reducible rfl; simp only [zP,zS,zC,zZ]
                  refine AnyS.yes 4 145 ?_ rfl rfl (by kernel_rfl) (fun _ _ _ _ _ => id) hS (fun _ => rfl) ?_ ?_; rotate_left; intro w' hw'; go_simp; with_reducible rfl; simp only [zP,zS,zC,zZ]
                  refine AnyS.yes 5 146 ?_ rfl rfl (by kernel_rfl) (fun _ _ _ _ _ => id) hS (fun _ => rfl) ?_ ?_; rotate_left; intro w' hw'; go_simp; with_reducible rfl; simp only [zP,zS,zC,zZ]
                  refine AnyS.yes 6 147 ?_ rfl rfl (by kernel_rfl) (fun _ _ _ _ _ => id) hS (fun _ => rfl) ?_ ?_; rotate_left; intro w' hw'; go_simp; with_reducible rfl; simp only [zP,zS,zC,zZ]
                  refine AnyS.yes 7 148 ?_ rfl rfl (by kernel_rfl) (fun _ _ _ _ _ => id) hS (fun _ => rfl) ?_ ?_; rotate_left; intro w' hw'; go_simp; with_reducible rfl; simp only [zP,zS,zC,zZ]
                  refine AnyS.yes 8 149 ?_ rfl rfl (by kernel_rfl) (fun _ _ _ _ _ => id) hS (fun _ => rfl) ?_ ?_; rotate_left; intro w' hw'; go_simp; with_reducible rfl; simp only [zP,zS,zC,zZ]
                  refine AnyS.yes 9 150 ?_ rfl rfl (by kernel_rfl) (fun _ _ _ _ _ => id) hS (fun _ => rfl) ?_ ?_
                  rotate_left
                  · intro w' hw'
                    obtain ⟨⟨x0, x1, x2⟩, y0, y1, y2⟩ := hw'
                    go_simp
                    with_reducible rfl
                  simp only [zP,zN,zS,zC,zZ]
                  refine AnyS.yes 10 151 ?_ rfl rfl (by kernel_rfl) (fun _ _ _ _ _ => id) hS (fun _ => rfl) ?_ ?_; rotate_left; intro w' hw'; go_simp; with_reducible rfl; simp only [zP,zS,zC,zZ]
                  refine AnyS.yes 11 152 ?_ rfl rfl (by kernel_rfl) (fun _ _ _ _ _ => id) hS (fun _ => rfl) ?_ ?_; rotate_left; intro w' hw'; go_simp; with_reducible rfl; simp only [zP,zS,zC,zZ]
                  refine AnyS.yes 12 153 ?_ rfl rfl (by kernel_rfl) (fun _ _ _ _ _ => id) hS (fun _ => rfl) ?_ ?_
                  rotate_left
                  · intro w' hw'
                    obtain ⟨⟨x0, x1, x2⟩, y0, y1, y2⟩ := hw'
                    go_simp
                    with_reducible rfl
                  simp only [zP,zN,zS,zC,zZ]
                  clear hS
                  refine AnyS.next (i := 13) rfl (by kernel_rfl) (by kernel_rfl) fun K' hK' => ?_
                  refine want_yes (by kernel_rfl) ?_
                  go_simp
                  refine ⟨trivial, (callsIn_wide.2 (CC.out _)).mono ?_⟩
                  rintro e9 wb ⟨rfl, bb⟩
                  have HBB := Lib.hid (btP HBZ.out bb)
                  have hS := HSF.out _ HBB.out
                  refine hK' _ _ (fun _ => hS) ?_
                  clear hK' K' bb HBZ
                  simp only [zP,zN,zS,zC,zZ]
                  refine AnyS.yes 14 155 ?_ rfl rfl (by kernel_rfl) (fun _ _ _ _ _ => id) hS (fun _ => rfl) ?_ ?_; rotate_left; intro w' hw'; go_simp; with_reducible rfl; simp only [zP,zS,zC,zZ]
                  refine AnyS.yes 15 156 ?_ rfl rfl (by kernel_rfl) (fun _ _ _ _ _ => id) hS (fun _ => rfl) ?_ ?_; rotate_left; intro w' hw'; go_simp; with_reducible rfl; simp only [zP,zS,zC,zZ]
                  refine AnyS.done (by kernel_rfl) ?_ _
                  clear hS
                  go_wp2_with fail
                  subst hnl
                  go_meet
                  refine ⟨?_, HBB⟩
                  rw [← HRR.out]
                  try rfl
              obtain ⟨hcv, HB⟩ := hcut
              subst hcv
              have HS5 := Lib.hid (HS4.out.later HB.out)
              have HP5 := Lib.hid (show PageAt (.slice (some ⟨b, 0, none⟩) m cap) (d :: g') b wc from HPP.out.1.kept fun cur hc => HB.out.block b (Go.ltA hc))
              cases srt with
              | false =>
                have HN0 := Lib.hid (STP.out fun g hg => by
                 have h1 := hg.dec
                 rw [HQ.out.2.1, HQ.out.2.2, HD.out] at h1
                 obtain rfl : d :: g' = g := Option.some.inj h1
                 have h2 := hg.sorted
                 rw [HSRT.out] at h2
                 cases h2)
                clear NXT STP HS4 HPP HP5 c0
                go_wp2_with fail
                go_ret2
                exact ⟨HS5.out.bl, .inl ⟨HN0.out, rfl⟩⟩
              | true =>
                obtain ⟨v6, w6, run, hT6, ⟨g6, c6, rfl⟩, hs6⟩ := HS5.out.add (d :: g') (.slice (some ⟨b, 0, none⟩) m cap) b HPP.out.2 HP5.out (by have := HR2.out.ha; have := HR2.out.hd; have := HXL2.out.2; have := HEN.out.2; omega)
                rw [show keyG (d :: g') = d.k from rfl] at run
                have HNX := Lib.hid (NXT.out (d :: g') HK0.out HD.out (by simp) HGD.out.1 (by have := HGD.out.2.1; rw [HM.out]; omega) (by rw [HM.out]; have := HGD.out.2.2; omega) HSRT.out)
                have RUN := Lib.hid run
                have HS6 := Lib.hid hs6
                have hT5 : wc.cell? ⟨T0, 0, none⟩ = some vt := by rw [cell_of_row wc T0 _ _ _ _ HS5.out.tb]; rfl
                have hT7 : w6.cell? ⟨T0, 0, none⟩ = some vt := by rw [cell_of_row w6 T0 _ _ _ _ hT6]; rfl
                have hT8 : w6.frozen? ⟨T0, 0, none⟩ = false := by simp [World.frozen?, hT6]
                have hk1 := HGD.out.1
                clear NXT STP HS4 HPP HP5 c0 run hs6 hT6 HB HSRT HGD HK0 HD
                subst hk1
                go_wp2_with (at_builtin; refine wpList_append_runE _ rfl _ _ 76 76 rfl _ _ rfl rfl RUN.out ?_)
                go_roundw
                case rel => exact ⟨n', NX, da + NM + 4, RB, !tkSum da D NM, acc ++ [d :: g'], _, vs ++ [.slice (some ⟨b, 0, none⟩) m cap], d :: g', rfl, by have := HN1.out; omega, HS6, HNX⟩
                case measure => have := HN1.out; simp [intOf]; omega
    | false =>
      have hfin := HRO.out.fin HCC.out (by rw [HXL2.out.1, HFT.out.1, HFT.out.2.2]) (by rw [HXL2.out.2, HFT.out.1])
      rw [HFT.out.2.1] at hfin
      have hal : acc.length ≤ 1000000 := by have := HRO.out.ha; have := HRO.out.hd; have := HXL2.out.2; have := HEN.out.2; omega
      have hfl : acc.flatten.length ≤ 1000000 := by have := HRO.out.flat; have := HRO.out.hd; have := HXL2.out.2; have := HEN.out.2; omega
      obtain ⟨ln, hln⟩ : ∃ ln, acc.flatten.length = ln := ⟨_, rfl⟩
      obtain ⟨NI, hNI⟩ : ∃ NI, I.length = NI := ⟨_, rfl⟩
      obtain ⟨ND, hND⟩ : ∃ ND, D.length = ND := ⟨_, rfl⟩
      have LNC := Lib.hid (fun W' (hb : Below wc.heap.size wc W') => lenT_any T0 acc W' (HS.out.tab.later hb) hal hfl)
      rw [hln] at LNC hfin
      rw [hNI, hND] at hfin
      obtain ⟨fb, hfb⟩ : ∃ fb, (!ib && !db && decide (¬ ia < NI) && decide (¬ da < ND) && decide (ln = mn) && decide (mn ≤ 4096)) = fb := ⟨_, rfl⟩
      rw [hfb] at hfin
      have HFB := Lib.hid hfb
      have HO4 := Lib.hid hfin
      have HSF := Lib.hid (fun W' (hb : Below wc.heap.size wc W') => And.intro ((HS.out.rd.later hb).cells) ((HS.out.ri.later hb).cells))
      have hLI : (⟨I.toArray⟩ : ByteArray).size = NI := by rw [← hNI]; simp [ByteArray.size]
      have hLD : (⟨D.toArray⟩ : ByteArray).size = ND := by rw [← hND]; simp [ByteArray.size]
      clear hfin hfb hal hfl hln hNI hND HCC HRO
      go_wp2_with fail
      refine wp_region_same (l' := Func.opsAt Tryz.f18 21) (by kernel_rfl) ?_
      refine open_r21 HFB.out hLI hLD LNC HSF (fun _ _ _ _ _ h => h) (Lib.hid (fun u170 u171 u172 u173 u174 u175 u176 u177 u178 u179 u180 u181 u182 u183 u184 u185 u186 u187 u188 u189 u190 u191 u192 u193 u194 u195 u196 u197 u198 u199 u200 u201 u202 u203 u204 u205 u206 u207 u208 u209 u210 u211 u212 u213 u214 u215 u216 we hb => ?_))
      have HB := Lib.hid hb
      clear hb LNC HSF HFB hLI hLD
      have HS7 := Lib.hid (HS.out.later HB.out)
      cases fb with
      | true =>
        go_wp2_with fail
        go_ret2
        exact ⟨HS7.out.bl, .inr ⟨acc, T0, HO4.out, rfl, HS7.out.tab⟩⟩
      | false =>
        go_wp2_with fail
        go_ret2
        exact ⟨HS7.out.bl, .inl ⟨HO4.out, rfl⟩⟩
end Go.Proofs.YtoglloafpnopaaaGreat
