/- Cut, Join, and what the laws lay. -/
import Derived.Test.YtpcapifjbhaeeaaMemL
namespace Go.Proofs.Ytpcapifjbhaeeaa
set_option maxRecDepth 16000
open Go.RowKit Spoor
set_option linter.unusedVariables false

theorem rise_filter' {L : List Ce} (h : Rise L) (p : Ce → Bool) : Rise (L.filter p) := rise_filter h p
set_option maxHeartbeats 4000000 in
theorem cutM_any (p : Nat) (L : List Ce) (fs : List Nat) (key : List UInt8) (w : World) (M : Mem p L fs w) (hbig : L.length ≤ 100000) :
    Calls Try.prog 20 #[.pointer (some ⟨p, 0, none⟩), .string ⟨key.toArray⟩] w fun e w' => ∃ pa fa pb fb, e = .returned (.tuple #[.pointer (some ⟨pa, 0, none⟩), .pointer (some ⟨pb, 0, none⟩)]) ∧
      Mem pa (lowC L key) fa w' ∧ Mem pb (highC L key) fb w' ∧ (∀ x ∈ fa, w.heap.size ≤ x) ∧ (∀ x ∈ fb, w.heap.size ≤ x) ∧ (∀ x ∈ fa, x ∉ fb) ∧ Below w.heap.size w w' := by
  obtain ⟨hr, hm⟩ := M.rise
  have ofc := fun (L' : List Ce) (v : Value) (base : Nat) (W : World) (hsub : L'.Sublist L) (h : W.ownsRow base 33 3 v L'.length (rowOf L')) =>
    of_any v L' W (slAt_own h) (hr.sublist hsub) (fun c hc => hm c (hsub.subset hc)) (Nat.le_trans hsub.length_le hbig)
  have OF := Lib.hid ofc
  have RA := Lib.hid (fun W (h : Below w.heap.size w W) (x y : List UInt8) => rangeM_any p L fs x y W (M.later h) hbig)
  clear ofc M hr hm hbig
  by_cases hk : key = []
  · subst hk
    go_enter Try.func20, Try.ntmps20
    go_wp2_with fail
    refine (newM_any _).mono ?_
    rintro e w1 ⟨rfl, M1, b1⟩
    have HM1 := Lib.hid M1
    clear M1
    go_wp2_with fail
    refine (RA.out w1 b1 [] []).mono ?_
    rintro e w2 ⟨b2, v, rfl, own⟩
    rw [rangeC_all] at own
    obtain ⟨A, cap, rfl⟩ := own_slice own
    have cf := OF.out L _ _ w2 (List.Sublist.refl _) own
    have CF := Lib.hid cf
    have B2 := btP b1 b2
    have HM2 := Lib.hid (HM1.out.later b2)
    clear cf own
    go_wp2_with fail
    refine CF.out.mono ?_
    rintro e w3 ⟨pb, fb, rfl, M3, h3, b3⟩
    have HF := Lib.hid (And.intro M3 h3)
    go_wp2_with fail
    go_ret2
    have lt1 := HM1.out.lt
    refine ⟨w.heap.size, [w.heap.size], pb, fb, rfl, ?_, ?_, ?_, ?_, ?_, btP B2 b3⟩
    · rw [lowC_nil]
      exact HM2.out.later b3
    · rw [highC_nil]
      exact HF.out.1
    · simp
    · intro x hx
      have := HF.out.2 x hx
      have := B2.size
      omega
    · intro x hx hx2
      have h4 := HF.out.2 x hx2
      have h5 := lt1 x hx
      have := b2.size
      omega
  · have e1 : (key == ([] : List UInt8)) = false := by simpa using hk
    have HK := Lib.hid hk
    clear hk
    go_enter Try.func20, Try.ntmps20
    go_wp2_with fail
    refine (RA.out _ (Below.refl _ _) [] key).mono ?_
    rintro e w1 ⟨b1, v, rfl, own⟩
    rw [rangeC_low HK.out] at own
    obtain ⟨A, cap, rfl⟩ := own_slice own
    have cf := OF.out _ _ _ w1 List.filter_sublist own
    have CF := Lib.hid cf
    clear cf own
    go_wp2_with fail
    refine CF.out.mono ?_
    rintro e w2 ⟨pa, fa, rfl, M2, h2, b2⟩
    have HA := Lib.hid (And.intro M2 h2)
    have B2 := btP b1 b2
    clear M2 h2 CF
    go_wp2_with fail
    refine (RA.out _ B2 key []).mono ?_
    rintro e w3 ⟨b3, v, rfl, own⟩
    rw [rangeC_high] at own
    obtain ⟨A, cap, rfl⟩ := own_slice own
    have cf := OF.out _ _ _ w3 List.filter_sublist own
    have CF := Lib.hid cf
    clear cf own
    go_wp2_with fail
    refine CF.out.mono ?_
    rintro e w4 ⟨pb, fb, rfl, M4, h4, b4⟩
    have HB := Lib.hid (And.intro M4 h4)
    clear M4 h4 CF
    go_wp2_with fail
    go_ret2
    have lt2 := HA.out.1.lt
    have s1 := b1.size
    have s2 := b2.size
    have s3 := b3.size
    refine ⟨pa, fa, pb, fb, rfl, HA.out.1.later (btP b3 b4), HB.out.1, fun x hx => ?_, fun x hx => ?_, fun x hx hx2 => ?_, btP B2 (btP b3 b4)⟩
    · have := HA.out.2 x hx
      omega
    · have := HB.out.2 x hx
      omega
    · have := HB.out.2 x hx2
      have := lt2 x hx
      omega

/-- puts, one after another -/
theorem puts_take {La Lb : List Ce} {k : Nat} (hk : k < Lb.length) : putsC La (Lb.take (k + 1)) = putC (putsC La (Lb.take k)) (Lb.getD k Ce.zero) := by
  rw [List.take_succ_eq_append_getElem hk, putsC_snoc]
  simp [List.getD, hk]
theorem puts_short (La Lb : List Ce) (k : Nat) : (putsC La (Lb.take k)).length ≤ La.length + Lb.length := by
  have h1 := puts_length (Lb.take k) La
  have h2 : (Lb.take k).length ≤ Lb.length := (List.take_sublist k Lb).length_le
  omega
set_option maxHeartbeats 4000000 in
theorem joinM_any (pa : Nat) (La : List Ce) (fa : List Nat) (pb : Nat) (Lb : List Ce) (fb : List Nat) (w : World) (MA : Mem pa La fa w) (MB : Mem pb Lb fb w) (hbig : La.length + Lb.length ≤ 900) (hf : ∀ c ∈ Lb, FitsC c) :
    Calls Try.prog 22 #[.pointer (some ⟨pa, 0, none⟩), .pointer (some ⟨pb, 0, none⟩)] w fun e w' => ∃ p fs, e = .returned (.pointer (some ⟨p, 0, none⟩)) ∧
      Mem p (putsC La Lb) fs w' ∧ (∀ x ∈ fs, w.heap.size ≤ x) ∧ Below w.heap.size w w' := by
  have FT := Lib.hid (fun k (hk : k < Lb.length) => getD_lt hf hk)
  have ST := Lib.hid (fun k => puts_short La Lb k)
  have ra := rangeM_any pa La fa [] [] w MA (by omega)
  have rb := fun W (h : Below w.heap.size w W) => rangeM_any pb Lb fb [] [] W (MB.later h) (by omega)
  obtain ⟨hr, hm⟩ := MA.rise
  have oc := fun (v : Value) (base : Nat) (W : World) (h : W.ownsRow base 33 3 v La.length (rowOf La)) => of_any v La W (slAt_own h) hr hm (by omega)
  have RA := Lib.hid ra
  have RB := Lib.hid rb
  have OC := Lib.hid oc
  clear ra rb oc hr hm hf MA MB
  go_enter Try.func22, Try.ntmps22
  go_wp2_with fail
  refine RA.out.mono ?_
  rintro e w1 ⟨b1, v, rfl, own⟩
  rw [rangeC_all] at own
  obtain ⟨A, cap, rfl⟩ := own_slice own
  have CF := Lib.hid (OC.out _ _ _ own)
  clear own
  go_wp2_with fail
  refine CF.out.mono ?_
  rintro e w2 ⟨p, fs, rfl, M2, h2, b2⟩
  have B2 := btP b1 b2
  have HA := Lib.hid (And.intro M2 h2)
  clear M2 h2 CF
  go_wp2_with fail
  refine (RB.out _ B2).mono ?_
  rintro e w3 ⟨b3, v, rfl, own⟩
  rw [rangeC_all] at own
  obtain ⟨A, cap, rfl⟩ := own_slice own
  have B3 := btP B2 b3
  obtain ⟨b, hb⟩ : ∃ b, Lb.length = 0 ∨ (w2.heap.size ≤ b ∧ A = some ⟨b, 0, none⟩ ∧ RowAt b 0 Lb w3) := by
    obtain ⟨A', cap', e1, e2, e3, e4⟩ := slAt_own own
    cases e1
    by_cases h0 : 0 < Lb.length
    · rcases own.2 with ⟨_, e⟩ | ⟨g, cap2, cur, e5, e6, -⟩
      · exact ⟨0, .inl e⟩
      · obtain ⟨b, o, e7, e8⟩ := e4 h0
        cases e5
        cases e7
        exact ⟨g, .inr ⟨e6, rfl, e8⟩⟩
    · exact ⟨0, .inl (by omega)⟩
  have hcap := own.2
  have hcap : Lb.length ≤ cap ∧ cap ≤ 9223372036854775807 := by
    obtain ⟨A', cap', e1, e2, e3, e4⟩ := slAt_own own
    cases e1
    exact ⟨e2, by unfold maxLen at e3; omega⟩
  obtain ⟨hc1, hc2⟩ := hcap
  have HBk := Lib.hid hb
  obtain ⟨n, hn⟩ : ∃ n, Lb.length = n := ⟨_, rfl⟩
  have HN := Lib.hid hn
  rw [hn] at hbig hc1 ⊢
  have s1 := b1.size
  have s2 := b2.size
  have s3 := b3.size
  have M3 := HA.out.1.later b3
  have F3 : Lb.length = 0 ∨ (A = some ⟨b, 0, none⟩ ∧ RowAt b 0 Lb w3 ∧ ∀ x ∈ fs, x ≠ b) := by
    rcases HBk.out with h | ⟨h, h', h''⟩
    · exact .inl h
    · refine .inr ⟨h', h'', fun x hx => ?_⟩
      have := HA.out.1.lt x hx
      omega
  have HS := Lib.hid (And.intro M3 F3)
  have HW := Lib.hid (fun x (hx : x ∈ fs) => Nat.le_trans s1 (HA.out.2 x hx))
  clear own hb hn RA RB OC M3 F3 B2 b1 b2 b3 s1 s2 s3 HA
  go_wp2_with fail
  go_loopw [14] (fun i wr => ∃ (k : Nat) (fs' : List Nat), i = .int .i64 k ∧ k ≤ n ∧ Hid (Mem p (putsC La (Lb.take k)) fs' wr ∧ (∀ x ∈ fs', w.heap.size ≤ x) ∧ (Lb.length = 0 ∨ (A = some ⟨b, 0, none⟩ ∧ RowAt b 0 Lb wr ∧ ∀ x ∈ fs', x ≠ b))) ∧ Below w.heap.size w wr) (fun i _ => n - (intOf i).toNat)
  case atStart =>
    exact ⟨0, fs, rfl, by omega, Lib.hid ⟨by simpa [putsC] using HS.out.1, HW.out, HS.out.2⟩, B3⟩
  case round =>
    obtain ⟨k, fs', rfl, hk, HM, B⟩ := hrel
    by_cases hlt : k < n
    · have hkl : k < Lb.length := by rw [HN.out]; exact hlt
      obtain ⟨M, hge, hrow⟩ := HM.out
      rcases hrow with h | ⟨rfl, hrow, hne⟩
      · omega
      have hcs := hrow.cells hkl
      obtain ⟨c, hc⟩ : ∃ c, Lb.getD k Ce.zero = c := ⟨_, rfl⟩
      rw [hc] at hcs
      have hfc : FitsC c := hc ▸ FT.out k hkl
      have hnext := puts_take (La := La) hkl
      rw [hc] at hnext
      obtain ⟨x0, x1, x2⟩ := hcs
      simp only [Nat.zero_add] at x0 x1 x2
      have b1 := (Below.refl wr.heap.size wr).alloc (Nat.le_refl _) (boxC c)
      have M1 := M.later b1
      have hrow1 := hrow.later b1 hrow.1
      have pc := putM_any p _ fs' c (wr.alloc (boxC c)) M1 (Nat.le_trans (ST.out k) (by have := HN.out; omega)) hfc
      have HB := Lib.hid (B.trans (b1.mono B.size))
      have HP := Lib.hid pc
      have HG := Lib.hid (And.intro hge (And.intro hrow1 (And.intro hne (And.intro hnext hrow.1))))
      have HBs := Lib.hid B.size
      clear M hge hrow hne hc hfc hnext b1 M1 hrow1 pc HS HW HBk HM B
      unfold ceVal boxC at HP
      go_wp2_with fail
      refine HP.out.mono ?_
      rintro e w5 ⟨rfl, fs2, M5, g5, f5⟩
      obtain ⟨h1, h2, h3, h4, h5⟩ := HG.out
      rw [← h4] at M5
      have B5 : Below w.heap.size w w5 := HB.out.trans (f5.below (by have := HBs.out; simp; omega) h1)
      have h6 : RowAt b 0 Lb w5 := by
        refine ⟨Nat.lt_of_lt_of_le h2.1 f5.size, fun i hi j v hv => ?_⟩
        exact (f5.cell (p := ⟨b, 0 + i * 3 + j, none⟩) h2.1 (fun hm => h3 b hm rfl)).trans (h2.2 i hi j v hv)
      have h7 : ∀ x ∈ fs2, w.heap.size ≤ x ∧ x ≠ b := fun x hx => by
        rcases g5 x hx with h | h
        · exact ⟨h1 x h, h3 x h⟩
        · have h8 : wr.heap.size + 1 ≤ x := by simpa using h
          have := HBs.out
          exact ⟨by omega, by omega⟩
      have HF := Lib.hid (And.intro M5 h7)
      have HR := Lib.hid h6
      clear HP HB HG HBs h1 h2 h3 h4 h5 h6 h7 g5 f5 M5
      go_wp2_with fail
      go_roundw
      case rel => exact ⟨k + 1, fs2, rfl, by omega, Lib.hid ⟨HF.out.1, fun x hx => (HF.out.2 x hx).1, .inr ⟨by simp, HR.out, fun x hx => (HF.out.2 x hx).2⟩⟩, B5⟩
      case measure => simp [intOf]; omega
    · obtain rfl : k = n := by omega
      have MF : Mem p (putsC La Lb) fs' wr := by
        have := HM.out.1
        rwa [← HN.out, List.take_length] at this
      have HMF := Lib.hid (And.intro MF HM.out.2.1)
      clear MF HM HS HW HBk
      go_wp2_with fail
      go_ret
      exact ⟨p, fs', rfl, HMF.out.1, HMF.out.2, B⟩
set_option maxHeartbeats 4000000 in
theorem put_any (s : Value) (l : List Ce) (w : World) (hs : SlAt s l w) (hbig : l.length ≤ 900) (hf : ∀ c ∈ l, FitsC c) :
    Calls Try.prog 24 #[s] w fun e w' => ∃ p fs, e = .returned (.pointer (some ⟨p, 0, none⟩)) ∧
      Mem p (putsC [] l) fs w' ∧ (∀ x ∈ fs, w.heap.size ≤ x) ∧ Below w.heap.size w w' := by
  have FT := Lib.hid (fun k (hk : k < l.length) => getD_lt hf hk)
  have ST := Lib.hid (fun k => puts_short [] l k)
  obtain ⟨A, cap, rfl, hc1, hc2, hrow⟩ := hs
  unfold maxLen at hc2
  have HR := Lib.hid hrow
  obtain ⟨n, hn⟩ : ∃ n, l.length = n := ⟨_, rfl⟩
  have HN := Lib.hid hn
  rw [hn] at hbig hc1 ⊢
  clear hrow hf hn
  go_enter Try.func24, Try.ntmps24
  go_wp2_with fail
  refine (newM_any _).mono ?_
  rintro e w1 ⟨rfl, M1, B1⟩
  have HM1 := Lib.hid M1
  clear M1
  go_wp2_with fail
  go_loopw [4] (fun i wr => ∃ (k : Nat) (fs' : List Nat), i = .int .i64 k ∧ k ≤ n ∧ Hid (Mem w.heap.size (putsC [] (l.take k)) fs' wr ∧ (∀ x ∈ fs', w.heap.size ≤ x)) ∧ Below w.heap.size w wr) (fun i _ => n - (intOf i).toNat)
  case atStart => exact ⟨0, [w.heap.size], rfl, by omega, Lib.hid ⟨by simpa [putsC] using HM1.out, by simp⟩, B1⟩
  case round =>
    obtain ⟨k, fs', rfl, hk, HM, B⟩ := hrel
    by_cases hlt : k < n
    · have hkl : k < l.length := by rw [HN.out]; exact hlt
      obtain ⟨M, hge⟩ := HM.out
      obtain ⟨b, o, rfl, hrow⟩ := HR.out (by omega)
      have hcs := (hrow.later B hrow.1).cells hkl
      obtain ⟨c, hc⟩ : ∃ c, l.getD k Ce.zero = c := ⟨_, rfl⟩
      rw [hc] at hcs
      have hfc : FitsC c := hc ▸ FT.out k hkl
      have hnext := puts_take (La := []) hkl
      rw [hc] at hnext
      obtain ⟨x0, x1, x2⟩ := hcs
      have pc := putM_any w.heap.size _ fs' c wr M (Nat.le_trans (ST.out k) (by have := HN.out; simp; omega)) hfc
      have HP := Lib.hid pc
      have HG := Lib.hid (And.intro hge (And.intro hnext B))
      clear M hge hrow hc hfc hnext pc HM B
      unfold ceVal at HP
      go_wp2_with fail
      refine HP.out.mono ?_
      rintro e w5 ⟨rfl, fs2, M5, g5, f5⟩
      obtain ⟨h1, h4, hB⟩ := HG.out
      rw [← h4] at M5
      have B5 : Below w.heap.size w w5 := hB.trans (f5.below hB.size h1)
      have h7 : ∀ x ∈ fs2, w.heap.size ≤ x := fun x hx => by
        rcases g5 x hx with h | h
        · exact h1 x h
        · have := hB.size
          omega
      have HF := Lib.hid (And.intro M5 h7)
      clear HP HG h1 h4 h7 g5 f5 M5 hB
      go_wp2_with fail
      go_roundw
      case rel => exact ⟨k + 1, fs2, rfl, by omega, Lib.hid HF.out, B5⟩
      case measure => simp [intOf]; omega
    · obtain rfl : k = n := by omega
      have MF : Mem w.heap.size (putsC [] l) fs' wr := by
        have := HM.out.1
        rwa [← HN.out, List.take_length] at this
      have HMF := Lib.hid (And.intro MF HM.out.2)
      clear MF HM HR
      go_wp2_with fail
      go_ret
      exact ⟨w.heap.size, fs', rfl, HMF.out.1, HMF.out.2, B⟩
end Go.Proofs.Ytpcapifjbhaeeaa
