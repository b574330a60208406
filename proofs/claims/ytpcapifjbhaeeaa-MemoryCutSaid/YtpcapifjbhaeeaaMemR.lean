/- The reference's memory. -/
import Derived.Test.YtpcapifjbhaeeaaMemP
import Derived.StillTailTactics
import Derived.Deep.RegionWith
namespace Go.Proofs.Ytpcapifjbhaeeaa
set_option maxRecDepth 16000
open Go.RowKit Spoor
set_option linter.unusedVariables false

/-- the reference's memory of the cells L at block r, in the blocks fs -/
def RefM (r : Nat) (L : List Ce) (fs : List Nat) (w : World) : Prop :=
  ∃ A cap, w.heap[r]? = some (.cells #[.slice A L.length cap] 29 (0, 0)) ∧ r ∈ fs ∧ (∀ x ∈ fs, x < w.heap.size) ∧ L.length ≤ cap ∧ cap ≤ maxLen ∧ (L.length = 0 → (A = none ∧ cap = 0) ∨ ∃ g, A = some ⟨g, 0, none⟩) ∧ (0 < L.length → ∃ b o, A = some ⟨b, o, none⟩ ∧ b ∈ fs ∧ RowAt b o L w)
theorem RefM.same {r : Nat} {L : List Ce} {fs : List Nat} {w w' : World} (h : RefM r L fs w) (hk : ∀ b ∈ fs, w'.heap[b]? = w.heap[b]?) (hs : w.heap.size ≤ w'.heap.size) : RefM r L fs w' := by
  obtain ⟨A, cap, h1, h2, h3, h4, h5, h6, h7⟩ := h
  refine ⟨A, cap, (hk r h2).trans h1, h2, fun x hx => Nat.lt_of_lt_of_le (h3 x hx) hs, h4, h5, h6, fun h0 => ?_⟩
  obtain ⟨b, o, e, hb, hr⟩ := h7 h0
  refine ⟨b, o, e, hb, Nat.lt_of_lt_of_le hr.1 hs, fun i hi j v hv => ?_⟩
  exact (World.cell?_of_block (a := ⟨b, o + i * 3 + j, none⟩) (hk b hb)).trans (hr.2 i hi j v hv)
theorem RefM.fr {r : Nat} {L : List Ce} {fs S : List Nat} {w w' : World} (h : RefM r L fs w) (f : Fr S w w') (hd : ∀ b ∈ fs, b ∉ S) : RefM r L fs w' := by
  obtain ⟨A, cap, h1, h2, h3, h4⟩ := id h
  exact h.same (fun b hb => f.block b (h3 b hb) (hd b hb)) f.size
theorem RefM.later {r : Nat} {L : List Ce} {fs : List Nat} {w w' : World} (h : RefM r L fs w) (hb : Below w.heap.size w w') : RefM r L fs w' := h.fr (S := []) (Fr.of_below hb) (by simp)
theorem RefM.lt {r : Nat} {L : List Ce} {fs : List Nat} {w : World} (h : RefM r L fs w) : ∀ b ∈ fs, b < w.heap.size := by
  obtain ⟨A, cap, h1, h2, h3, h4⟩ := h
  exact h3
theorem RefM.self {r : Nat} {L : List Ce} {fs : List Nat} {w : World} (h : RefM r L fs w) : r ∈ fs := by
  obtain ⟨A, cap, h1, h2, h3, h4⟩ := h
  exact h2
theorem run_append_slk {base : Nat} {v u : Value} {l m : List Ce} {w : World} (own : w.ownsRow base 33 3 v l.length (rowOf l)) (hb : base ≤ w.heap.size) (hu : SlAt u m w) (hsz : l.length + m.length ≤ 100000) :
    ∃ v' w', (Builtin.append_ #[22, 22] 22 #[v, u]).run Try.prog w = .ok v' w' ∧ w'.ownsRow base 33 3 v' (l ++ m).length (rowOf (l ++ m)) ∧ Below base w w' ∧ ∀ k, k < w.heap.size → some k ≠ v.ownBlock → w'.heap[k]? = w.heap[k]? := by
  obtain ⟨j0, gi, gz0, gz1, gz2⟩ := info_one info_ce
  obtain ⟨A, cap, rfl, h1, h2, h3⟩ := hu
  obtain ⟨v', w', hr, r1, r2⟩ := run_append_every2 w 22 22 22 base 33 33 j0 _ 3 40 Try.underlying22 Try.underlying22 gi gz0 gz1 gz2 rfl (by decide) v l.length (rowOf l) own A m.length cap (rowOf m) (rowOf_length m)
    (fun h0 => by
      obtain ⟨b, o, rfl, hrow⟩ := h3 h0
      exact ⟨_, rfl, row_all hrow⟩) (rowOf_one m) (by unfold maxLen; omega) (by omega) hb
  refine ⟨v', w', hr, ?_, ?_, r2.block⟩
  · rw [List.length_append]
    have : rowOf (l ++ m) = rowOf l ++ rowOf m := by simp [rowOf]
    rw [this]
    exact r1
  · refine (Below.refl base w).grown r2 hb fun k hk => ?_
    rcases own.2 with ⟨rfl, _⟩ | ⟨g, c, cur, rfl, hg, _⟩
    · simp [Value.ownBlock] at hk
    · have : g = k := by simpa [Value.ownBlock] using hk
      omega
theorem sl_box {g : Nat} {c : Ce} {w : World} (h : w.heap[g]? = some (boxC c)) : SlAt (.slice (some ⟨g, 0, none⟩) 1 1) [c] w := by
  refine ⟨some ⟨g, 0, none⟩, 1, rfl, Nat.le_refl _, by unfold maxLen; omega, fun _ => ⟨g, 0, rfl, (Array.getElem?_eq_some_iff.1 h).1, fun i hi j u hu => ?_⟩⟩
  obtain rfl : i = 0 := by simpa using hi
  obtain ⟨x0, x1, x2⟩ := (show CeAt g c w from h).cell
  have hj : j < 3 := by
    have := (List.getElem?_eq_some_iff.1 hu).1
    simpa [ceRow] using this
  rcases (by omega : j = 0 ∨ j = 1 ∨ j = 2) with rfl | rfl | rfl
  · simp [ceRow] at hu
    rw [← hu]
    exact x0
  · simp [ceRow] at hu
    rw [← hu]
    exact x1
  · simp [ceRow] at hu
    rw [← hu]
    exact x2
theorem rowW_own' {w : World} {base : Nat} {v : Value} {l : List Ce} (h : w.ownsRow base 33 3 v l.length (rowOf l)) (hl : 0 < l.length) : ∃ g cap, v = .slice (some ⟨g, 0, none⟩) l.length cap ∧ base ≤ g ∧ l.length ≤ cap ∧ cap ≤ maxLen ∧ RowAt g 0 l w := by
  obtain ⟨A, cap, e1, e2, e3, e4⟩ := slAt_own h
  rcases h.2 with ⟨_, h0⟩ | ⟨g, cap', cur, rfl, hb, -⟩
  · omega
  · cases e1
    obtain ⟨b, o, e5, e6⟩ := e4 hl
    cases e5
    exact ⟨g, cap, rfl, hb, e2, e3, e6⟩
/-- what a slice laid down in the memory's cell makes of it -/
theorem RefM.make {r : Nat} {L : List Ce} {w : World} {base : Nat} {v : Value} {v0 : Value} (h : w.heap[r]? = some (.cells #[v0] 29 (0, 0))) (own : w.ownsRow base 33 3 v L.length (rowOf L)) (hr : r < base) (h0 : 0 < L.length) :
    ∃ g, base ≤ g ∧ RefM r L [r, g] (w.setCell ⟨r, 0, none⟩ v) := by
  obtain ⟨g, cap, rfl, hg, hc, hm, hW⟩ := rowW_own' own h0
  have hne : g ≠ r := by omega
  have hlt := hW.1
  have hrl := (Array.getElem?_eq_some_iff.1 h).1
  refine ⟨g, hg, some ⟨g, 0, none⟩, cap, ?_, by simp, ?_, hc, hm, fun e => by omega, fun _ => ⟨g, 0, rfl, by simp, by simpa using hlt, fun i hi j u hu => ?_⟩⟩
  · rw [heap_setCell_same w r 0 _ _ _ h]
    rfl
  · intro x hx
    simp only [World.size_setCell]
    rcases List.mem_cons.1 hx with rfl | hx
    · exact hrl
    · obtain rfl : x = g := by simpa using hx
      exact hlt
  · exact (World.cell?_of_block (a := ⟨g, 0 + i * 3 + j, none⟩) (Below.heap_setCell w ⟨r, 0, none⟩ _ g hne)).trans (hW.2 i hi j u hu)
set_option maxRecDepth 100000 in
set_option maxHeartbeats 8000000 in
theorem refPut_any (r : Nat) (L : List Ce) (fs : List Nat) (c : Ce) (w : World) (M : RefM r L fs w) (hr : Rise L) (hbig : L.length ≤ 900) (hf : FitsC c) :
    Calls Try.prog 11 #[.pointer (some ⟨r, 0, none⟩), ceVal c] w fun e w' => e = .returned (.int .i64 (if c.may then 0 else 2)) ∧ ∃ fs', RefM r (putC L c) fs' w' ∧ (∀ x ∈ fs', x ∈ fs ∨ w.heap.size ≤ x) ∧ Fr fs w w' := by
  have M0 := M
  have b1 := (Below.refl w.heap.size w).alloc (Nat.le_refl _) (boxC c)
  have q1 := CeAt.boxed c w
  have cm := fun W => refMay_any c W hf
  have CM := Lib.hid cm
  have HM := Lib.hid M0
  have HL := Lib.hid (And.intro hr hbig)
  obtain ⟨y0, y1, y2⟩ := q1.cell
  have HQ := Lib.hid q1
  have HB1 := Lib.hid b1
  obtain ⟨X, hX⟩ : ∃ X, w.heap.size = X := ⟨_, rfl⟩
  have HXe := Lib.hid hX
  unfold boxC at y0 y1 y2
  cases hmay : c.may with
  | false =>
    rw [hmay] at CM
    have HPC := Lib.hid (show putC L c = L by unfold putC; rw [hmay]; rfl)
    unfold ceVal at CM ⊢
    clear cm M0 M hr hbig b1 q1 hmay hf hX
    go_enter Try.func11, Try.ntmps11
    go_wp2_with fail
    refine (CM.out _).mono ?_
    rintro e w1 ⟨rfl, b2⟩
    have B := btP HB1.out b2
    clear CM b2
    go_wp2_with fail
    go_ret
    exact ⟨rfl, fs, by rw [HPC.out]; exact HM.out.later B, fun x hx => .inl hx, Fr.of_below B⟩
  | true =>
    rw [hmay] at CM
    have HPC := Lib.hid (show putC L c = insC c L by unfold putC; rw [hmay]; rfl)
    have ca := fun (d : Ce) W => refAhead_any d c W
    have CA := Lib.hid ca
    obtain ⟨A, cap, h1, h2, h3, h4, h5, h6, h7⟩ := M
    obtain ⟨n, hn⟩ : ∃ n, L.length = n := ⟨_, rfl⟩
    have HN := Lib.hid hn
    rw [hn] at h1 h4 h6 h7 hbig
    have hcr : w.cell? ⟨r, 0, none⟩ = some (.slice A n cap) := by simp [World.cell?, h1]
    have hrl : r < w.heap.size := (Array.getElem?_eq_some_iff.1 h1).1
    have h5' : cap ≤ 9223372036854775807 := by unfold maxLen at h5; omega
    have H1 := Lib.hid h1
    have H3 := Lib.hid (And.intro h2 h3)
    have H7 := Lib.hid h7
    have H6 := Lib.hid h6
    have H5 := Lib.hid h5
    unfold ceVal at CM ⊢
    clear cm M0 hr hmay hf hX h1 h2 h3 h5 h6 h7 hn ca b1 q1
    go_enter Try.func11, Try.ntmps11
    go_wp2_with fail
    refine (CM.out _).mono ?_
    rintro e w1 ⟨rfl, b2⟩
    have B := btP HB1.out b2
    have Q := HQ.out.later b2 HQ.out.lt
    have HQ1 := Lib.hid Q
    clear CM b2 Q y0 y1 y2
    go_wp2_with fail
    go_loopw [5] (fun i wr => ∃ k : Nat, i = .int .i64 k ∧ k ≤ n ∧ Hid (∀ j, j < k → aheadC (L.getD j Ce.zero) c = true) ∧ Below w.heap.size w wr ∧ Hid (CeAt w.heap.size c wr)) (fun i _ => n - (intOf i).toNat)
    case atStart => exact ⟨0, rfl, by omega, Lib.hid (fun j h => by omega), B, Lib.hid HQ1.out⟩
    case round =>
      obtain ⟨k, rfl, hk, HA, B2, HQ2⟩ := hrel
      have hcr2 : wr.cell? ⟨r, 0, none⟩ = some (.slice A n cap) := (B2.cell (p := ⟨r, 0, none⟩) hrl).trans hcr
      have l2 := B2.size
      have hrl2 : r < wr.heap.size := by omega
      obtain ⟨y0, y1, y2⟩ := HQ2.out.cell
      have yl := HQ2.out.lt
      by_cases hlt : k < n
      · have hkl : k < L.length := by rw [HN.out]; exact hlt
        obtain ⟨b, o, rfl, hb, hrow⟩ := H7.out (by omega)
        have hrow2 := hrow.later B2 hrow.1
        obtain ⟨x0, x1, x2⟩ := hrow2.cells hkl
        have bl := hrow2.1
        have cc := CA.out (L.getD k Ce.zero)
        obtain ⟨d, hd⟩ : ∃ d, L.getD k Ce.zero = d := ⟨_, rfl⟩
        rw [hd] at x0 x1 x2 cc
        have HD := Lib.hid hd
        have HRW := Lib.hid (And.intro hb hrow2)
        clear hd hrow hrow2 hb B l2
        cases hah : aheadC d c with
        | true =>
          rw [hah] at cc
          unfold ceVal at cc
          have CC := Lib.hid cc
          clear cc
          go_wp2_with fail
          refine wp_region_more (by kernel_rfl) (by kernel_rfl) ?_
          repeat (go_big_quiet_step (fail))
          go_big_quiet_step (exact Calls.more (CC.out _))
          repeat (go_big_quiet_step (fail))
          refine wpQuiet_nil ?_
          rintro _ ⟨ex, rfl⟩
          have b3 := World.below_more wr ex
          have B3 := btP B2 b3
          have Q3 := HQ2.out.later b3 HQ2.out.lt
          have HQ3 := Lib.hid Q3
          have hA2 : ∀ j, j < k + 1 → aheadC (L.getD j Ce.zero) c = true := fun j hj => by
            rcases Nat.lt_or_ge j k with h | h
            · exact HA.out j h
            · obtain rfl : j = k := by omega
              rw [HD.out]
              exact hah
          have HA2 := Lib.hid hA2
          generalize wr.more ex = w3 at *
          clear b3 x0 x1 x2 y0 y1 y2 Q3 hA2 hah CC hcr2
          go_wp2_with fail
          go_roundw
          case rel => exact ⟨k + 1, rfl, by omega, Lib.hid HA2.out, B3, Lib.hid HQ3.out⟩
          case measure => simp [intOf]; omega
        | false =>
          rw [hah] at cc
          unfold ceVal at cc
          have CC := Lib.hid cc
          have HIN := Lib.hid (insC_at HA.out (Nat.le_of_lt hkl) (fun _ => by rw [HD.out]; exact hah))
          clear cc hah
          go_wp2_with fail
          refine wp_region_more (by kernel_rfl) (by kernel_rfl) ?_
          repeat (go_big_quiet_step (fail))
          go_big_quiet_step (exact Calls.more (CC.out _))
          repeat (go_big_quiet_step (fail))
          refine wpQuiet_nil ?_
          rintro _ ⟨ex, rfl⟩
          have b3 := World.below_more wr ex
          have B3 := btP B2 b3
          have Q3 := HQ2.out.later b3 HQ2.out.lt
          have r3 := HRW.out.2.later b3 HRW.out.2.1
          have hcr3 : (wr.more ex).cell? ⟨r, 0, none⟩ = some (.slice (some ⟨b, o, none⟩) n cap) := (b3.cell (p := ⟨r, 0, none⟩) hrl2).trans hcr2
          have hrl3 : r < (wr.more ex).heap.size := Nat.lt_of_lt_of_le hrl2 b3.size
          generalize wr.more ex = w3 at *
          clear b3 x0 x1 x2 y0 y1 y2 CC hcr2 B2 yl bl hrl2
          obtain ⟨x0, x1, x2⟩ := r3.cells hkl
          rw [HD.out] at x0 x1 x2
          obtain ⟨y0, y1, y2⟩ := Q3.cell
          have bl := r3.1
          have yl := Q3.lt
          have HQ3 := Lib.hid (And.intro Q3 r3)
          clear Q3 r3
          by_cases hs : sameC d c = true
          · have hs2 := hs
            unfold sameC at hs2
            rw [Bool.and_eq_true, decide_eq_true_iff, decide_eq_true_iff] at hs2
            have e1 : (d.k == c.k) = true := by rw [beq_iff_eq]; exact hs2.1
            have e2 : (d.q == c.q) = true := by rw [beq_iff_eq]; exact hs2.2
            have HE := Lib.hid (show putC L c = L by rw [HPC.out, HIN.out, if_pos ⟨hkl, by rw [HD.out]; exact hs⟩])
            clear hs hs2
            go_wp2_with fail
            go_quiet (fail)
            have B4 : Below w.heap.size w (w3.drewN nq) := B3.trans ((below_drewN (Below.refl _ _) nq).mono B3.size)
            clear B3 x0 x1 x2 y0 y1 y2 hcr3
            generalize w3.drewN nq = wq at *
            go_wp2_with fail
            go_ret
            exact ⟨rfl, fs, by rw [HE.out]; exact HM.out.later B4, fun x hx => .inl hx, Fr.of_below B4⟩
          · have hs2 : sameC d c = false := by simpa using hs
            have HPL := Lib.hid (show putC L c = L.take k ++ [c] ++ L.drop k by rw [HPC.out, HIN.out, if_neg (by rw [HD.out]; intro h; exact hs h.2)]; simp)
            clear hs
            unfold sameC at hs2
            go_wp2_with fail
            go_cut [61] (fun v wx => v = .bool false ∧ Hid (Below w.heap.size w wx ∧ CeAt w.heap.size c wx ∧ RowAt b o L wx))
            case first =>
              by_cases hkk : d.k = c.k
              · have e1 : (d.k == c.k) = true := by rw [beq_iff_eq]; exact hkk
                have e2 : (d.q == c.q) = false := by
                  rw [beq_eq_false_iff_ne]
                  intro e
                  simp [hkk, e] at hs2
                clear hs2 hkk
                go_quiet (fail)
                have b5 : Below w3.heap.size w3 (w3.drewN nq) := below_drewN (Below.refl _ _) nq
                have HH := Lib.hid (And.intro (B3.trans (b5.mono B3.size)) (And.intro (HQ3.out.1.later b5 HQ3.out.1.lt) (HQ3.out.2.later b5 HQ3.out.2.1)))
                clear b5 B3 x0 x1 x2 y0 y1 y2 hcr3
                generalize w3.drewN nq = wq at *
                go_wp2_with fail
                go_meet
                exact ⟨rfl, Lib.hid HH.out⟩
              · have e1 : (d.k == c.k) = false := by rw [beq_eq_false_iff_ne]; exact hkk
                clear hs2 hkk
                go_quiet (fail)
                have b5 : Below w3.heap.size w3 (w3.drewN nq) := below_drewN (Below.refl _ _) nq
                have HH := Lib.hid (And.intro (B3.trans (b5.mono B3.size)) (And.intro (HQ3.out.1.later b5 HQ3.out.1.lt) (HQ3.out.2.later b5 HQ3.out.2.1)))
                clear b5 B3 x0 x1 x2 y0 y1 y2 hcr3
                generalize w3.drewN nq = wq at *
                go_wp2_with fail
                go_meet
                exact ⟨rfl, Lib.hid HH.out⟩
            clear B3 x0 x1 x2 y0 y1 y2 hcr3 HQ3 hs2 bl yl hrl3 w3
            obtain ⟨rfl, HC8⟩ := hcut
            have B8 := HC8.out.1
            have HW8 := Lib.hid (And.intro ((B8.block r hrl).trans H1.out) HC8.out.2.1)
            have SLS := Lib.hid (fun W' (hb : Below wc.heap.size wc W') => And.intro ((HC8.out.2.2.later hb HC8.out.2.2.1).takeSl (K := k) (by omega) (by rw [HN.out]; exact h4) H5.out) ((HC8.out.2.2.later hb HC8.out.2.2.1).dropSl (K := k) (by omega) (by rw [HN.out]; exact h4) H5.out HN.out))
            have hkc : k ≤ cap := by omega
            have hkc2 : ¬ (cap = k) := by omega
            clear HC8 hkl HRW HD CA HA HIN
            go_wp2_with fail
            have hB := Below.drew (Below.refl wc.heap.size wc)
            have hx1 := Lib.hid (show wc.drew.heap[r]? = some (.cells #[.slice (some ⟨b, o, none⟩) n cap] 29 (0, 0)) from HW8.out.1)
            have hS : wc.drew.cell? ⟨r, 0, none⟩ = some (.slice (some ⟨b, o, none⟩) n cap) ∧ CeAt w.heap.size c wc.drew := ⟨by have := hx1.out; simp [World.cell?, this], HW8.out.2⟩
            have BZ := Lib.hid (Below.drew B8)
            have SLZ := Lib.hid (fun W' (hb : Below wc.heap.size wc.drew W') => SLS.out W' (hB.trans hb))
            have hrz : r < wc.drew.heap.size := (Array.getElem?_eq_some_iff.1 hx1.out).1
            clear hB HW8 B8 SLS
            refine (wpIn_wide (n := 5)).1 ?_
            refine wpIn_region_lit_late (fun w' => w'.cell? ⟨r, 0, none⟩ = some (.slice (some ⟨b, o, none⟩) n cap) ∧ CeAt w.heap.size c w') (fun j => j == 21) (k := 22) (listed := #[false, false, false, false, false, false, false, false, false, false, false, false, false, false, false, false, false, false, false, false, false, false]) (by kernel_rfl) (by kernel_rfl) (by kernel_rfl) ?_
            have hzs : wc.drew.heap.size = wc.heap.size := rfl
            rw [← hzs] at SLZ
            clear hzs
            generalize wc.drew = wz at *
            refine AnyS.get (i := 0) (some 62) ?_ rfl rfl (by kernel_rfl) (by kernel_rfl) (by kernel_rfl) (by kernel_rfl) (fun _ _ _ h => h) (Reads.yes (by kernel_rfl) ?_ (fun _ => rfl)) hS ?_
            rotate_left
            · intro w' hw'
              go_simp
              with_reducible rfl
            simp only [Act.put, List.setIfInBounds_toArray, List.set_cons_succ, List.set_cons_zero]
            refine AnyS.get (i := 2) (some 64) ?_ rfl rfl (by kernel_rfl) (by kernel_rfl) (by kernel_rfl) (by kernel_rfl) (fun _ _ _ h => h) (Reads.yes (by kernel_rfl) ?_ (fun _ => rfl)) hS ?_
            rotate_left
            · intro w' hw'
              go_simp
              with_reducible rfl
            simp only [Act.put, List.setIfInBounds_toArray, List.set_cons_succ, List.set_cons_zero]
            refine AnyS.get (i := 3) (some 65) ?_ rfl rfl (by kernel_rfl) (by kernel_rfl) (by kernel_rfl) (by kernel_rfl) (fun _ _ _ h => h) (Reads.yes (by kernel_rfl) ?_ (fun _ => rfl)) hS ?_
            rotate_left
            · intro w' hw'
              go_simp
              with_reducible rfl
            simp only [Act.put, List.setIfInBounds_toArray, List.set_cons_succ, List.set_cons_zero]
            refine AnyS.get (i := 4) (some 66) ?_ rfl rfl (by kernel_rfl) (by kernel_rfl) (by kernel_rfl) (by kernel_rfl) (fun _ _ _ h => h) (Reads.yes (by kernel_rfl) ?_ (fun _ => rfl)) hS ?_
            rotate_left
            · intro w' hw'
              go_simp
              with_reducible rfl
            simp only [Act.put, List.setIfInBounds_toArray, List.set_cons_succ, List.set_cons_zero]
            refine AnyS.get (i := 5) (some 67) ?_ rfl rfl (by kernel_rfl) (by kernel_rfl) (by kernel_rfl) (by kernel_rfl) (fun _ _ _ h => h) (Reads.yes (by kernel_rfl) ?_ (fun _ => rfl)) hS ?_
            rotate_left
            · intro w' hw'
              obtain ⟨t1, t2⟩ := hw'; obtain ⟨t3, t4, t5⟩ := t2.cell; clear t2
              go_simp
              with_reducible rfl
            simp only [Act.put, List.setIfInBounds_toArray, List.set_cons_succ, List.set_cons_zero]
            refine AnyS.get (i := 6) (some 68) ?_ rfl rfl (by kernel_rfl) (by kernel_rfl) (by kernel_rfl) (by kernel_rfl) (fun _ _ _ h => h) (Reads.yes (by kernel_rfl) ?_ (fun _ => rfl)) hS ?_
            rotate_left
            · intro w' hw'
              go_simp
              with_reducible rfl
            simp only [Act.put, List.setIfInBounds_toArray, List.set_cons_succ, List.set_cons_zero]
            refine AnyS.get (i := 7) (some 69) ?_ rfl rfl (by kernel_rfl) (by kernel_rfl) (by kernel_rfl) (by kernel_rfl) (fun _ _ _ h => h) (Reads.yes (by kernel_rfl) ?_ (fun _ => rfl)) hS ?_
            rotate_left
            · intro w' hw'
              go_simp
              with_reducible rfl
            simp only [Act.put, List.setIfInBounds_toArray, List.set_cons_succ, List.set_cons_zero]
            refine AnyS.get (i := 9) (some 71) ?_ rfl rfl (by kernel_rfl) (by kernel_rfl) (by kernel_rfl) (by kernel_rfl) (fun _ _ _ h => h) (Reads.yes (by kernel_rfl) ?_ (fun _ => rfl)) hS ?_
            rotate_left
            · intro w' hw'
              obtain ⟨t1, t2⟩ := hw'; obtain ⟨t3, t4, t5⟩ := t2.cell; clear t2
              go_simp
              with_reducible rfl
            simp only [Act.put, List.setIfInBounds_toArray, List.set_cons_succ, List.set_cons_zero]
            refine AnyS.get (i := 12) (some 74) ?_ rfl rfl (by kernel_rfl) (by kernel_rfl) (by kernel_rfl) (by kernel_rfl) (fun _ _ _ h => h) (Reads.yes (by kernel_rfl) ?_ (fun _ => rfl)) hS ?_
            rotate_left
            · intro w' hw'
              go_simp
              with_reducible rfl
            simp only [Act.put, List.setIfInBounds_toArray, List.set_cons_succ, List.set_cons_zero]
            refine AnyS.get (i := 13) (some 75) ?_ rfl rfl (by kernel_rfl) (by kernel_rfl) (by kernel_rfl) (by kernel_rfl) (fun _ _ _ h => h) (Reads.yes (by kernel_rfl) ?_ (fun _ => rfl)) hS ?_
            rotate_left
            · intro w' hw'
              go_simp
              with_reducible rfl
            simp only [Act.put, List.setIfInBounds_toArray, List.set_cons_succ, List.set_cons_zero]
            refine AnyS.get (i := 14) (some 76) ?_ rfl rfl (by kernel_rfl) (by kernel_rfl) (by kernel_rfl) (by kernel_rfl) (fun _ _ _ h => h) (Reads.yes (by kernel_rfl) ?_ (fun _ => rfl)) hS ?_
            rotate_left
            · intro w' hw'
              go_simp
              with_reducible rfl
            simp only [Act.put, List.setIfInBounds_toArray, List.set_cons_succ, List.set_cons_zero]
            refine AnyS.get (i := 15) (some 77) ?_ rfl rfl (by kernel_rfl) (by kernel_rfl) (by kernel_rfl) (by kernel_rfl) (fun _ _ _ h => h) (Reads.yes (by kernel_rfl) ?_ (fun _ => rfl)) hS ?_
            rotate_left
            · intro w' hw'
              obtain ⟨t1, t2⟩ := hw'; obtain ⟨t3, t4, t5⟩ := t2.cell; clear t2
              go_simp
              with_reducible rfl
            simp only [Act.put, List.setIfInBounds_toArray, List.set_cons_succ, List.set_cons_zero]
            refine AnyS.get (i := 16) (some 78) ?_ rfl rfl (by kernel_rfl) (by kernel_rfl) (by kernel_rfl) (by kernel_rfl) (fun _ _ _ h => h) (Reads.yes (by kernel_rfl) ?_ (fun _ => rfl)) hS ?_
            rotate_left
            · intro w' hw'
              go_simp
              with_reducible rfl
            simp only [Act.put, List.setIfInBounds_toArray, List.set_cons_succ, List.set_cons_zero]
            refine AnyS.get (i := 17) (some 79) ?_ rfl rfl (by kernel_rfl) (by kernel_rfl) (by kernel_rfl) (by kernel_rfl) (fun _ _ _ h => h) (Reads.yes (by kernel_rfl) ?_ (fun _ => rfl)) hS ?_
            rotate_left
            · intro w' hw'
              go_simp
              with_reducible rfl
            simp only [Act.put, List.setIfInBounds_toArray, List.set_cons_succ, List.set_cons_zero]
            have hS0 := Lib.hid hS
            clear hS
            have BW := Lib.hid (Below.refl wz.heap.size wz)
            refine AnyS.two (i := 1) (j := 10) rfl rfl (by kernel_rfl) (by kernel_rfl) (fun K' hK' => ?_) (fun K' hK' => ?_)
            · refine want_yes (by kernel_rfl) ?_
              go_simp
              have n1 := (Below.refl wz.heap.size wz).alloc (Nat.le_refl _) (.cells #[] 33)
              have own0 := own_none wz
              have hb0 := BW.out.size
              have BN := BW.out.trans (n1.mono hb0)
              have hbb := n1.size
              clear n1
              refine hK' _ _ (fun _ => ⟨(BN.cell (p := ⟨r, 0, none⟩) hrz).trans hS0.out.1, hS0.out.2.later BN hS0.out.2.lt⟩) ?_
              clear hK' K' BW
              simp only [Act.put, List.setIfInBounds_toArray, List.set_cons_succ, List.set_cons_zero]
              have BW := Lib.hid BN
              clear BN
              have hsA := Lib.hid (show (wz.alloc (.cells #[] 33)).heap.size = wz.heap.size + 1 by simp)
              generalize hnw : wz.alloc (.cells #[] 33) = wA at *
              clear hnw
              refine AnyS.two (i := 8) (j := 10) rfl rfl (by kernel_rfl) (by kernel_rfl) (fun K' hK' => ?_) (fun K' hK' => ?_)
              · obtain ⟨v8, w8, run8, own8, b8, keep⟩ := run_append_slk own0 hbb (SLZ.out _ BW.out).1 (by rw [List.length_take]; simp only [List.length_nil]; have := HN.out; omega)
                rw [List.nil_append] at own8
                have BN := BW.out.trans (b8.mono hb0)
                have hbb := Nat.le_trans hbb b8.size
                clear b8 keep own0
                refine want_yes (by kernel_rfl) ?_
                simp only [List.getElem_toArray, List.getElem_cons_succ, List.getElem_cons_zero]
                refine opIn_value _ (fun c h => by cases h) rfl (exec_append (s := .tmp 63) (x := .tmp 69) rfl rfl rfl run8) ?_
                refine hK' _ _ (fun _ => ⟨(BN.cell (p := ⟨r, 0, none⟩) hrz).trans hS0.out.1, hS0.out.2.later BN hS0.out.2.lt⟩) ?_
                clear hK' K' BW
                simp only [Act.put, List.setIfInBounds_toArray, List.set_cons_succ, List.set_cons_zero]
                have BW := Lib.hid BN
                clear BN
                clear run8
                refine AnyS.next (i := 10) rfl (by kernel_rfl) (by kernel_rfl) fun K' hK' => ?_
                refine want_yes (by kernel_rfl) ?_
                go_simp
                have n2 := (Below.refl w8.heap.size w8).alloc (Nat.le_refl _) (boxC c)
                have hg10 : (w8.alloc (boxC c)).heap[w8.heap.size]? = some (boxC c) := heap_alloc_new w8 _
                have BN := BW.out.trans (n2.mono BW.out.size)
                have own8 := own_lat own8 n2
                have hbb := Nat.le_trans hbb n2.size
                clear n2
                unfold boxC at *
                refine hK' _ _ (fun _ => ⟨(BN.cell (p := ⟨r, 0, none⟩) hrz).trans hS0.out.1, hS0.out.2.later BN hS0.out.2.lt⟩) ?_
                clear hK' K' BW
                simp only [Act.put, List.setIfInBounds_toArray, List.set_cons_succ, List.set_cons_zero]
                have BW := Lib.hid BN
                clear BN
                have hsB := Lib.hid (show (w8.alloc (.cells #[.string ⟨c.k.toArray⟩, .int .i64 c.q, .string ⟨c.v.toArray⟩] 33)).heap.size = w8.heap.size + 1 by simp)
                generalize hnw : w8.alloc _ = wB at *
                clear hnw
                obtain ⟨v11, w11, run11, own11, b11, -⟩ := run_append_slk own8 hbb (sl_box hg10) (by rw [List.length_take]; simp only [List.length_cons, List.length_nil]; have := HN.out; omega)
                have BN := BW.out.trans (b11.mono hb0)
                have hbb := Nat.le_trans hbb b11.size
                clear b11 own8 hg10
                refine AnyS.next (i := 11) rfl (by kernel_rfl) (by kernel_rfl) fun K' hK' => ?_
                refine want_yes (by kernel_rfl) ?_
                simp only [List.getElem_toArray, List.getElem_cons_succ, List.getElem_cons_zero]
                refine opIn_value _ (fun c h => by cases h) rfl (exec_append (s := .tmp 70) (x := .tmp 72) rfl rfl rfl run11) ?_
                refine hK' _ _ (fun _ => ⟨(BN.cell (p := ⟨r, 0, none⟩) hrz).trans hS0.out.1, hS0.out.2.later BN hS0.out.2.lt⟩) ?_
                clear hK' K' BW
                simp only [Act.put, List.setIfInBounds_toArray, List.set_cons_succ, List.set_cons_zero]
                have BW := Lib.hid BN
                clear BN
                clear run11
                obtain ⟨v18, w18, run18, own18, b18, -⟩ := run_append_slk own11 hbb (SLZ.out _ BW.out).2 (by simp only [List.length_append, List.length_take, List.length_drop, List.length_cons, List.length_nil]; have := HN.out; omega)
                rw [← HPL.out] at own18
                have h0 : 0 < (putC L c).length := by rw [HPL.out, List.length_append, List.length_append, List.length_singleton]; omega
                obtain ⟨g, cap2, rfl, -, -, -, -⟩ := rowW_own' own18 h0
                have BN := BW.out.trans (b18.mono hb0)
                clear b18 own11 hbb
                refine AnyS.next (i := 18) rfl (by kernel_rfl) (by kernel_rfl) fun K' hK' => ?_
                refine want_yes (by kernel_rfl) ?_
                simp only [List.getElem_toArray, List.getElem_cons_succ, List.getElem_cons_zero]
                refine opIn_value _ (fun c h => by cases h) rfl (exec_append (s := .tmp 73) (x := .tmp 79) rfl rfl rfl run18) ?_
                refine hK' _ _ (fun _ => ⟨(BN.cell (p := ⟨r, 0, none⟩) hrz).trans hS0.out.1, hS0.out.2.later BN hS0.out.2.lt⟩) ?_
                clear hK' K' BW
                simp only [Act.put, List.setIfInBounds_toArray, List.set_cons_succ, List.set_cons_zero]
                have BW := Lib.hid BN
                clear BN
                clear run18
                have hr18 : w18.heap[r]? = some (.cells #[.slice (some ⟨b, o, none⟩) n cap] 29 (0, 0)) := (BW.out.block r hrz).trans hx1.out
                have c18 : w18.cell? ⟨r, 0, none⟩ = some (.slice (some ⟨b, o, none⟩) n cap) := by simp [World.cell?, hr18]
                have f18 : w18.frozen? ⟨r, 0, none⟩ = false := by simp [World.frozen?, hr18]
                have hS : w18.cell? ⟨r, 0, none⟩ = some (.slice (some ⟨b, o, none⟩) n cap) ∧ CeAt w.heap.size c w18 := ⟨c18, hS0.out.2.later BW.out hS0.out.2.lt⟩
                have HMK := Lib.hid (RefM.make hr18 own18 (Nat.lt_of_lt_of_le hrz hb0) h0)
                have HS := Lib.hid hS
                clear hr18 own18 h0 hS
                generalize (putC L c).length = nn at *
                refine AnyS.next (i := 19) rfl (by kernel_rfl) (by kernel_rfl) fun K' hK' => ?_
                refine want_yes (by kernel_rfl) ?_
                go_simp
                refine hK' _ _ (fun _ => HS.out) ?_
                clear hK' K'
                simp only [Act.put, List.setIfInBounds_toArray, List.set_cons_succ, List.set_cons_zero]
                refine AnyS.next (i := 20) rfl (by kernel_rfl) (by kernel_rfl) fun K' hK' => ?_
                refine want_yes (by kernel_rfl) ?_
                go_simp
                refine hK' _ _ (fun _ => HS.out) ?_
                clear hK' K'
                simp only [Act.put, List.setIfInBounds_toArray, List.set_cons_succ, List.set_cons_zero]
                refine AnyS.next (i := 21) rfl (by kernel_rfl) (by kernel_rfl) fun K' hK' => ?_
                refine want_yes (by kernel_rfl) ?_
                go_simp
                refine hK' _ _ (fun h => by cases h) ?_
                clear hK' K'
                refine AnyS.done (by kernel_rfl) ?_ _
                have B18 := BZ.out.trans (BW.out.mono BZ.out.size)
                have hzz := BZ.out.size
                clear BZ BW HS SLZ hS0 c18 f18 hx1
                go_wp2_with fail
                go_ret
                obtain ⟨g2, hg2, MK⟩ := HMK.out
                refine ⟨rfl, [r, g2], MK, fun x hx => ?_, (Fr.of_below B18).set ⟨r, 0, none⟩ (.inl H3.out.1) _⟩
                rcases List.mem_cons.1 hx with rfl | hx
                · exact .inl H3.out.1
                · obtain rfl : x = g2 := by simpa using hx
                  exact .inr (by omega)
              · refine want_yes (by kernel_rfl) ?_
                go_simp
                have n2 := (Below.refl wA.heap.size wA).alloc (Nat.le_refl _) (boxC c)
                have hg10 : (wA.alloc (boxC c)).heap[wA.heap.size]? = some (boxC c) := heap_alloc_new wA _
                have BN := BW.out.trans (n2.mono BW.out.size)
                have own0 := own_lat own0 n2
                have hbb := Nat.le_trans hbb n2.size
                clear n2
                unfold boxC at *
                refine hK' _ _ (fun _ => ⟨(BN.cell (p := ⟨r, 0, none⟩) hrz).trans hS0.out.1, hS0.out.2.later BN hS0.out.2.lt⟩) ?_
                clear hK' K' BW
                simp only [Act.put, List.setIfInBounds_toArray, List.set_cons_succ, List.set_cons_zero]
                have BW := Lib.hid BN
                clear BN
                have hsB := Lib.hid (show (wA.alloc (.cells #[.string ⟨c.k.toArray⟩, .int .i64 c.q, .string ⟨c.v.toArray⟩] 33)).heap.size = wA.heap.size + 1 by simp)
                generalize hnw : wA.alloc _ = wB at *
                clear hnw
                obtain ⟨v8, w8, run8, own8, b8, keep⟩ := run_append_slk own0 hbb (SLZ.out _ BW.out).1 (by rw [List.length_take]; simp only [List.length_nil]; have := HN.out; omega)
                rw [List.nil_append] at own8
                have BN := BW.out.trans (b8.mono hb0)
                have hbb := Nat.le_trans hbb b8.size
                have hg10 := (keep wA.heap.size (Array.getElem?_eq_some_iff.1 hg10).1 (by simp [Value.ownBlock]; try (first | (have := hsA.out; omega) | (have := hsB.out; omega) | omega))).trans hg10
                clear b8 keep own0
                refine AnyS.next (i := 8) rfl (by kernel_rfl) (by kernel_rfl) fun K' hK' => ?_
                refine want_yes (by kernel_rfl) ?_
                simp only [List.getElem_toArray, List.getElem_cons_succ, List.getElem_cons_zero]
                refine opIn_value _ (fun c h => by cases h) rfl (exec_append (s := .tmp 63) (x := .tmp 69) rfl rfl rfl run8) ?_
                refine hK' _ _ (fun _ => ⟨(BN.cell (p := ⟨r, 0, none⟩) hrz).trans hS0.out.1, hS0.out.2.later BN hS0.out.2.lt⟩) ?_
                clear hK' K' BW
                simp only [Act.put, List.setIfInBounds_toArray, List.set_cons_succ, List.set_cons_zero]
                have BW := Lib.hid BN
                clear BN
                clear run8
                obtain ⟨v11, w11, run11, own11, b11, -⟩ := run_append_slk own8 hbb (sl_box hg10) (by rw [List.length_take]; simp only [List.length_cons, List.length_nil]; have := HN.out; omega)
                have BN := BW.out.trans (b11.mono hb0)
                have hbb := Nat.le_trans hbb b11.size
                clear b11 own8 hg10
                refine AnyS.next (i := 11) rfl (by kernel_rfl) (by kernel_rfl) fun K' hK' => ?_
                refine want_yes (by kernel_rfl) ?_
                simp only [List.getElem_toArray, List.getElem_cons_succ, List.getElem_cons_zero]
                refine opIn_value _ (fun c h => by cases h) rfl (exec_append (s := .tmp 70) (x := .tmp 72) rfl rfl rfl run11) ?_
                refine hK' _ _ (fun _ => ⟨(BN.cell (p := ⟨r, 0, none⟩) hrz).trans hS0.out.1, hS0.out.2.later BN hS0.out.2.lt⟩) ?_
                clear hK' K' BW
                simp only [Act.put, List.setIfInBounds_toArray, List.set_cons_succ, List.set_cons_zero]
                have BW := Lib.hid BN
                clear BN
                clear run11
                obtain ⟨v18, w18, run18, own18, b18, -⟩ := run_append_slk own11 hbb (SLZ.out _ BW.out).2 (by simp only [List.length_append, List.length_take, List.length_drop, List.length_cons, List.length_nil]; have := HN.out; omega)
                rw [← HPL.out] at own18
                have h0 : 0 < (putC L c).length := by rw [HPL.out, List.length_append, List.length_append, List.length_singleton]; omega
                obtain ⟨g, cap2, rfl, -, -, -, -⟩ := rowW_own' own18 h0
                have BN := BW.out.trans (b18.mono hb0)
                clear b18 own11 hbb
                refine AnyS.next (i := 18) rfl (by kernel_rfl) (by kernel_rfl) fun K' hK' => ?_
                refine want_yes (by kernel_rfl) ?_
                simp only [List.getElem_toArray, List.getElem_cons_succ, List.getElem_cons_zero]
                refine opIn_value _ (fun c h => by cases h) rfl (exec_append (s := .tmp 73) (x := .tmp 79) rfl rfl rfl run18) ?_
                refine hK' _ _ (fun _ => ⟨(BN.cell (p := ⟨r, 0, none⟩) hrz).trans hS0.out.1, hS0.out.2.later BN hS0.out.2.lt⟩) ?_
                clear hK' K' BW
                simp only [Act.put, List.setIfInBounds_toArray, List.set_cons_succ, List.set_cons_zero]
                have BW := Lib.hid BN
                clear BN
                clear run18
                have hr18 : w18.heap[r]? = some (.cells #[.slice (some ⟨b, o, none⟩) n cap] 29 (0, 0)) := (BW.out.block r hrz).trans hx1.out
                have c18 : w18.cell? ⟨r, 0, none⟩ = some (.slice (some ⟨b, o, none⟩) n cap) := by simp [World.cell?, hr18]
                have f18 : w18.frozen? ⟨r, 0, none⟩ = false := by simp [World.frozen?, hr18]
                have hS : w18.cell? ⟨r, 0, none⟩ = some (.slice (some ⟨b, o, none⟩) n cap) ∧ CeAt w.heap.size c w18 := ⟨c18, hS0.out.2.later BW.out hS0.out.2.lt⟩
                have HMK := Lib.hid (RefM.make hr18 own18 (Nat.lt_of_lt_of_le hrz hb0) h0)
                have HS := Lib.hid hS
                clear hr18 own18 h0 hS
                generalize (putC L c).length = nn at *
                refine AnyS.next (i := 19) rfl (by kernel_rfl) (by kernel_rfl) fun K' hK' => ?_
                refine want_yes (by kernel_rfl) ?_
                go_simp
                refine hK' _ _ (fun _ => HS.out) ?_
                clear hK' K'
                simp only [Act.put, List.setIfInBounds_toArray, List.set_cons_succ, List.set_cons_zero]
                refine AnyS.next (i := 20) rfl (by kernel_rfl) (by kernel_rfl) fun K' hK' => ?_
                refine want_yes (by kernel_rfl) ?_
                go_simp
                refine hK' _ _ (fun _ => HS.out) ?_
                clear hK' K'
                simp only [Act.put, List.setIfInBounds_toArray, List.set_cons_succ, List.set_cons_zero]
                refine AnyS.next (i := 21) rfl (by kernel_rfl) (by kernel_rfl) fun K' hK' => ?_
                refine want_yes (by kernel_rfl) ?_
                go_simp
                refine hK' _ _ (fun h => by cases h) ?_
                clear hK' K'
                refine AnyS.done (by kernel_rfl) ?_ _
                have B18 := BZ.out.trans (BW.out.mono BZ.out.size)
                have hzz := BZ.out.size
                clear BZ BW HS SLZ hS0 c18 f18 hx1
                go_wp2_with fail
                go_ret
                obtain ⟨g2, hg2, MK⟩ := HMK.out
                refine ⟨rfl, [r, g2], MK, fun x hx => ?_, (Fr.of_below B18).set ⟨r, 0, none⟩ (.inl H3.out.1) _⟩
                rcases List.mem_cons.1 hx with rfl | hx
                · exact .inl H3.out.1
                · obtain rfl : x = g2 := by simpa using hx
                  exact .inr (by omega)
            · refine want_yes (by kernel_rfl) ?_
              go_simp
              have n2 := (Below.refl wz.heap.size wz).alloc (Nat.le_refl _) (boxC c)
              have hg10 : (wz.alloc (boxC c)).heap[wz.heap.size]? = some (boxC c) := heap_alloc_new wz _
              have BN := BW.out.trans (n2.mono BW.out.size)
              clear n2
              unfold boxC at *
              refine hK' _ _ (fun _ => ⟨(BN.cell (p := ⟨r, 0, none⟩) hrz).trans hS0.out.1, hS0.out.2.later BN hS0.out.2.lt⟩) ?_
              clear hK' K' BW
              simp only [Act.put, List.setIfInBounds_toArray, List.set_cons_succ, List.set_cons_zero]
              have BW := Lib.hid BN
              clear BN
              have hsB := Lib.hid (show (wz.alloc (.cells #[.string ⟨c.k.toArray⟩, .int .i64 c.q, .string ⟨c.v.toArray⟩] 33)).heap.size = wz.heap.size + 1 by simp)
              generalize hnw : wz.alloc _ = wB at *
              clear hnw
              refine AnyS.next (i := 1) rfl (by kernel_rfl) (by kernel_rfl) fun K' hK' => ?_
              refine want_yes (by kernel_rfl) ?_
              go_simp
              have n1 := (Below.refl wB.heap.size wB).alloc (Nat.le_refl _) (.cells #[] 33)
              have own0 := own_none wB
              have hb0 := BW.out.size
              have BN := BW.out.trans (n1.mono hb0)
              have hbb := n1.size
              have hg10 := (n1.block wz.heap.size (Array.getElem?_eq_some_iff.1 hg10).1).trans hg10
              clear n1
              refine hK' _ _ (fun _ => ⟨(BN.cell (p := ⟨r, 0, none⟩) hrz).trans hS0.out.1, hS0.out.2.later BN hS0.out.2.lt⟩) ?_
              clear hK' K' BW
              simp only [Act.put, List.setIfInBounds_toArray, List.set_cons_succ, List.set_cons_zero]
              have BW := Lib.hid BN
              clear BN
              have hsA := Lib.hid (show (wB.alloc (.cells #[] 33)).heap.size = wB.heap.size + 1 by simp)
              generalize hnw : wB.alloc (.cells #[] 33) = wA at *
              clear hnw
              obtain ⟨v8, w8, run8, own8, b8, keep⟩ := run_append_slk own0 hbb (SLZ.out _ BW.out).1 (by rw [List.length_take]; simp only [List.length_nil]; have := HN.out; omega)
              rw [List.nil_append] at own8
              have BN := BW.out.trans (b8.mono hb0)
              have hbb := Nat.le_trans hbb b8.size
              have hg10 := (keep wz.heap.size (Array.getElem?_eq_some_iff.1 hg10).1 (by simp [Value.ownBlock]; try (first | (have := hsA.out; omega) | (have := hsB.out; omega) | omega))).trans hg10
              clear b8 keep own0
              refine AnyS.next (i := 8) rfl (by kernel_rfl) (by kernel_rfl) fun K' hK' => ?_
              refine want_yes (by kernel_rfl) ?_
              simp only [List.getElem_toArray, List.getElem_cons_succ, List.getElem_cons_zero]
              refine opIn_value _ (fun c h => by cases h) rfl (exec_append (s := .tmp 63) (x := .tmp 69) rfl rfl rfl run8) ?_
              refine hK' _ _ (fun _ => ⟨(BN.cell (p := ⟨r, 0, none⟩) hrz).trans hS0.out.1, hS0.out.2.later BN hS0.out.2.lt⟩) ?_
              clear hK' K' BW
              simp only [Act.put, List.setIfInBounds_toArray, List.set_cons_succ, List.set_cons_zero]
              have BW := Lib.hid BN
              clear BN
              clear run8
              obtain ⟨v11, w11, run11, own11, b11, -⟩ := run_append_slk own8 hbb (sl_box hg10) (by rw [List.length_take]; simp only [List.length_cons, List.length_nil]; have := HN.out; omega)
              have BN := BW.out.trans (b11.mono hb0)
              have hbb := Nat.le_trans hbb b11.size
              clear b11 own8 hg10
              refine AnyS.next (i := 11) rfl (by kernel_rfl) (by kernel_rfl) fun K' hK' => ?_
              refine want_yes (by kernel_rfl) ?_
              simp only [List.getElem_toArray, List.getElem_cons_succ, List.getElem_cons_zero]
              refine opIn_value _ (fun c h => by cases h) rfl (exec_append (s := .tmp 70) (x := .tmp 72) rfl rfl rfl run11) ?_
              refine hK' _ _ (fun _ => ⟨(BN.cell (p := ⟨r, 0, none⟩) hrz).trans hS0.out.1, hS0.out.2.later BN hS0.out.2.lt⟩) ?_
              clear hK' K' BW
              simp only [Act.put, List.setIfInBounds_toArray, List.set_cons_succ, List.set_cons_zero]
              have BW := Lib.hid BN
              clear BN
              clear run11
              obtain ⟨v18, w18, run18, own18, b18, -⟩ := run_append_slk own11 hbb (SLZ.out _ BW.out).2 (by simp only [List.length_append, List.length_take, List.length_drop, List.length_cons, List.length_nil]; have := HN.out; omega)
              rw [← HPL.out] at own18
              have h0 : 0 < (putC L c).length := by rw [HPL.out, List.length_append, List.length_append, List.length_singleton]; omega
              obtain ⟨g, cap2, rfl, -, -, -, -⟩ := rowW_own' own18 h0
              have BN := BW.out.trans (b18.mono hb0)
              clear b18 own11 hbb
              refine AnyS.next (i := 18) rfl (by kernel_rfl) (by kernel_rfl) fun K' hK' => ?_
              refine want_yes (by kernel_rfl) ?_
              simp only [List.getElem_toArray, List.getElem_cons_succ, List.getElem_cons_zero]
              refine opIn_value _ (fun c h => by cases h) rfl (exec_append (s := .tmp 73) (x := .tmp 79) rfl rfl rfl run18) ?_
              refine hK' _ _ (fun _ => ⟨(BN.cell (p := ⟨r, 0, none⟩) hrz).trans hS0.out.1, hS0.out.2.later BN hS0.out.2.lt⟩) ?_
              clear hK' K' BW
              simp only [Act.put, List.setIfInBounds_toArray, List.set_cons_succ, List.set_cons_zero]
              have BW := Lib.hid BN
              clear BN
              clear run18
              have hr18 : w18.heap[r]? = some (.cells #[.slice (some ⟨b, o, none⟩) n cap] 29 (0, 0)) := (BW.out.block r hrz).trans hx1.out
              have c18 : w18.cell? ⟨r, 0, none⟩ = some (.slice (some ⟨b, o, none⟩) n cap) := by simp [World.cell?, hr18]
              have f18 : w18.frozen? ⟨r, 0, none⟩ = false := by simp [World.frozen?, hr18]
              have hS : w18.cell? ⟨r, 0, none⟩ = some (.slice (some ⟨b, o, none⟩) n cap) ∧ CeAt w.heap.size c w18 := ⟨c18, hS0.out.2.later BW.out hS0.out.2.lt⟩
              have HMK := Lib.hid (RefM.make hr18 own18 (Nat.lt_of_lt_of_le hrz hb0) h0)
              have HS := Lib.hid hS
              clear hr18 own18 h0 hS
              generalize (putC L c).length = nn at *
              refine AnyS.next (i := 19) rfl (by kernel_rfl) (by kernel_rfl) fun K' hK' => ?_
              refine want_yes (by kernel_rfl) ?_
              go_simp
              refine hK' _ _ (fun _ => HS.out) ?_
              clear hK' K'
              simp only [Act.put, List.setIfInBounds_toArray, List.set_cons_succ, List.set_cons_zero]
              refine AnyS.next (i := 20) rfl (by kernel_rfl) (by kernel_rfl) fun K' hK' => ?_
              refine want_yes (by kernel_rfl) ?_
              go_simp
              refine hK' _ _ (fun _ => HS.out) ?_
              clear hK' K'
              simp only [Act.put, List.setIfInBounds_toArray, List.set_cons_succ, List.set_cons_zero]
              refine AnyS.next (i := 21) rfl (by kernel_rfl) (by kernel_rfl) fun K' hK' => ?_
              refine want_yes (by kernel_rfl) ?_
              go_simp
              refine hK' _ _ (fun h => by cases h) ?_
              clear hK' K'
              refine AnyS.done (by kernel_rfl) ?_ _
              have B18 := BZ.out.trans (BW.out.mono BZ.out.size)
              have hzz := BZ.out.size
              clear BZ BW HS SLZ hS0 c18 f18 hx1
              go_wp2_with fail
              go_ret
              obtain ⟨g2, hg2, MK⟩ := HMK.out
              refine ⟨rfl, [r, g2], MK, fun x hx => ?_, (Fr.of_below B18).set ⟨r, 0, none⟩ (.inl H3.out.1) _⟩
              rcases List.mem_cons.1 hx with rfl | hx
              · exact .inl H3.out.1
              · obtain rfl : x = g2 := by simpa using hx
                exact .inr (by omega)
      · obtain rfl : k = n := by omega
        have HIN := Lib.hid (insC_at HA.out (by rw [HN.out]; exact Nat.le_refl _) (fun h => absurd h (by rw [HN.out]; omega)))
        have HPL := Lib.hid (show putC L c = L.take k ++ [c] ++ L.drop k by rw [HPC.out, HIN.out, if_neg (fun h => absurd h.1 (by rw [HN.out]; omega))]; simp)
        have HC0 := Lib.hid (And.intro B2 HQ2.out)
        clear HA CA HQ1 HQ2 hlt l2 y0 y1 y2 yl HIN B hk
        obtain hA | ⟨b, o, hA⟩ : (A = none ∧ cap = 0 ∧ k = 0) ∨ ∃ b o, A = some ⟨b, o, none⟩ := by
          rcases Nat.eq_zero_or_pos k with h0 | h0
          · obtain ⟨e2, e1⟩ | ⟨g, e2⟩ := H6.out h0
            · exact .inl ⟨e2, e1, h0⟩
            · exact .inr ⟨g, 0, e2⟩
          · obtain ⟨b, o, e, -⟩ := H7.out h0
            exact .inr ⟨b, o, e⟩
        · obtain ⟨rfl, rfl, rfl⟩ := hA
          have HLL := Lib.hid (List.eq_nil_of_length_eq_zero HN.out)
          go_wp2_with fail
          refine wp_region_more (by kernel_rfl) (by kernel_rfl) ?_
          repeat (go_big_quiet_step (fail))
          refine wpQuiet_nil ?_
          rintro _ ⟨ex, rfl⟩
          have b3 := World.below_more wr ex
          have B3 := btP B2 b3
          have Q3 := HC0.out.2.later b3 HC0.out.2.lt
          have hcr3 : (wr.more ex).cell? ⟨r, 0, none⟩ = some (.slice none 0 0) := (b3.cell (p := ⟨r, 0, none⟩) hrl2).trans hcr2
          have hrl3 : r < (wr.more ex).heap.size := Nat.lt_of_lt_of_le hrl2 b3.size
          generalize wr.more ex = w3 at *
          clear b3 hcr2 B2 hrl2
          have HC3 := Lib.hid (And.intro B3 Q3)
          clear Q3
          go_wp2_with fail
          refine wp_region_more (by kernel_rfl) (by kernel_rfl) ?_
          repeat (go_big_quiet_step (fail))
          refine wpQuiet_nil ?_
          rintro _ ⟨ex, rfl⟩
          have b4 := World.below_more w3 ex
          have B8 := btP HC3.out.1 b4
          have Q8 := HC3.out.2.later b4 HC3.out.2.lt
          generalize w3.more ex = wc at *
          clear b4 B3 hrl3 hcr3
          have HW8 := Lib.hid (And.intro ((B8.block r hrl).trans H1.out) Q8)
          have SLS := Lib.hid (fun W' (hb : Below wc.heap.size wc W') => And.intro (show SlAt (.slice none 0 0) (L.take 0) W' by rw [HLL.out]; exact ⟨none, 0, rfl, by simp, by unfold maxLen; omega, fun h => absurd h (by simp)⟩) (show SlAt (.slice none 0 0) (L.drop 0) W' by rw [HLL.out]; exact ⟨none, 0, rfl, by simp, by unfold maxLen; omega, fun h => absurd h (by simp)⟩))
          clear Q8 HC0 HC3
          go_wp2_with fail
          have hB := Below.drew (Below.refl wc.heap.size wc)
          have hx1 := Lib.hid (show wc.drew.heap[r]? = some (.cells #[.slice none 0 0] 29 (0, 0)) from HW8.out.1)
          have hS : wc.drew.cell? ⟨r, 0, none⟩ = some (.slice none 0 0) ∧ CeAt w.heap.size c wc.drew := ⟨by have := hx1.out; simp [World.cell?, this], HW8.out.2⟩
          have BZ := Lib.hid (Below.drew B8)
          have SLZ := Lib.hid (fun W' (hb : Below wc.heap.size wc.drew W') => SLS.out W' (hB.trans hb))
          have hrz : r < wc.drew.heap.size := (Array.getElem?_eq_some_iff.1 hx1.out).1
          clear hB HW8 B8 SLS
          refine (wpIn_wide (n := 5)).1 ?_
          refine wpIn_region_lit_late (fun w' => w'.cell? ⟨r, 0, none⟩ = some (.slice none 0 0) ∧ CeAt w.heap.size c w') (fun j => j == 21) (k := 22) (listed := #[false, false, false, false, false, false, false, false, false, false, false, false, false, false, false, false, false, false, false, false, false, false]) (by kernel_rfl) (by kernel_rfl) (by kernel_rfl) ?_
          have hzs : wc.drew.heap.size = wc.heap.size := rfl
          rw [← hzs] at SLZ
          clear hzs
          generalize wc.drew = wz at *
          refine AnyS.get (i := 0) (some 62) ?_ rfl rfl (by kernel_rfl) (by kernel_rfl) (by kernel_rfl) (by kernel_rfl) (fun _ _ _ h => h) (Reads.yes (by kernel_rfl) ?_ (fun _ => rfl)) hS ?_
          rotate_left
          · intro w' hw'
            go_simp
            with_reducible rfl
          simp only [Act.put, List.setIfInBounds_toArray, List.set_cons_succ, List.set_cons_zero]
          refine AnyS.get (i := 2) (some 64) ?_ rfl rfl (by kernel_rfl) (by kernel_rfl) (by kernel_rfl) (by kernel_rfl) (fun _ _ _ h => h) (Reads.yes (by kernel_rfl) ?_ (fun _ => rfl)) hS ?_
          rotate_left
          · intro w' hw'
            go_simp
            with_reducible rfl
          simp only [Act.put, List.setIfInBounds_toArray, List.set_cons_succ, List.set_cons_zero]
          refine AnyS.get (i := 3) (some 65) ?_ rfl rfl (by kernel_rfl) (by kernel_rfl) (by kernel_rfl) (by kernel_rfl) (fun _ _ _ h => h) (Reads.yes (by kernel_rfl) ?_ (fun _ => rfl)) hS ?_
          rotate_left
          · intro w' hw'
            go_simp
            with_reducible rfl
          simp only [Act.put, List.setIfInBounds_toArray, List.set_cons_succ, List.set_cons_zero]
          refine AnyS.get (i := 4) (some 66) ?_ rfl rfl (by kernel_rfl) (by kernel_rfl) (by kernel_rfl) (by kernel_rfl) (fun _ _ _ h => h) (Reads.yes (by kernel_rfl) ?_ (fun _ => rfl)) hS ?_
          rotate_left
          · intro w' hw'
            go_simp
            with_reducible rfl
          simp only [Act.put, List.setIfInBounds_toArray, List.set_cons_succ, List.set_cons_zero]
          refine AnyS.get (i := 5) (some 67) ?_ rfl rfl (by kernel_rfl) (by kernel_rfl) (by kernel_rfl) (by kernel_rfl) (fun _ _ _ h => h) (Reads.yes (by kernel_rfl) ?_ (fun _ => rfl)) hS ?_
          rotate_left
          · intro w' hw'
            obtain ⟨t1, t2⟩ := hw'; obtain ⟨t3, t4, t5⟩ := t2.cell; clear t2
            go_simp
            with_reducible rfl
          simp only [Act.put, List.setIfInBounds_toArray, List.set_cons_succ, List.set_cons_zero]
          refine AnyS.get (i := 6) (some 68) ?_ rfl rfl (by kernel_rfl) (by kernel_rfl) (by kernel_rfl) (by kernel_rfl) (fun _ _ _ h => h) (Reads.yes (by kernel_rfl) ?_ (fun _ => rfl)) hS ?_
          rotate_left
          · intro w' hw'
            go_simp
            with_reducible rfl
          simp only [Act.put, List.setIfInBounds_toArray, List.set_cons_succ, List.set_cons_zero]
          refine AnyS.get (i := 7) (some 69) ?_ rfl rfl (by kernel_rfl) (by kernel_rfl) (by kernel_rfl) (by kernel_rfl) (fun _ _ _ h => h) (Reads.yes (by kernel_rfl) ?_ (fun _ => rfl)) hS ?_
          rotate_left
          · intro w' hw'
            go_simp
            with_reducible rfl
          simp only [Act.put, List.setIfInBounds_toArray, List.set_cons_succ, List.set_cons_zero]
          refine AnyS.get (i := 9) (some 71) ?_ rfl rfl (by kernel_rfl) (by kernel_rfl) (by kernel_rfl) (by kernel_rfl) (fun _ _ _ h => h) (Reads.yes (by kernel_rfl) ?_ (fun _ => rfl)) hS ?_
          rotate_left
          · intro w' hw'
            obtain ⟨t1, t2⟩ := hw'; obtain ⟨t3, t4, t5⟩ := t2.cell; clear t2
            go_simp
            with_reducible rfl
          simp only [Act.put, List.setIfInBounds_toArray, List.set_cons_succ, List.set_cons_zero]
          refine AnyS.get (i := 12) (some 74) ?_ rfl rfl (by kernel_rfl) (by kernel_rfl) (by kernel_rfl) (by kernel_rfl) (fun _ _ _ h => h) (Reads.yes (by kernel_rfl) ?_ (fun _ => rfl)) hS ?_
          rotate_left
          · intro w' hw'
            go_simp
            with_reducible rfl
          simp only [Act.put, List.setIfInBounds_toArray, List.set_cons_succ, List.set_cons_zero]
          refine AnyS.get (i := 13) (some 75) ?_ rfl rfl (by kernel_rfl) (by kernel_rfl) (by kernel_rfl) (by kernel_rfl) (fun _ _ _ h => h) (Reads.yes (by kernel_rfl) ?_ (fun _ => rfl)) hS ?_
          rotate_left
          · intro w' hw'
            go_simp
            with_reducible rfl
          simp only [Act.put, List.setIfInBounds_toArray, List.set_cons_succ, List.set_cons_zero]
          refine AnyS.get (i := 14) (some 76) ?_ rfl rfl (by kernel_rfl) (by kernel_rfl) (by kernel_rfl) (by kernel_rfl) (fun _ _ _ h => h) (Reads.yes (by kernel_rfl) ?_ (fun _ => rfl)) hS ?_
          rotate_left
          · intro w' hw'
            go_simp
            with_reducible rfl
          simp only [Act.put, List.setIfInBounds_toArray, List.set_cons_succ, List.set_cons_zero]
          refine AnyS.get (i := 15) (some 77) ?_ rfl rfl (by kernel_rfl) (by kernel_rfl) (by kernel_rfl) (by kernel_rfl) (fun _ _ _ h => h) (Reads.yes (by kernel_rfl) ?_ (fun _ => rfl)) hS ?_
          rotate_left
          · intro w' hw'
            obtain ⟨t1, t2⟩ := hw'; obtain ⟨t3, t4, t5⟩ := t2.cell; clear t2
            go_simp
            with_reducible rfl
          simp only [Act.put, List.setIfInBounds_toArray, List.set_cons_succ, List.set_cons_zero]
          refine AnyS.get (i := 16) (some 78) ?_ rfl rfl (by kernel_rfl) (by kernel_rfl) (by kernel_rfl) (by kernel_rfl) (fun _ _ _ h => h) (Reads.yes (by kernel_rfl) ?_ (fun _ => rfl)) hS ?_
          rotate_left
          · intro w' hw'
            go_simp
            with_reducible rfl
          simp only [Act.put, List.setIfInBounds_toArray, List.set_cons_succ, List.set_cons_zero]
          refine AnyS.get (i := 17) (some 79) ?_ rfl rfl (by kernel_rfl) (by kernel_rfl) (by kernel_rfl) (by kernel_rfl) (fun _ _ _ h => h) (Reads.yes (by kernel_rfl) ?_ (fun _ => rfl)) hS ?_
          rotate_left
          · intro w' hw'
            go_simp
            with_reducible rfl
          simp only [Act.put, List.setIfInBounds_toArray, List.set_cons_succ, List.set_cons_zero]
          have hS0 := Lib.hid hS
          clear hS
          have BW := Lib.hid (Below.refl wz.heap.size wz)
          refine AnyS.two (i := 1) (j := 10) rfl rfl (by kernel_rfl) (by kernel_rfl) (fun K' hK' => ?_) (fun K' hK' => ?_)
          · refine want_yes (by kernel_rfl) ?_
            go_simp
            have n1 := (Below.refl wz.heap.size wz).alloc (Nat.le_refl _) (.cells #[] 33)
            have own0 := own_none wz
            have hb0 := BW.out.size
            have BN := BW.out.trans (n1.mono hb0)
            have hbb := n1.size
            clear n1
            refine hK' _ _ (fun _ => ⟨(BN.cell (p := ⟨r, 0, none⟩) hrz).trans hS0.out.1, hS0.out.2.later BN hS0.out.2.lt⟩) ?_
            clear hK' K' BW
            simp only [Act.put, List.setIfInBounds_toArray, List.set_cons_succ, List.set_cons_zero]
            have BW := Lib.hid BN
            clear BN
            have hsA := Lib.hid (show (wz.alloc (.cells #[] 33)).heap.size = wz.heap.size + 1 by simp)
            generalize hnw : wz.alloc (.cells #[] 33) = wA at *
            clear hnw
            refine AnyS.two (i := 8) (j := 10) rfl rfl (by kernel_rfl) (by kernel_rfl) (fun K' hK' => ?_) (fun K' hK' => ?_)
            · obtain ⟨v8, w8, run8, own8, b8, keep⟩ := run_append_slk own0 hbb (SLZ.out _ BW.out).1 (by rw [List.length_take]; simp only [List.length_nil]; have := HN.out; omega)
              rw [List.nil_append] at own8
              have BN := BW.out.trans (b8.mono hb0)
              have hbb := Nat.le_trans hbb b8.size
              clear b8 keep own0
              refine want_yes (by kernel_rfl) ?_
              simp only [List.getElem_toArray, List.getElem_cons_succ, List.getElem_cons_zero]
              refine opIn_value _ (fun c h => by cases h) rfl (exec_append (s := .tmp 63) (x := .tmp 69) rfl rfl rfl run8) ?_
              refine hK' _ _ (fun _ => ⟨(BN.cell (p := ⟨r, 0, none⟩) hrz).trans hS0.out.1, hS0.out.2.later BN hS0.out.2.lt⟩) ?_
              clear hK' K' BW
              simp only [Act.put, List.setIfInBounds_toArray, List.set_cons_succ, List.set_cons_zero]
              have BW := Lib.hid BN
              clear BN
              clear run8
              refine AnyS.next (i := 10) rfl (by kernel_rfl) (by kernel_rfl) fun K' hK' => ?_
              refine want_yes (by kernel_rfl) ?_
              go_simp
              have n2 := (Below.refl w8.heap.size w8).alloc (Nat.le_refl _) (boxC c)
              have hg10 : (w8.alloc (boxC c)).heap[w8.heap.size]? = some (boxC c) := heap_alloc_new w8 _
              have BN := BW.out.trans (n2.mono BW.out.size)
              have own8 := own_lat own8 n2
              have hbb := Nat.le_trans hbb n2.size
              clear n2
              unfold boxC at *
              refine hK' _ _ (fun _ => ⟨(BN.cell (p := ⟨r, 0, none⟩) hrz).trans hS0.out.1, hS0.out.2.later BN hS0.out.2.lt⟩) ?_
              clear hK' K' BW
              simp only [Act.put, List.setIfInBounds_toArray, List.set_cons_succ, List.set_cons_zero]
              have BW := Lib.hid BN
              clear BN
              have hsB := Lib.hid (show (w8.alloc (.cells #[.string ⟨c.k.toArray⟩, .int .i64 c.q, .string ⟨c.v.toArray⟩] 33)).heap.size = w8.heap.size + 1 by simp)
              generalize hnw : w8.alloc _ = wB at *
              clear hnw
              obtain ⟨v11, w11, run11, own11, b11, -⟩ := run_append_slk own8 hbb (sl_box hg10) (by rw [List.length_take]; simp only [List.length_cons, List.length_nil]; have := HN.out; omega)
              have BN := BW.out.trans (b11.mono hb0)
              have hbb := Nat.le_trans hbb b11.size
              clear b11 own8 hg10
              refine AnyS.next (i := 11) rfl (by kernel_rfl) (by kernel_rfl) fun K' hK' => ?_
              refine want_yes (by kernel_rfl) ?_
              simp only [List.getElem_toArray, List.getElem_cons_succ, List.getElem_cons_zero]
              refine opIn_value _ (fun c h => by cases h) rfl (exec_append (s := .tmp 70) (x := .tmp 72) rfl rfl rfl run11) ?_
              refine hK' _ _ (fun _ => ⟨(BN.cell (p := ⟨r, 0, none⟩) hrz).trans hS0.out.1, hS0.out.2.later BN hS0.out.2.lt⟩) ?_
              clear hK' K' BW
              simp only [Act.put, List.setIfInBounds_toArray, List.set_cons_succ, List.set_cons_zero]
              have BW := Lib.hid BN
              clear BN
              clear run11
              obtain ⟨v18, w18, run18, own18, b18, -⟩ := run_append_slk own11 hbb (SLZ.out _ BW.out).2 (by simp only [List.length_append, List.length_take, List.length_drop, List.length_cons, List.length_nil]; have := HN.out; omega)
              rw [← HPL.out] at own18
              have h0 : 0 < (putC L c).length := by rw [HPL.out, List.length_append, List.length_append, List.length_singleton]; omega
              obtain ⟨g, cap2, rfl, -, -, -, -⟩ := rowW_own' own18 h0
              have BN := BW.out.trans (b18.mono hb0)
              clear b18 own11 hbb
              refine AnyS.next (i := 18) rfl (by kernel_rfl) (by kernel_rfl) fun K' hK' => ?_
              refine want_yes (by kernel_rfl) ?_
              simp only [List.getElem_toArray, List.getElem_cons_succ, List.getElem_cons_zero]
              refine opIn_value _ (fun c h => by cases h) rfl (exec_append (s := .tmp 73) (x := .tmp 79) rfl rfl rfl run18) ?_
              refine hK' _ _ (fun _ => ⟨(BN.cell (p := ⟨r, 0, none⟩) hrz).trans hS0.out.1, hS0.out.2.later BN hS0.out.2.lt⟩) ?_
              clear hK' K' BW
              simp only [Act.put, List.setIfInBounds_toArray, List.set_cons_succ, List.set_cons_zero]
              have BW := Lib.hid BN
              clear BN
              clear run18
              have hr18 : w18.heap[r]? = some (.cells #[.slice none 0 0] 29 (0, 0)) := (BW.out.block r hrz).trans hx1.out
              have c18 : w18.cell? ⟨r, 0, none⟩ = some (.slice none 0 0) := by simp [World.cell?, hr18]
              have f18 : w18.frozen? ⟨r, 0, none⟩ = false := by simp [World.frozen?, hr18]
              have hS : w18.cell? ⟨r, 0, none⟩ = some (.slice none 0 0) ∧ CeAt w.heap.size c w18 := ⟨c18, hS0.out.2.later BW.out hS0.out.2.lt⟩
              have HMK := Lib.hid (RefM.make hr18 own18 (Nat.lt_of_lt_of_le hrz hb0) h0)
              have HS := Lib.hid hS
              clear hr18 own18 h0 hS
              generalize (putC L c).length = nn at *
              refine AnyS.next (i := 19) rfl (by kernel_rfl) (by kernel_rfl) fun K' hK' => ?_
              refine want_yes (by kernel_rfl) ?_
              go_simp
              refine hK' _ _ (fun _ => HS.out) ?_
              clear hK' K'
              simp only [Act.put, List.setIfInBounds_toArray, List.set_cons_succ, List.set_cons_zero]
              refine AnyS.next (i := 20) rfl (by kernel_rfl) (by kernel_rfl) fun K' hK' => ?_
              refine want_yes (by kernel_rfl) ?_
              go_simp
              refine hK' _ _ (fun _ => HS.out) ?_
              clear hK' K'
              simp only [Act.put, List.setIfInBounds_toArray, List.set_cons_succ, List.set_cons_zero]
              refine AnyS.next (i := 21) rfl (by kernel_rfl) (by kernel_rfl) fun K' hK' => ?_
              refine want_yes (by kernel_rfl) ?_
              go_simp
              refine hK' _ _ (fun h => by cases h) ?_
              clear hK' K'
              refine AnyS.done (by kernel_rfl) ?_ _
              have B18 := BZ.out.trans (BW.out.mono BZ.out.size)
              have hzz := BZ.out.size
              clear BZ BW HS SLZ hS0 c18 f18 hx1
              go_wp2_with fail
              go_ret
              obtain ⟨g2, hg2, MK⟩ := HMK.out
              refine ⟨rfl, [r, g2], MK, fun x hx => ?_, (Fr.of_below B18).set ⟨r, 0, none⟩ (.inl H3.out.1) _⟩
              rcases List.mem_cons.1 hx with rfl | hx
              · exact .inl H3.out.1
              · obtain rfl : x = g2 := by simpa using hx
                exact .inr (by omega)
            · refine want_yes (by kernel_rfl) ?_
              go_simp
              have n2 := (Below.refl wA.heap.size wA).alloc (Nat.le_refl _) (boxC c)
              have hg10 : (wA.alloc (boxC c)).heap[wA.heap.size]? = some (boxC c) := heap_alloc_new wA _
              have BN := BW.out.trans (n2.mono BW.out.size)
              have own0 := own_lat own0 n2
              have hbb := Nat.le_trans hbb n2.size
              clear n2
              unfold boxC at *
              refine hK' _ _ (fun _ => ⟨(BN.cell (p := ⟨r, 0, none⟩) hrz).trans hS0.out.1, hS0.out.2.later BN hS0.out.2.lt⟩) ?_
              clear hK' K' BW
              simp only [Act.put, List.setIfInBounds_toArray, List.set_cons_succ, List.set_cons_zero]
              have BW := Lib.hid BN
              clear BN
              have hsB := Lib.hid (show (wA.alloc (.cells #[.string ⟨c.k.toArray⟩, .int .i64 c.q, .string ⟨c.v.toArray⟩] 33)).heap.size = wA.heap.size + 1 by simp)
              generalize hnw : wA.alloc _ = wB at *
              clear hnw
              obtain ⟨v8, w8, run8, own8, b8, keep⟩ := run_append_slk own0 hbb (SLZ.out _ BW.out).1 (by rw [List.length_take]; simp only [List.length_nil]; have := HN.out; omega)
              rw [List.nil_append] at own8
              have BN := BW.out.trans (b8.mono hb0)
              have hbb := Nat.le_trans hbb b8.size
              have hg10 := (keep wA.heap.size (Array.getElem?_eq_some_iff.1 hg10).1 (by simp [Value.ownBlock]; try (first | (have := hsA.out; omega) | (have := hsB.out; omega) | omega))).trans hg10
              clear b8 keep own0
              refine AnyS.next (i := 8) rfl (by kernel_rfl) (by kernel_rfl) fun K' hK' => ?_
              refine want_yes (by kernel_rfl) ?_
              simp only [List.getElem_toArray, List.getElem_cons_succ, List.getElem_cons_zero]
              refine opIn_value _ (fun c h => by cases h) rfl (exec_append (s := .tmp 63) (x := .tmp 69) rfl rfl rfl run8) ?_
              refine hK' _ _ (fun _ => ⟨(BN.cell (p := ⟨r, 0, none⟩) hrz).trans hS0.out.1, hS0.out.2.later BN hS0.out.2.lt⟩) ?_
              clear hK' K' BW
              simp only [Act.put, List.setIfInBounds_toArray, List.set_cons_succ, List.set_cons_zero]
              have BW := Lib.hid BN
              clear BN
              clear run8
              obtain ⟨v11, w11, run11, own11, b11, -⟩ := run_append_slk own8 hbb (sl_box hg10) (by rw [List.length_take]; simp only [List.length_cons, List.length_nil]; have := HN.out; omega)
              have BN := BW.out.trans (b11.mono hb0)
              have hbb := Nat.le_trans hbb b11.size
              clear b11 own8 hg10
              refine AnyS.next (i := 11) rfl (by kernel_rfl) (by kernel_rfl) fun K' hK' => ?_
              refine want_yes (by kernel_rfl) ?_
              simp only [List.getElem_toArray, List.getElem_cons_succ, List.getElem_cons_zero]
              refine opIn_value _ (fun c h => by cases h) rfl (exec_append (s := .tmp 70) (x := .tmp 72) rfl rfl rfl run11) ?_
              refine hK' _ _ (fun _ => ⟨(BN.cell (p := ⟨r, 0, none⟩) hrz).trans hS0.out.1, hS0.out.2.later BN hS0.out.2.lt⟩) ?_
              clear hK' K' BW
              simp only [Act.put, List.setIfInBounds_toArray, List.set_cons_succ, List.set_cons_zero]
              have BW := Lib.hid BN
              clear BN
              clear run11
              obtain ⟨v18, w18, run18, own18, b18, -⟩ := run_append_slk own11 hbb (SLZ.out _ BW.out).2 (by simp only [List.length_append, List.length_take, List.length_drop, List.length_cons, List.length_nil]; have := HN.out; omega)
              rw [← HPL.out] at own18
              have h0 : 0 < (putC L c).length := by rw [HPL.out, List.length_append, List.length_append, List.length_singleton]; omega
              obtain ⟨g, cap2, rfl, -, -, -, -⟩ := rowW_own' own18 h0
              have BN := BW.out.trans (b18.mono hb0)
              clear b18 own11 hbb
              refine AnyS.next (i := 18) rfl (by kernel_rfl) (by kernel_rfl) fun K' hK' => ?_
              refine want_yes (by kernel_rfl) ?_
              simp only [List.getElem_toArray, List.getElem_cons_succ, List.getElem_cons_zero]
              refine opIn_value _ (fun c h => by cases h) rfl (exec_append (s := .tmp 73) (x := .tmp 79) rfl rfl rfl run18) ?_
              refine hK' _ _ (fun _ => ⟨(BN.cell (p := ⟨r, 0, none⟩) hrz).trans hS0.out.1, hS0.out.2.later BN hS0.out.2.lt⟩) ?_
              clear hK' K' BW
              simp only [Act.put, List.setIfInBounds_toArray, List.set_cons_succ, List.set_cons_zero]
              have BW := Lib.hid BN
              clear BN
              clear run18
              have hr18 : w18.heap[r]? = some (.cells #[.slice none 0 0] 29 (0, 0)) := (BW.out.block r hrz).trans hx1.out
              have c18 : w18.cell? ⟨r, 0, none⟩ = some (.slice none 0 0) := by simp [World.cell?, hr18]
              have f18 : w18.frozen? ⟨r, 0, none⟩ = false := by simp [World.frozen?, hr18]
              have hS : w18.cell? ⟨r, 0, none⟩ = some (.slice none 0 0) ∧ CeAt w.heap.size c w18 := ⟨c18, hS0.out.2.later BW.out hS0.out.2.lt⟩
              have HMK := Lib.hid (RefM.make hr18 own18 (Nat.lt_of_lt_of_le hrz hb0) h0)
              have HS := Lib.hid hS
              clear hr18 own18 h0 hS
              generalize (putC L c).length = nn at *
              refine AnyS.next (i := 19) rfl (by kernel_rfl) (by kernel_rfl) fun K' hK' => ?_
              refine want_yes (by kernel_rfl) ?_
              go_simp
              refine hK' _ _ (fun _ => HS.out) ?_
              clear hK' K'
              simp only [Act.put, List.setIfInBounds_toArray, List.set_cons_succ, List.set_cons_zero]
              refine AnyS.next (i := 20) rfl (by kernel_rfl) (by kernel_rfl) fun K' hK' => ?_
              refine want_yes (by kernel_rfl) ?_
              go_simp
              refine hK' _ _ (fun _ => HS.out) ?_
              clear hK' K'
              simp only [Act.put, List.setIfInBounds_toArray, List.set_cons_succ, List.set_cons_zero]
              refine AnyS.next (i := 21) rfl (by kernel_rfl) (by kernel_rfl) fun K' hK' => ?_
              refine want_yes (by kernel_rfl) ?_
              go_simp
              refine hK' _ _ (fun h => by cases h) ?_
              clear hK' K'
              refine AnyS.done (by kernel_rfl) ?_ _
              have B18 := BZ.out.trans (BW.out.mono BZ.out.size)
              have hzz := BZ.out.size
              clear BZ BW HS SLZ hS0 c18 f18 hx1
              go_wp2_with fail
              go_ret
              obtain ⟨g2, hg2, MK⟩ := HMK.out
              refine ⟨rfl, [r, g2], MK, fun x hx => ?_, (Fr.of_below B18).set ⟨r, 0, none⟩ (.inl H3.out.1) _⟩
              rcases List.mem_cons.1 hx with rfl | hx
              · exact .inl H3.out.1
              · obtain rfl : x = g2 := by simpa using hx
                exact .inr (by omega)
          · refine want_yes (by kernel_rfl) ?_
            go_simp
            have n2 := (Below.refl wz.heap.size wz).alloc (Nat.le_refl _) (boxC c)
            have hg10 : (wz.alloc (boxC c)).heap[wz.heap.size]? = some (boxC c) := heap_alloc_new wz _
            have BN := BW.out.trans (n2.mono BW.out.size)
            clear n2
            unfold boxC at *
            refine hK' _ _ (fun _ => ⟨(BN.cell (p := ⟨r, 0, none⟩) hrz).trans hS0.out.1, hS0.out.2.later BN hS0.out.2.lt⟩) ?_
            clear hK' K' BW
            simp only [Act.put, List.setIfInBounds_toArray, List.set_cons_succ, List.set_cons_zero]
            have BW := Lib.hid BN
            clear BN
            have hsB := Lib.hid (show (wz.alloc (.cells #[.string ⟨c.k.toArray⟩, .int .i64 c.q, .string ⟨c.v.toArray⟩] 33)).heap.size = wz.heap.size + 1 by simp)
            generalize hnw : wz.alloc _ = wB at *
            clear hnw
            refine AnyS.next (i := 1) rfl (by kernel_rfl) (by kernel_rfl) fun K' hK' => ?_
            refine want_yes (by kernel_rfl) ?_
            go_simp
            have n1 := (Below.refl wB.heap.size wB).alloc (Nat.le_refl _) (.cells #[] 33)
            have own0 := own_none wB
            have hb0 := BW.out.size
            have BN := BW.out.trans (n1.mono hb0)
            have hbb := n1.size
            have hg10 := (n1.block wz.heap.size (Array.getElem?_eq_some_iff.1 hg10).1).trans hg10
            clear n1
            refine hK' _ _ (fun _ => ⟨(BN.cell (p := ⟨r, 0, none⟩) hrz).trans hS0.out.1, hS0.out.2.later BN hS0.out.2.lt⟩) ?_
            clear hK' K' BW
            simp only [Act.put, List.setIfInBounds_toArray, List.set_cons_succ, List.set_cons_zero]
            have BW := Lib.hid BN
            clear BN
            have hsA := Lib.hid (show (wB.alloc (.cells #[] 33)).heap.size = wB.heap.size + 1 by simp)
            generalize hnw : wB.alloc (.cells #[] 33) = wA at *
            clear hnw
            obtain ⟨v8, w8, run8, own8, b8, keep⟩ := run_append_slk own0 hbb (SLZ.out _ BW.out).1 (by rw [List.length_take]; simp only [List.length_nil]; have := HN.out; omega)
            rw [List.nil_append] at own8
            have BN := BW.out.trans (b8.mono hb0)
            have hbb := Nat.le_trans hbb b8.size
            have hg10 := (keep wz.heap.size (Array.getElem?_eq_some_iff.1 hg10).1 (by simp [Value.ownBlock]; try (first | (have := hsA.out; omega) | (have := hsB.out; omega) | omega))).trans hg10
            clear b8 keep own0
            refine AnyS.next (i := 8) rfl (by kernel_rfl) (by kernel_rfl) fun K' hK' => ?_
            refine want_yes (by kernel_rfl) ?_
            simp only [List.getElem_toArray, List.getElem_cons_succ, List.getElem_cons_zero]
            refine opIn_value _ (fun c h => by cases h) rfl (exec_append (s := .tmp 63) (x := .tmp 69) rfl rfl rfl run8) ?_
            refine hK' _ _ (fun _ => ⟨(BN.cell (p := ⟨r, 0, none⟩) hrz).trans hS0.out.1, hS0.out.2.later BN hS0.out.2.lt⟩) ?_
            clear hK' K' BW
            simp only [Act.put, List.setIfInBounds_toArray, List.set_cons_succ, List.set_cons_zero]
            have BW := Lib.hid BN
            clear BN
            clear run8
            obtain ⟨v11, w11, run11, own11, b11, -⟩ := run_append_slk own8 hbb (sl_box hg10) (by rw [List.length_take]; simp only [List.length_cons, List.length_nil]; have := HN.out; omega)
            have BN := BW.out.trans (b11.mono hb0)
            have hbb := Nat.le_trans hbb b11.size
            clear b11 own8 hg10
            refine AnyS.next (i := 11) rfl (by kernel_rfl) (by kernel_rfl) fun K' hK' => ?_
            refine want_yes (by kernel_rfl) ?_
            simp only [List.getElem_toArray, List.getElem_cons_succ, List.getElem_cons_zero]
            refine opIn_value _ (fun c h => by cases h) rfl (exec_append (s := .tmp 70) (x := .tmp 72) rfl rfl rfl run11) ?_
            refine hK' _ _ (fun _ => ⟨(BN.cell (p := ⟨r, 0, none⟩) hrz).trans hS0.out.1, hS0.out.2.later BN hS0.out.2.lt⟩) ?_
            clear hK' K' BW
            simp only [Act.put, List.setIfInBounds_toArray, List.set_cons_succ, List.set_cons_zero]
            have BW := Lib.hid BN
            clear BN
            clear run11
            obtain ⟨v18, w18, run18, own18, b18, -⟩ := run_append_slk own11 hbb (SLZ.out _ BW.out).2 (by simp only [List.length_append, List.length_take, List.length_drop, List.length_cons, List.length_nil]; have := HN.out; omega)
            rw [← HPL.out] at own18
            have h0 : 0 < (putC L c).length := by rw [HPL.out, List.length_append, List.length_append, List.length_singleton]; omega
            obtain ⟨g, cap2, rfl, -, -, -, -⟩ := rowW_own' own18 h0
            have BN := BW.out.trans (b18.mono hb0)
            clear b18 own11 hbb
            refine AnyS.next (i := 18) rfl (by kernel_rfl) (by kernel_rfl) fun K' hK' => ?_
            refine want_yes (by kernel_rfl) ?_
            simp only [List.getElem_toArray, List.getElem_cons_succ, List.getElem_cons_zero]
            refine opIn_value _ (fun c h => by cases h) rfl (exec_append (s := .tmp 73) (x := .tmp 79) rfl rfl rfl run18) ?_
            refine hK' _ _ (fun _ => ⟨(BN.cell (p := ⟨r, 0, none⟩) hrz).trans hS0.out.1, hS0.out.2.later BN hS0.out.2.lt⟩) ?_
            clear hK' K' BW
            simp only [Act.put, List.setIfInBounds_toArray, List.set_cons_succ, List.set_cons_zero]
            have BW := Lib.hid BN
            clear BN
            clear run18
            have hr18 : w18.heap[r]? = some (.cells #[.slice none 0 0] 29 (0, 0)) := (BW.out.block r hrz).trans hx1.out
            have c18 : w18.cell? ⟨r, 0, none⟩ = some (.slice none 0 0) := by simp [World.cell?, hr18]
            have f18 : w18.frozen? ⟨r, 0, none⟩ = false := by simp [World.frozen?, hr18]
            have hS : w18.cell? ⟨r, 0, none⟩ = some (.slice none 0 0) ∧ CeAt w.heap.size c w18 := ⟨c18, hS0.out.2.later BW.out hS0.out.2.lt⟩
            have HMK := Lib.hid (RefM.make hr18 own18 (Nat.lt_of_lt_of_le hrz hb0) h0)
            have HS := Lib.hid hS
            clear hr18 own18 h0 hS
            generalize (putC L c).length = nn at *
            refine AnyS.next (i := 19) rfl (by kernel_rfl) (by kernel_rfl) fun K' hK' => ?_
            refine want_yes (by kernel_rfl) ?_
            go_simp
            refine hK' _ _ (fun _ => HS.out) ?_
            clear hK' K'
            simp only [Act.put, List.setIfInBounds_toArray, List.set_cons_succ, List.set_cons_zero]
            refine AnyS.next (i := 20) rfl (by kernel_rfl) (by kernel_rfl) fun K' hK' => ?_
            refine want_yes (by kernel_rfl) ?_
            go_simp
            refine hK' _ _ (fun _ => HS.out) ?_
            clear hK' K'
            simp only [Act.put, List.setIfInBounds_toArray, List.set_cons_succ, List.set_cons_zero]
            refine AnyS.next (i := 21) rfl (by kernel_rfl) (by kernel_rfl) fun K' hK' => ?_
            refine want_yes (by kernel_rfl) ?_
            go_simp
            refine hK' _ _ (fun h => by cases h) ?_
            clear hK' K'
            refine AnyS.done (by kernel_rfl) ?_ _
            have B18 := BZ.out.trans (BW.out.mono BZ.out.size)
            have hzz := BZ.out.size
            clear BZ BW HS SLZ hS0 c18 f18 hx1
            go_wp2_with fail
            go_ret
            obtain ⟨g2, hg2, MK⟩ := HMK.out
            refine ⟨rfl, [r, g2], MK, fun x hx => ?_, (Fr.of_below B18).set ⟨r, 0, none⟩ (.inl H3.out.1) _⟩
            rcases List.mem_cons.1 hx with rfl | hx
            · exact .inl H3.out.1
            · obtain rfl : x = g2 := by simpa using hx
              exact .inr (by omega)
        · subst hA
          go_wp2_with fail
          refine wp_region_more (by kernel_rfl) (by kernel_rfl) ?_
          repeat (go_big_quiet_step (fail))
          refine wpQuiet_nil ?_
          rintro _ ⟨ex, rfl⟩
          have b3 := World.below_more wr ex
          have B3 := btP B2 b3
          have Q3 := HC0.out.2.later b3 HC0.out.2.lt
          have hcr3 : (wr.more ex).cell? ⟨r, 0, none⟩ = some (.slice (some ⟨b, o, none⟩) k cap) := (b3.cell (p := ⟨r, 0, none⟩) hrl2).trans hcr2
          have hrl3 : r < (wr.more ex).heap.size := Nat.lt_of_lt_of_le hrl2 b3.size
          generalize wr.more ex = w3 at *
          clear b3 hcr2 B2 hrl2
          have HC3 := Lib.hid (And.intro B3 Q3)
          clear Q3
          go_wp2_with fail
          refine wp_region_more (by kernel_rfl) (by kernel_rfl) ?_
          repeat (go_big_quiet_step (fail))
          refine wpQuiet_nil ?_
          rintro _ ⟨ex, rfl⟩
          have b4 := World.below_more w3 ex
          have B8 := btP HC3.out.1 b4
          have Q8 := HC3.out.2.later b4 HC3.out.2.lt
          generalize w3.more ex = wc at *
          clear b4 B3 hrl3 hcr3
          have HW8 := Lib.hid (And.intro ((B8.block r hrl).trans H1.out) Q8)
          obtain ⟨A2, hA2⟩ : ∃ A2, (if cap = k then some (⟨b, o, none⟩ : Addr) else some ⟨b, o + k * 3, none⟩) = A2 := ⟨_, rfl⟩
          have SLS := Lib.hid (fun W' (hb : Below wc.heap.size wc W') => And.intro (show SlAt (.slice (some ⟨b, o, none⟩) k cap) (L.take k) W' by
              rcases Nat.eq_zero_or_pos k with h0 | h0
              · subst h0
                exact ⟨_, cap, rfl, by simp, H5.out, fun h => absurd h (by simp)⟩
              · obtain ⟨b', o', e, -, hrow⟩ := H7.out h0
                cases e
                have hrow2 := hrow.later (B8.trans (hb.mono B8.size)) hrow.1
                exact hrow2.takeSl (by rw [HN.out]; exact Nat.le_refl _) (by rw [HN.out]; exact h4) H5.out)
            (show SlAt (.slice A2 0 (cap - k)) (L.drop k) W' by
              have hd : L.drop k = [] := List.drop_eq_nil_of_le (by rw [HN.out]; exact Nat.le_refl _)
              rw [hd]
              exact ⟨A2, cap - k, rfl, Nat.zero_le _, Nat.le_trans (Nat.sub_le _ _) H5.out, fun h => absurd h (by simp)⟩))
          have hkk : k - k = 0 := Nat.sub_self k
          clear Q8 HC0 HC3
          go_wp2_with fail
          have hB := Below.drew (Below.refl wc.heap.size wc)
          have hx1 := Lib.hid (show wc.drew.heap[r]? = some (.cells #[.slice (some ⟨b, o, none⟩) k cap] 29 (0, 0)) from HW8.out.1)
          have hS : wc.drew.cell? ⟨r, 0, none⟩ = some (.slice (some ⟨b, o, none⟩) k cap) ∧ CeAt w.heap.size c wc.drew := ⟨by have := hx1.out; simp [World.cell?, this], HW8.out.2⟩
          have BZ := Lib.hid (Below.drew B8)
          have SLZ := Lib.hid (fun W' (hb : Below wc.heap.size wc.drew W') => SLS.out W' (hB.trans hb))
          have hrz : r < wc.drew.heap.size := (Array.getElem?_eq_some_iff.1 hx1.out).1
          clear hB HW8 B8 SLS
          refine (wpIn_wide (n := 5)).1 ?_
          refine wpIn_region_lit_late (fun w' => w'.cell? ⟨r, 0, none⟩ = some (.slice (some ⟨b, o, none⟩) k cap) ∧ CeAt w.heap.size c w') (fun j => j == 21) (k := 22) (listed := #[false, false, false, false, false, false, false, false, false, false, false, false, false, false, false, false, false, false, false, false, false, false]) (by kernel_rfl) (by kernel_rfl) (by kernel_rfl) ?_
          have hzs : wc.drew.heap.size = wc.heap.size := rfl
          rw [← hzs] at SLZ
          clear hzs
          generalize wc.drew = wz at *
          refine AnyS.get (i := 0) (some 62) ?_ rfl rfl (by kernel_rfl) (by kernel_rfl) (by kernel_rfl) (by kernel_rfl) (fun _ _ _ h => h) (Reads.yes (by kernel_rfl) ?_ (fun _ => rfl)) hS ?_
          rotate_left
          · intro w' hw'
            go_simp
            with_reducible rfl
          simp only [Act.put, List.setIfInBounds_toArray, List.set_cons_succ, List.set_cons_zero]
          refine AnyS.get (i := 2) (some 64) ?_ rfl rfl (by kernel_rfl) (by kernel_rfl) (by kernel_rfl) (by kernel_rfl) (fun _ _ _ h => h) (Reads.yes (by kernel_rfl) ?_ (fun _ => rfl)) hS ?_
          rotate_left
          · intro w' hw'
            go_simp
            with_reducible rfl
          simp only [Act.put, List.setIfInBounds_toArray, List.set_cons_succ, List.set_cons_zero]
          refine AnyS.get (i := 3) (some 65) ?_ rfl rfl (by kernel_rfl) (by kernel_rfl) (by kernel_rfl) (by kernel_rfl) (fun _ _ _ h => h) (Reads.yes (by kernel_rfl) ?_ (fun _ => rfl)) hS ?_
          rotate_left
          · intro w' hw'
            go_simp
            with_reducible rfl
          simp only [Act.put, List.setIfInBounds_toArray, List.set_cons_succ, List.set_cons_zero]
          refine AnyS.get (i := 4) (some 66) ?_ rfl rfl (by kernel_rfl) (by kernel_rfl) (by kernel_rfl) (by kernel_rfl) (fun _ _ _ h => h) (Reads.yes (by kernel_rfl) ?_ (fun _ => rfl)) hS ?_
          rotate_left
          · intro w' hw'
            go_simp
            with_reducible rfl
          simp only [Act.put, List.setIfInBounds_toArray, List.set_cons_succ, List.set_cons_zero]
          refine AnyS.get (i := 5) (some 67) ?_ rfl rfl (by kernel_rfl) (by kernel_rfl) (by kernel_rfl) (by kernel_rfl) (fun _ _ _ h => h) (Reads.yes (by kernel_rfl) ?_ (fun _ => rfl)) hS ?_
          rotate_left
          · intro w' hw'
            obtain ⟨t1, t2⟩ := hw'; obtain ⟨t3, t4, t5⟩ := t2.cell; clear t2
            go_simp
            with_reducible rfl
          simp only [Act.put, List.setIfInBounds_toArray, List.set_cons_succ, List.set_cons_zero]
          refine AnyS.get (i := 6) (some 68) ?_ rfl rfl (by kernel_rfl) (by kernel_rfl) (by kernel_rfl) (by kernel_rfl) (fun _ _ _ h => h) (Reads.yes (by kernel_rfl) ?_ (fun _ => rfl)) hS ?_
          rotate_left
          · intro w' hw'
            go_simp
            with_reducible rfl
          simp only [Act.put, List.setIfInBounds_toArray, List.set_cons_succ, List.set_cons_zero]
          refine AnyS.get (i := 7) (some 69) ?_ rfl rfl (by kernel_rfl) (by kernel_rfl) (by kernel_rfl) (by kernel_rfl) (fun _ _ _ h => h) (Reads.yes (by kernel_rfl) ?_ (fun _ => rfl)) hS ?_
          rotate_left
          · intro w' hw'
            go_simp
            with_reducible rfl
          simp only [Act.put, List.setIfInBounds_toArray, List.set_cons_succ, List.set_cons_zero]
          refine AnyS.get (i := 9) (some 71) ?_ rfl rfl (by kernel_rfl) (by kernel_rfl) (by kernel_rfl) (by kernel_rfl) (fun _ _ _ h => h) (Reads.yes (by kernel_rfl) ?_ (fun _ => rfl)) hS ?_
          rotate_left
          · intro w' hw'
            obtain ⟨t1, t2⟩ := hw'; obtain ⟨t3, t4, t5⟩ := t2.cell; clear t2
            go_simp
            with_reducible rfl
          simp only [Act.put, List.setIfInBounds_toArray, List.set_cons_succ, List.set_cons_zero]
          refine AnyS.get (i := 12) (some 74) ?_ rfl rfl (by kernel_rfl) (by kernel_rfl) (by kernel_rfl) (by kernel_rfl) (fun _ _ _ h => h) (Reads.yes (by kernel_rfl) ?_ (fun _ => rfl)) hS ?_
          rotate_left
          · intro w' hw'
            go_simp
            with_reducible rfl
          simp only [Act.put, List.setIfInBounds_toArray, List.set_cons_succ, List.set_cons_zero]
          refine AnyS.get (i := 13) (some 75) ?_ rfl rfl (by kernel_rfl) (by kernel_rfl) (by kernel_rfl) (by kernel_rfl) (fun _ _ _ h => h) (Reads.yes (by kernel_rfl) ?_ (fun _ => rfl)) hS ?_
          rotate_left
          · intro w' hw'
            go_simp
            with_reducible rfl
          simp only [Act.put, List.setIfInBounds_toArray, List.set_cons_succ, List.set_cons_zero]
          refine AnyS.get (i := 14) (some 76) ?_ rfl rfl (by kernel_rfl) (by kernel_rfl) (by kernel_rfl) (by kernel_rfl) (fun _ _ _ h => h) (Reads.yes (by kernel_rfl) ?_ (fun _ => rfl)) hS ?_
          rotate_left
          · intro w' hw'
            go_simp
            with_reducible rfl
          simp only [Act.put, List.setIfInBounds_toArray, List.set_cons_succ, List.set_cons_zero]
          refine AnyS.get (i := 15) (some 77) ?_ rfl rfl (by kernel_rfl) (by kernel_rfl) (by kernel_rfl) (by kernel_rfl) (fun _ _ _ h => h) (Reads.yes (by kernel_rfl) ?_ (fun _ => rfl)) hS ?_
          rotate_left
          · intro w' hw'
            obtain ⟨t1, t2⟩ := hw'; obtain ⟨t3, t4, t5⟩ := t2.cell; clear t2
            go_simp
            with_reducible rfl
          simp only [Act.put, List.setIfInBounds_toArray, List.set_cons_succ, List.set_cons_zero]
          refine AnyS.get (i := 16) (some 78) ?_ rfl rfl (by kernel_rfl) (by kernel_rfl) (by kernel_rfl) (by kernel_rfl) (fun _ _ _ h => h) (Reads.yes (by kernel_rfl) ?_ (fun _ => rfl)) hS ?_
          rotate_left
          · intro w' hw'
            go_simp
            with_reducible rfl
          simp only [Act.put, List.setIfInBounds_toArray, List.set_cons_succ, List.set_cons_zero]
          refine AnyS.get (i := 17) (some 79) ?_ rfl rfl (by kernel_rfl) (by kernel_rfl) (by kernel_rfl) (by kernel_rfl) (fun _ _ _ h => h) (Reads.yes (by kernel_rfl) ?_ (fun _ => rfl)) hS ?_
          rotate_left
          · intro w' hw'
            go_simp
            with_reducible rfl
          simp only [Act.put, List.setIfInBounds_toArray, List.set_cons_succ, List.set_cons_zero]
          have hS0 := Lib.hid hS
          clear hS
          have BW := Lib.hid (Below.refl wz.heap.size wz)
          refine AnyS.two (i := 1) (j := 10) rfl rfl (by kernel_rfl) (by kernel_rfl) (fun K' hK' => ?_) (fun K' hK' => ?_)
          · refine want_yes (by kernel_rfl) ?_
            go_simp
            have n1 := (Below.refl wz.heap.size wz).alloc (Nat.le_refl _) (.cells #[] 33)
            have own0 := own_none wz
            have hb0 := BW.out.size
            have BN := BW.out.trans (n1.mono hb0)
            have hbb := n1.size
            clear n1
            refine hK' _ _ (fun _ => ⟨(BN.cell (p := ⟨r, 0, none⟩) hrz).trans hS0.out.1, hS0.out.2.later BN hS0.out.2.lt⟩) ?_
            clear hK' K' BW
            simp only [Act.put, List.setIfInBounds_toArray, List.set_cons_succ, List.set_cons_zero]
            have BW := Lib.hid BN
            clear BN
            have hsA := Lib.hid (show (wz.alloc (.cells #[] 33)).heap.size = wz.heap.size + 1 by simp)
            generalize hnw : wz.alloc (.cells #[] 33) = wA at *
            clear hnw
            refine AnyS.two (i := 8) (j := 10) rfl rfl (by kernel_rfl) (by kernel_rfl) (fun K' hK' => ?_) (fun K' hK' => ?_)
            · obtain ⟨v8, w8, run8, own8, b8, keep⟩ := run_append_slk own0 hbb (SLZ.out _ BW.out).1 (by rw [List.length_take]; simp only [List.length_nil]; have := HN.out; omega)
              rw [List.nil_append] at own8
              have BN := BW.out.trans (b8.mono hb0)
              have hbb := Nat.le_trans hbb b8.size
              clear b8 keep own0
              refine want_yes (by kernel_rfl) ?_
              simp only [List.getElem_toArray, List.getElem_cons_succ, List.getElem_cons_zero]
              refine opIn_value _ (fun c h => by cases h) rfl (exec_append (s := .tmp 63) (x := .tmp 69) rfl rfl rfl run8) ?_
              refine hK' _ _ (fun _ => ⟨(BN.cell (p := ⟨r, 0, none⟩) hrz).trans hS0.out.1, hS0.out.2.later BN hS0.out.2.lt⟩) ?_
              clear hK' K' BW
              simp only [Act.put, List.setIfInBounds_toArray, List.set_cons_succ, List.set_cons_zero]
              have BW := Lib.hid BN
              clear BN
              clear run8
              refine AnyS.next (i := 10) rfl (by kernel_rfl) (by kernel_rfl) fun K' hK' => ?_
              refine want_yes (by kernel_rfl) ?_
              go_simp
              have n2 := (Below.refl w8.heap.size w8).alloc (Nat.le_refl _) (boxC c)
              have hg10 : (w8.alloc (boxC c)).heap[w8.heap.size]? = some (boxC c) := heap_alloc_new w8 _
              have BN := BW.out.trans (n2.mono BW.out.size)
              have own8 := own_lat own8 n2
              have hbb := Nat.le_trans hbb n2.size
              clear n2
              unfold boxC at *
              refine hK' _ _ (fun _ => ⟨(BN.cell (p := ⟨r, 0, none⟩) hrz).trans hS0.out.1, hS0.out.2.later BN hS0.out.2.lt⟩) ?_
              clear hK' K' BW
              simp only [Act.put, List.setIfInBounds_toArray, List.set_cons_succ, List.set_cons_zero]
              have BW := Lib.hid BN
              clear BN
              have hsB := Lib.hid (show (w8.alloc (.cells #[.string ⟨c.k.toArray⟩, .int .i64 c.q, .string ⟨c.v.toArray⟩] 33)).heap.size = w8.heap.size + 1 by simp)
              generalize hnw : w8.alloc _ = wB at *
              clear hnw
              obtain ⟨v11, w11, run11, own11, b11, -⟩ := run_append_slk own8 hbb (sl_box hg10) (by rw [List.length_take]; simp only [List.length_cons, List.length_nil]; have := HN.out; omega)
              have BN := BW.out.trans (b11.mono hb0)
              have hbb := Nat.le_trans hbb b11.size
              clear b11 own8 hg10
              refine AnyS.next (i := 11) rfl (by kernel_rfl) (by kernel_rfl) fun K' hK' => ?_
              refine want_yes (by kernel_rfl) ?_
              simp only [List.getElem_toArray, List.getElem_cons_succ, List.getElem_cons_zero]
              refine opIn_value _ (fun c h => by cases h) rfl (exec_append (s := .tmp 70) (x := .tmp 72) rfl rfl rfl run11) ?_
              refine hK' _ _ (fun _ => ⟨(BN.cell (p := ⟨r, 0, none⟩) hrz).trans hS0.out.1, hS0.out.2.later BN hS0.out.2.lt⟩) ?_
              clear hK' K' BW
              simp only [Act.put, List.setIfInBounds_toArray, List.set_cons_succ, List.set_cons_zero]
              have BW := Lib.hid BN
              clear BN
              clear run11
              obtain ⟨v18, w18, run18, own18, b18, -⟩ := run_append_slk own11 hbb (SLZ.out _ BW.out).2 (by simp only [List.length_append, List.length_take, List.length_drop, List.length_cons, List.length_nil]; have := HN.out; omega)
              rw [← HPL.out] at own18
              have h0 : 0 < (putC L c).length := by rw [HPL.out, List.length_append, List.length_append, List.length_singleton]; omega
              obtain ⟨g, cap2, rfl, -, -, -, -⟩ := rowW_own' own18 h0
              have BN := BW.out.trans (b18.mono hb0)
              clear b18 own11 hbb
              refine AnyS.next (i := 18) rfl (by kernel_rfl) (by kernel_rfl) fun K' hK' => ?_
              refine want_yes (by kernel_rfl) ?_
              simp only [List.getElem_toArray, List.getElem_cons_succ, List.getElem_cons_zero]
              refine opIn_value _ (fun c h => by cases h) rfl (exec_append (s := .tmp 73) (x := .tmp 79) rfl rfl rfl run18) ?_
              refine hK' _ _ (fun _ => ⟨(BN.cell (p := ⟨r, 0, none⟩) hrz).trans hS0.out.1, hS0.out.2.later BN hS0.out.2.lt⟩) ?_
              clear hK' K' BW
              simp only [Act.put, List.setIfInBounds_toArray, List.set_cons_succ, List.set_cons_zero]
              have BW := Lib.hid BN
              clear BN
              clear run18
              have hr18 : w18.heap[r]? = some (.cells #[.slice (some ⟨b, o, none⟩) k cap] 29 (0, 0)) := (BW.out.block r hrz).trans hx1.out
              have c18 : w18.cell? ⟨r, 0, none⟩ = some (.slice (some ⟨b, o, none⟩) k cap) := by simp [World.cell?, hr18]
              have f18 : w18.frozen? ⟨r, 0, none⟩ = false := by simp [World.frozen?, hr18]
              have hS : w18.cell? ⟨r, 0, none⟩ = some (.slice (some ⟨b, o, none⟩) k cap) ∧ CeAt w.heap.size c w18 := ⟨c18, hS0.out.2.later BW.out hS0.out.2.lt⟩
              have HMK := Lib.hid (RefM.make hr18 own18 (Nat.lt_of_lt_of_le hrz hb0) h0)
              have HS := Lib.hid hS
              clear hr18 own18 h0 hS
              generalize (putC L c).length = nn at *
              refine AnyS.next (i := 19) rfl (by kernel_rfl) (by kernel_rfl) fun K' hK' => ?_
              refine want_yes (by kernel_rfl) ?_
              go_simp
              refine hK' _ _ (fun _ => HS.out) ?_
              clear hK' K'
              simp only [Act.put, List.setIfInBounds_toArray, List.set_cons_succ, List.set_cons_zero]
              refine AnyS.next (i := 20) rfl (by kernel_rfl) (by kernel_rfl) fun K' hK' => ?_
              refine want_yes (by kernel_rfl) ?_
              go_simp
              refine hK' _ _ (fun _ => HS.out) ?_
              clear hK' K'
              simp only [Act.put, List.setIfInBounds_toArray, List.set_cons_succ, List.set_cons_zero]
              refine AnyS.next (i := 21) rfl (by kernel_rfl) (by kernel_rfl) fun K' hK' => ?_
              refine want_yes (by kernel_rfl) ?_
              go_simp
              refine hK' _ _ (fun h => by cases h) ?_
              clear hK' K'
              refine AnyS.done (by kernel_rfl) ?_ _
              have B18 := BZ.out.trans (BW.out.mono BZ.out.size)
              have hzz := BZ.out.size
              clear BZ BW HS SLZ hS0 c18 f18 hx1
              go_wp2_with fail
              go_ret
              obtain ⟨g2, hg2, MK⟩ := HMK.out
              refine ⟨rfl, [r, g2], MK, fun x hx => ?_, (Fr.of_below B18).set ⟨r, 0, none⟩ (.inl H3.out.1) _⟩
              rcases List.mem_cons.1 hx with rfl | hx
              · exact .inl H3.out.1
              · obtain rfl : x = g2 := by simpa using hx
                exact .inr (by omega)
            · refine want_yes (by kernel_rfl) ?_
              go_simp
              have n2 := (Below.refl wA.heap.size wA).alloc (Nat.le_refl _) (boxC c)
              have hg10 : (wA.alloc (boxC c)).heap[wA.heap.size]? = some (boxC c) := heap_alloc_new wA _
              have BN := BW.out.trans (n2.mono BW.out.size)
              have own0 := own_lat own0 n2
              have hbb := Nat.le_trans hbb n2.size
              clear n2
              unfold boxC at *
              refine hK' _ _ (fun _ => ⟨(BN.cell (p := ⟨r, 0, none⟩) hrz).trans hS0.out.1, hS0.out.2.later BN hS0.out.2.lt⟩) ?_
              clear hK' K' BW
              simp only [Act.put, List.setIfInBounds_toArray, List.set_cons_succ, List.set_cons_zero]
              have BW := Lib.hid BN
              clear BN
              have hsB := Lib.hid (show (wA.alloc (.cells #[.string ⟨c.k.toArray⟩, .int .i64 c.q, .string ⟨c.v.toArray⟩] 33)).heap.size = wA.heap.size + 1 by simp)
              generalize hnw : wA.alloc _ = wB at *
              clear hnw
              obtain ⟨v8, w8, run8, own8, b8, keep⟩ := run_append_slk own0 hbb (SLZ.out _ BW.out).1 (by rw [List.length_take]; simp only [List.length_nil]; have := HN.out; omega)
              rw [List.nil_append] at own8
              have BN := BW.out.trans (b8.mono hb0)
              have hbb := Nat.le_trans hbb b8.size
              have hg10 := (keep wA.heap.size (Array.getElem?_eq_some_iff.1 hg10).1 (by simp [Value.ownBlock]; try (first | (have := hsA.out; omega) | (have := hsB.out; omega) | omega))).trans hg10
              clear b8 keep own0
              refine AnyS.next (i := 8) rfl (by kernel_rfl) (by kernel_rfl) fun K' hK' => ?_
              refine want_yes (by kernel_rfl) ?_
              simp only [List.getElem_toArray, List.getElem_cons_succ, List.getElem_cons_zero]
              refine opIn_value _ (fun c h => by cases h) rfl (exec_append (s := .tmp 63) (x := .tmp 69) rfl rfl rfl run8) ?_
              refine hK' _ _ (fun _ => ⟨(BN.cell (p := ⟨r, 0, none⟩) hrz).trans hS0.out.1, hS0.out.2.later BN hS0.out.2.lt⟩) ?_
              clear hK' K' BW
              simp only [Act.put, List.setIfInBounds_toArray, List.set_cons_succ, List.set_cons_zero]
              have BW := Lib.hid BN
              clear BN
              clear run8
              obtain ⟨v11, w11, run11, own11, b11, -⟩ := run_append_slk own8 hbb (sl_box hg10) (by rw [List.length_take]; simp only [List.length_cons, List.length_nil]; have := HN.out; omega)
              have BN := BW.out.trans (b11.mono hb0)
              have hbb := Nat.le_trans hbb b11.size
              clear b11 own8 hg10
              refine AnyS.next (i := 11) rfl (by kernel_rfl) (by kernel_rfl) fun K' hK' => ?_
              refine want_yes (by kernel_rfl) ?_
              simp only [List.getElem_toArray, List.getElem_cons_succ, List.getElem_cons_zero]
              refine opIn_value _ (fun c h => by cases h) rfl (exec_append (s := .tmp 70) (x := .tmp 72) rfl rfl rfl run11) ?_
              refine hK' _ _ (fun _ => ⟨(BN.cell (p := ⟨r, 0, none⟩) hrz).trans hS0.out.1, hS0.out.2.later BN hS0.out.2.lt⟩) ?_
              clear hK' K' BW
              simp only [Act.put, List.setIfInBounds_toArray, List.set_cons_succ, List.set_cons_zero]
              have BW := Lib.hid BN
              clear BN
              clear run11
              obtain ⟨v18, w18, run18, own18, b18, -⟩ := run_append_slk own11 hbb (SLZ.out _ BW.out).2 (by simp only [List.length_append, List.length_take, List.length_drop, List.length_cons, List.length_nil]; have := HN.out; omega)
              rw [← HPL.out] at own18
              have h0 : 0 < (putC L c).length := by rw [HPL.out, List.length_append, List.length_append, List.length_singleton]; omega
              obtain ⟨g, cap2, rfl, -, -, -, -⟩ := rowW_own' own18 h0
              have BN := BW.out.trans (b18.mono hb0)
              clear b18 own11 hbb
              refine AnyS.next (i := 18) rfl (by kernel_rfl) (by kernel_rfl) fun K' hK' => ?_
              refine want_yes (by kernel_rfl) ?_
              simp only [List.getElem_toArray, List.getElem_cons_succ, List.getElem_cons_zero]
              refine opIn_value _ (fun c h => by cases h) rfl (exec_append (s := .tmp 73) (x := .tmp 79) rfl rfl rfl run18) ?_
              refine hK' _ _ (fun _ => ⟨(BN.cell (p := ⟨r, 0, none⟩) hrz).trans hS0.out.1, hS0.out.2.later BN hS0.out.2.lt⟩) ?_
              clear hK' K' BW
              simp only [Act.put, List.setIfInBounds_toArray, List.set_cons_succ, List.set_cons_zero]
              have BW := Lib.hid BN
              clear BN
              clear run18
              have hr18 : w18.heap[r]? = some (.cells #[.slice (some ⟨b, o, none⟩) k cap] 29 (0, 0)) := (BW.out.block r hrz).trans hx1.out
              have c18 : w18.cell? ⟨r, 0, none⟩ = some (.slice (some ⟨b, o, none⟩) k cap) := by simp [World.cell?, hr18]
              have f18 : w18.frozen? ⟨r, 0, none⟩ = false := by simp [World.frozen?, hr18]
              have hS : w18.cell? ⟨r, 0, none⟩ = some (.slice (some ⟨b, o, none⟩) k cap) ∧ CeAt w.heap.size c w18 := ⟨c18, hS0.out.2.later BW.out hS0.out.2.lt⟩
              have HMK := Lib.hid (RefM.make hr18 own18 (Nat.lt_of_lt_of_le hrz hb0) h0)
              have HS := Lib.hid hS
              clear hr18 own18 h0 hS
              generalize (putC L c).length = nn at *
              refine AnyS.next (i := 19) rfl (by kernel_rfl) (by kernel_rfl) fun K' hK' => ?_
              refine want_yes (by kernel_rfl) ?_
              go_simp
              refine hK' _ _ (fun _ => HS.out) ?_
              clear hK' K'
              simp only [Act.put, List.setIfInBounds_toArray, List.set_cons_succ, List.set_cons_zero]
              refine AnyS.next (i := 20) rfl (by kernel_rfl) (by kernel_rfl) fun K' hK' => ?_
              refine want_yes (by kernel_rfl) ?_
              go_simp
              refine hK' _ _ (fun _ => HS.out) ?_
              clear hK' K'
              simp only [Act.put, List.setIfInBounds_toArray, List.set_cons_succ, List.set_cons_zero]
              refine AnyS.next (i := 21) rfl (by kernel_rfl) (by kernel_rfl) fun K' hK' => ?_
              refine want_yes (by kernel_rfl) ?_
              go_simp
              refine hK' _ _ (fun h => by cases h) ?_
              clear hK' K'
              refine AnyS.done (by kernel_rfl) ?_ _
              have B18 := BZ.out.trans (BW.out.mono BZ.out.size)
              have hzz := BZ.out.size
              clear BZ BW HS SLZ hS0 c18 f18 hx1
              go_wp2_with fail
              go_ret
              obtain ⟨g2, hg2, MK⟩ := HMK.out
              refine ⟨rfl, [r, g2], MK, fun x hx => ?_, (Fr.of_below B18).set ⟨r, 0, none⟩ (.inl H3.out.1) _⟩
              rcases List.mem_cons.1 hx with rfl | hx
              · exact .inl H3.out.1
              · obtain rfl : x = g2 := by simpa using hx
                exact .inr (by omega)
          · refine want_yes (by kernel_rfl) ?_
            go_simp
            have n2 := (Below.refl wz.heap.size wz).alloc (Nat.le_refl _) (boxC c)
            have hg10 : (wz.alloc (boxC c)).heap[wz.heap.size]? = some (boxC c) := heap_alloc_new wz _
            have BN := BW.out.trans (n2.mono BW.out.size)
            clear n2
            unfold boxC at *
            refine hK' _ _ (fun _ => ⟨(BN.cell (p := ⟨r, 0, none⟩) hrz).trans hS0.out.1, hS0.out.2.later BN hS0.out.2.lt⟩) ?_
            clear hK' K' BW
            simp only [Act.put, List.setIfInBounds_toArray, List.set_cons_succ, List.set_cons_zero]
            have BW := Lib.hid BN
            clear BN
            have hsB := Lib.hid (show (wz.alloc (.cells #[.string ⟨c.k.toArray⟩, .int .i64 c.q, .string ⟨c.v.toArray⟩] 33)).heap.size = wz.heap.size + 1 by simp)
            generalize hnw : wz.alloc _ = wB at *
            clear hnw
            refine AnyS.next (i := 1) rfl (by kernel_rfl) (by kernel_rfl) fun K' hK' => ?_
            refine want_yes (by kernel_rfl) ?_
            go_simp
            have n1 := (Below.refl wB.heap.size wB).alloc (Nat.le_refl _) (.cells #[] 33)
            have own0 := own_none wB
            have hb0 := BW.out.size
            have BN := BW.out.trans (n1.mono hb0)
            have hbb := n1.size
            have hg10 := (n1.block wz.heap.size (Array.getElem?_eq_some_iff.1 hg10).1).trans hg10
            clear n1
            refine hK' _ _ (fun _ => ⟨(BN.cell (p := ⟨r, 0, none⟩) hrz).trans hS0.out.1, hS0.out.2.later BN hS0.out.2.lt⟩) ?_
            clear hK' K' BW
            simp only [Act.put, List.setIfInBounds_toArray, List.set_cons_succ, List.set_cons_zero]
            have BW := Lib.hid BN
            clear BN
            have hsA := Lib.hid (show (wB.alloc (.cells #[] 33)).heap.size = wB.heap.size + 1 by simp)
            generalize hnw : wB.alloc (.cells #[] 33) = wA at *
            clear hnw
            obtain ⟨v8, w8, run8, own8, b8, keep⟩ := run_append_slk own0 hbb (SLZ.out _ BW.out).1 (by rw [List.length_take]; simp only [List.length_nil]; have := HN.out; omega)
            rw [List.nil_append] at own8
            have BN := BW.out.trans (b8.mono hb0)
            have hbb := Nat.le_trans hbb b8.size
            have hg10 := (keep wz.heap.size (Array.getElem?_eq_some_iff.1 hg10).1 (by simp [Value.ownBlock]; try (first | (have := hsA.out; omega) | (have := hsB.out; omega) | omega))).trans hg10
            clear b8 keep own0
            refine AnyS.next (i := 8) rfl (by kernel_rfl) (by kernel_rfl) fun K' hK' => ?_
            refine want_yes (by kernel_rfl) ?_
            simp only [List.getElem_toArray, List.getElem_cons_succ, List.getElem_cons_zero]
            refine opIn_value _ (fun c h => by cases h) rfl (exec_append (s := .tmp 63) (x := .tmp 69) rfl rfl rfl run8) ?_
            refine hK' _ _ (fun _ => ⟨(BN.cell (p := ⟨r, 0, none⟩) hrz).trans hS0.out.1, hS0.out.2.later BN hS0.out.2.lt⟩) ?_
            clear hK' K' BW
            simp only [Act.put, List.setIfInBounds_toArray, List.set_cons_succ, List.set_cons_zero]
            have BW := Lib.hid BN
            clear BN
            clear run8
            obtain ⟨v11, w11, run11, own11, b11, -⟩ := run_append_slk own8 hbb (sl_box hg10) (by rw [List.length_take]; simp only [List.length_cons, List.length_nil]; have := HN.out; omega)
            have BN := BW.out.trans (b11.mono hb0)
            have hbb := Nat.le_trans hbb b11.size
            clear b11 own8 hg10
            refine AnyS.next (i := 11) rfl (by kernel_rfl) (by kernel_rfl) fun K' hK' => ?_
            refine want_yes (by kernel_rfl) ?_
            simp only [List.getElem_toArray, List.getElem_cons_succ, List.getElem_cons_zero]
            refine opIn_value _ (fun c h => by cases h) rfl (exec_append (s := .tmp 70) (x := .tmp 72) rfl rfl rfl run11) ?_
            refine hK' _ _ (fun _ => ⟨(BN.cell (p := ⟨r, 0, none⟩) hrz).trans hS0.out.1, hS0.out.2.later BN hS0.out.2.lt⟩) ?_
            clear hK' K' BW
            simp only [Act.put, List.setIfInBounds_toArray, List.set_cons_succ, List.set_cons_zero]
            have BW := Lib.hid BN
            clear BN
            clear run11
            obtain ⟨v18, w18, run18, own18, b18, -⟩ := run_append_slk own11 hbb (SLZ.out _ BW.out).2 (by simp only [List.length_append, List.length_take, List.length_drop, List.length_cons, List.length_nil]; have := HN.out; omega)
            rw [← HPL.out] at own18
            have h0 : 0 < (putC L c).length := by rw [HPL.out, List.length_append, List.length_append, List.length_singleton]; omega
            obtain ⟨g, cap2, rfl, -, -, -, -⟩ := rowW_own' own18 h0
            have BN := BW.out.trans (b18.mono hb0)
            clear b18 own11 hbb
            refine AnyS.next (i := 18) rfl (by kernel_rfl) (by kernel_rfl) fun K' hK' => ?_
            refine want_yes (by kernel_rfl) ?_
            simp only [List.getElem_toArray, List.getElem_cons_succ, List.getElem_cons_zero]
            refine opIn_value _ (fun c h => by cases h) rfl (exec_append (s := .tmp 73) (x := .tmp 79) rfl rfl rfl run18) ?_
            refine hK' _ _ (fun _ => ⟨(BN.cell (p := ⟨r, 0, none⟩) hrz).trans hS0.out.1, hS0.out.2.later BN hS0.out.2.lt⟩) ?_
            clear hK' K' BW
            simp only [Act.put, List.setIfInBounds_toArray, List.set_cons_succ, List.set_cons_zero]
            have BW := Lib.hid BN
            clear BN
            clear run18
            have hr18 : w18.heap[r]? = some (.cells #[.slice (some ⟨b, o, none⟩) k cap] 29 (0, 0)) := (BW.out.block r hrz).trans hx1.out
            have c18 : w18.cell? ⟨r, 0, none⟩ = some (.slice (some ⟨b, o, none⟩) k cap) := by simp [World.cell?, hr18]
            have f18 : w18.frozen? ⟨r, 0, none⟩ = false := by simp [World.frozen?, hr18]
            have hS : w18.cell? ⟨r, 0, none⟩ = some (.slice (some ⟨b, o, none⟩) k cap) ∧ CeAt w.heap.size c w18 := ⟨c18, hS0.out.2.later BW.out hS0.out.2.lt⟩
            have HMK := Lib.hid (RefM.make hr18 own18 (Nat.lt_of_lt_of_le hrz hb0) h0)
            have HS := Lib.hid hS
            clear hr18 own18 h0 hS
            generalize (putC L c).length = nn at *
            refine AnyS.next (i := 19) rfl (by kernel_rfl) (by kernel_rfl) fun K' hK' => ?_
            refine want_yes (by kernel_rfl) ?_
            go_simp
            refine hK' _ _ (fun _ => HS.out) ?_
            clear hK' K'
            simp only [Act.put, List.setIfInBounds_toArray, List.set_cons_succ, List.set_cons_zero]
            refine AnyS.next (i := 20) rfl (by kernel_rfl) (by kernel_rfl) fun K' hK' => ?_
            refine want_yes (by kernel_rfl) ?_
            go_simp
            refine hK' _ _ (fun _ => HS.out) ?_
            clear hK' K'
            simp only [Act.put, List.setIfInBounds_toArray, List.set_cons_succ, List.set_cons_zero]
            refine AnyS.next (i := 21) rfl (by kernel_rfl) (by kernel_rfl) fun K' hK' => ?_
            refine want_yes (by kernel_rfl) ?_
            go_simp
            refine hK' _ _ (fun h => by cases h) ?_
            clear hK' K'
            refine AnyS.done (by kernel_rfl) ?_ _
            have B18 := BZ.out.trans (BW.out.mono BZ.out.size)
            have hzz := BZ.out.size
            clear BZ BW HS SLZ hS0 c18 f18 hx1
            go_wp2_with fail
            go_ret
            obtain ⟨g2, hg2, MK⟩ := HMK.out
            refine ⟨rfl, [r, g2], MK, fun x hx => ?_, (Fr.of_below B18).set ⟨r, 0, none⟩ (.inl H3.out.1) _⟩
            rcases List.mem_cons.1 hx with rfl | hx
            · exact .inl H3.out.1
            · obtain rfl : x = g2 := by simpa using hx
              exact .inr (by omega)
end Go.Proofs.Ytpcapifjbhaeeaa
