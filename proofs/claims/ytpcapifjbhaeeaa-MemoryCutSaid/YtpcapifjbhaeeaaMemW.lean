/- The reference's Join; laid; memories beside one another. -/
import Derived.Test.YtpcapifjbhaeeaaMemV
namespace Go.Proofs.Ytpcapifjbhaeeaa
set_option maxRecDepth 16000
open Go.RowKit Spoor
set_option linter.unusedVariables false

theorem RefM.cell {r : Nat} {L : List Ce} {fs : List Nat} {w : World} (h : RefM r L fs w) : ∃ v, w.cell? ⟨r, 0, none⟩ = some v ∧ SlAt v L w ∧ r < w.heap.size := by
  obtain ⟨A', cap, e1, e2, e3, e4, e5, e6, e7⟩ := h
  exact ⟨.slice A' L.length cap, by simp [World.cell?, e1], ⟨A', cap, rfl, e4, e5, fun h0 => by obtain ⟨b, o, e, _, hr⟩ := e7 h0; exact ⟨b, o, e, hr⟩⟩, e3 r e2⟩
set_option maxRecDepth 100000 in
set_option maxHeartbeats 8000000 in
theorem refJoinM_any (ra : Nat) (La : List Ce) (fa : List Nat) (rb : Nat) (Lb : List Ce) (fb : List Nat) (w : World) (MA : RefM ra La fa w) (MB : RefM rb Lb fb w) (hri : Rise La) (hbig : La.length + Lb.length ≤ 900) (hf : ∀ c ∈ Lb, FitsC c) :
    Calls Try.prog 23 #[.pointer (some ⟨ra, 0, none⟩), .pointer (some ⟨rb, 0, none⟩)] w fun e w' => ∃ p fs, e = .returned (.pointer (some ⟨p, 0, none⟩)) ∧
      RefM p (putsC La Lb) fs w' ∧ (∀ x ∈ fs, w.heap.size ≤ x) ∧ Below w.heap.size w w' := by
  obtain ⟨va, ca, sa, hla⟩ := MA.cell
  obtain ⟨vb, cb, sb, hlb⟩ := MB.cell
  obtain ⟨Ab, capb, rfl, hb1, hb2, hb3⟩ := id sb
  obtain ⟨Aa, capa, rfl, ha1, ha2, -⟩ := id sa
  have FT := Lib.hid (fun k (hk : k < Lb.length) => getD_lt hf hk)
  have ST := Lib.hid (fun k => puts_short La Lb k)
  have RI := Lib.hid (fun k => puts_rise (l := Lb.take k) (acc := La) hri)
  have HB3 := Lib.hid hb3
  have hb2' : capb ≤ 9223372036854775807 := by unfold maxLen at hb2; omega
  have n1 := (Below.refl w.heap.size w).alloc (Nat.le_refl _) (.cells #[] 33)
  have ca1 := (n1.cell (p := ⟨ra, 0, none⟩) hla).trans ca
  obtain ⟨v8, w8, run8, own8, b8, -⟩ := run_append_slk (own_none w) n1.size (sa.later n1) (by simp only [List.length_nil]; omega)
  rw [List.nil_append] at own8
  have B8 := n1.trans b8
  obtain ⟨A8, c8, rfl, -⟩ := slAt_own own8
  have n9 := (Below.refl w8.heap.size w8).alloc (Nat.le_refl _) (.cells #[.slice A8 La.length c8] 29)
  have h9 := heap_alloc_new w8 (.cells #[.slice A8 La.length c8] 29)
  have R9 : ∃ gs, RefM w8.heap.size (putsC La (Lb.take 0)) gs (w8.alloc (.cells #[.slice A8 La.length c8] 29)) ∧ (∀ x ∈ gs, w.heap.size ≤ x) := by
    obtain ⟨fs, M9, hfs⟩ := RefM.of_own h9 (own_lat own8 n9)
    refine ⟨fs, M9, fun x hx => ?_⟩
    rcases hfs x hx with h | ⟨_, h⟩
    · rw [h]
      exact B8.size
    · exact h
  have HR9 := Lib.hid (And.intro R9 (B8.trans (n9.mono B8.size)))
  have RUN := Lib.hid run8
  obtain ⟨n, hn⟩ : ∃ n, Lb.length = n := ⟨_, rfl⟩
  obtain ⟨na, hna⟩ : ∃ na, La.length = na := ⟨_, rfl⟩
  have HN := Lib.hid (And.intro hn hna)
  rw [hn] at cb hb1 hbig
  rw [hna] at ca1 hbig
  rw [hna] at ca
  have HBIG := Lib.hid hbig
  have HCB := Lib.hid (And.intro cb hlb)
  clear sa sb own8 b8 n9 h9 R9 B8 run8 MA MB hri hf hb2 hb3 n1 hbig cb
  go_enter Try.func23, Try.ntmps23
  rw [hna] at RUN HR9
  clear hn hna
  go_wp2_with (at_builtin; refine wpList_append_runE _ rfl _ _ 22 22 rfl _ _ rfl rfl RUN.out ?_)
  clear ca ca1
  generalize w8.alloc _ = w9 at *
  obtain ⟨pm, hpm⟩ : ∃ pm, w8.heap.size = pm := ⟨_, rfl⟩
  rw [hpm] at HR9 ⊢
  clear RUN hpm w8
  go_loopw [6] (fun i wr => ∃ k : Nat, i = .int .i64 k ∧ k ≤ n ∧ Hid ((∃ gs, RefM pm (putsC La (Lb.take k)) gs wr ∧ (∀ x ∈ gs, w.heap.size ≤ x)) ∧ Below w.heap.size w wr)) (fun i _ => n - (intOf i).toNat)
  case atStart => exact ⟨0, rfl, by omega, HR9⟩
  case round =>
    obtain ⟨k, rfl, hk, HQ⟩ := hrel
    clear HR9
    have cb := (HQ.out.2.cell (p := ⟨rb, 0, none⟩) HCB.out.2).trans HCB.out.1
    by_cases hlt : k < n
    · have hkl : k < Lb.length := by rw [HN.out.1]; exact hlt
      obtain ⟨b, o, rfl, hrow⟩ := HB3.out (by omega)
      have hrow2 := hrow.later HQ.out.2 hrow.1
      obtain ⟨x0, x1, x2⟩ := hrow2.cells hkl
      obtain ⟨d, hd⟩ : ∃ d, Lb.getD k Ce.zero = d := ⟨_, rfl⟩
      have hfd : FitsC d := hd ▸ FT.out k hkl
      have hnext := puts_take (La := La) hkl
      rw [hd] at hnext x0 x1 x2
      obtain ⟨gs, R, hgs⟩ := HQ.out.1
      have pc := refPut_any pm _ gs d wr R (RI.out k) (by have := ST.out k; have := HBIG.out; obtain ⟨e1, e2⟩ := HN.out; omega) hfd
      have PC := Lib.hid pc
      have HG := Lib.hid (And.intro hgs (And.intro HQ.out.2 hnext))
      clear pc R hgs hrow hrow2 hd hfd hnext HQ
      unfold ceVal at PC
      go_wp2_with fail
      refine PC.out.mono ?_
      rintro e w5 ⟨rfl, gs', R', h4, f⟩
      generalize (if d.may = true then (0 : Int) else 2) = ee at *
      have hB := HG.out.2.1.trans (f.below HG.out.2.1.size (fun x hx => HG.out.1 x hx))
      have hg' : ∀ x ∈ gs', w.heap.size ≤ x := fun x hx => by
        rcases h4 x hx with h | h
        · exact HG.out.1 x h
        · have := HG.out.2.1.size
          omega
      rw [← HG.out.2.2] at R'
      have HX := Lib.hid (show (∃ gs, RefM pm (putsC La (Lb.take (k + 1))) gs w5 ∧ (∀ x ∈ gs, w.heap.size ≤ x)) ∧ Below w.heap.size w w5 from ⟨⟨gs', R', hg'⟩, hB⟩)
      clear R' h4 f hB hg' PC HG x0 x1 x2 cb
      go_wp2_with fail
      go_roundw
      case rel => exact ⟨k + 1, rfl, by omega, HX⟩
      case measure => simp [intOf]; omega
    · obtain rfl : k = n := by omega
      have HX := Lib.hid (show (∃ gs, RefM pm (putsC La Lb) gs wr ∧ (∀ x ∈ gs, w.heap.size ≤ x)) ∧ Below w.heap.size w wr by have := HQ.out; rwa [← HN.out.1, List.take_length] at this)
      clear HQ
      go_wp2_with fail
      go_ret
      obtain ⟨⟨gs, R, hg⟩, hB⟩ := HX.out
      exact ⟨pm, gs, rfl, R, hg, hB⟩
set_option maxRecDepth 100000 in
set_option maxHeartbeats 8000000 in
theorem laid_any (w : World) (v : Value) (l : List Ce) (hs : SlAt v l w) (hbig : l.length ≤ 200) (hf : ∀ c ∈ l, FitsC c) :
    Calls Try.prog 19 #[v] w fun e w' => ∃ p r, e = .returned (.tuple #[.pointer (some ⟨p, 0, none⟩), .pointer (some ⟨r, 0, none⟩)]) ∧ Two w.heap.size p r (putsC [] l) (putsC [] l) w w' := by
  obtain ⟨A, cap, rfl, hc1, hc2, hrow⟩ := hs
  have HF := Lib.hid (fun k (hk : k < l.length) => getD_lt hf hk)
  have HST := Lib.hid (fun k => puts_short [] l k)
  have HRI := Lib.hid (fun k => puts_rise (l := l.take k) (acc := []) (by simp [Rise]))
  have HR := Lib.hid (fun h0 => hrow h0)
  have hc3 : cap ≤ 9223372036854775807 := by unfold maxLen at hc2; omega
  obtain ⟨n, hn⟩ : ∃ n, l.length = n := ⟨_, rfl⟩
  have HN := Lib.hid hn
  rw [hn] at hc1 hbig
  go_enter Try.func19, Try.ntmps19
  rw [hn]
  clear hf hn hrow hc2
  go_wp2_with fail
  refine (newM_any _).mono ?_
  rintro e w2 ⟨rfl, M2, b2⟩
  have l2 := b2.size
  have nb := (Below.refl w2.heap.size w2).alloc (Nat.le_refl _) (.cells #[.slice none 0 0] 29)
  have hr := heap_alloc_new w2 (.cells #[.slice none 0 0] 29)
  have hpl := M2.lt
  have TW : Two w.heap.size w.heap.size w2.heap.size [] [] w (w2.alloc (.cells #[.slice none 0 0] 29)) :=
    ⟨[w.heap.size], [w2.heap.size], M2.later nb, ⟨none, 0, hr, by simp, by simp, Nat.le_refl _, Nat.zero_le _, fun _ => .inl ⟨rfl, rfl⟩, fun h => absurd h (by simp)⟩,
      fun x hx => by
        obtain rfl : x = w.heap.size := by simpa using hx
        have := hpl w.heap.size (by simp)
        exact ⟨Nat.le_refl _, by simp; omega⟩,
      fun x hx => by
        obtain rfl : x = w2.heap.size := by simpa using hx
        omega,
      b2.trans (nb.mono (by omega))⟩
  obtain ⟨p, hp⟩ : ∃ p, w.heap.size = p := ⟨_, rfl⟩
  obtain ⟨r, hrr⟩ : ∃ r, w2.heap.size = r := ⟨_, rfl⟩
  have TW2 : Two w.heap.size p r [] [] w (w2.alloc (.cells #[.slice none 0 0] 29)) := by rw [← hrr]; rw [← hp]; exact TW
  have HTW := Lib.hid TW2
  have HP := Lib.hid hp
  rw [hp]
  clear TW TW2 hr nb l2 M2 b2 hpl hp
  go_wp2_with fail
  clear hrr
  generalize w2.alloc _ = wA at *
  go_loopw [6] (fun i wr => ∃ k : Nat, i = .int .i64 k ∧ k ≤ n ∧ Hid (Two w.heap.size p r (putsC [] (l.take k)) (putsC [] (l.take k)) w wr)) (fun i _ => n - (intOf i).toNat)
  case atStart => exact ⟨0, rfl, by omega, Lib.hid (by simpa [putsC] using HTW.out)⟩
  case round =>
    obtain ⟨k, rfl, hk, HT⟩ := hrel
    clear HTW
    by_cases hlt : k < n
    · have hkl : k < l.length := by rw [HN.out]; exact hlt
      obtain ⟨b, o, rfl, hrow⟩ := HR.out (by rw [HN.out]; omega)
      obtain ⟨x0, x1, x2⟩ := (hrow.later HT.out.below hrow.1).cells hkl
      have hrs := fun W' (hb : Below w.heap.size w W') => (hrow.later hb hrow.1).cells hkl
      obtain ⟨d, hd⟩ : ∃ d, l.getD k Ce.zero = d := ⟨_, rfl⟩
      rw [hd] at x0 x1 x2 hrs
      have HRS := Lib.hid hrs
      have hfd : FitsC d := hd ▸ HF.out k hkl
      have hnext := puts_take (La := []) hkl
      rw [hd] at hnext
      obtain ⟨P, hP⟩ : ∃ P, putsC [] (l.take k) = P := ⟨_, rfl⟩
      have hPl : P.length ≤ 200 := by
        have h := HST.out k
        rw [hP] at h
        have := HN.out
        simp only [List.length_nil] at h
        omega
      have hPr : Rise P := hP ▸ HRI.out k
      rw [hP] at HT hnext
      have HX := Lib.hid (And.intro hfd (And.intro hnext (And.intro hPl hPr)))
      have hlo := HT.out.below.size
      have pc := HT.out.put hlo d (by omega) hfd
      have PC := Lib.hid pc
      unfold ceVal at PC
      clear pc hrs hd hfd hnext hPl hPr hP hrow HT
      go_wp2_with fail
      refine PC.out.mono ?_
      rintro e w5 ⟨rfl, T5, l5⟩
      clear x0 x1 x2
      obtain ⟨x0, x1, x2⟩ := HRS.out _ T5.below
      have hlo5 := T5.below.size
      have pc := T5.rput hlo5 d HX.out.2.2.2 (by have := HX.out.2.2.1; omega) HX.out.1
      have PC2 := Lib.hid pc
      unfold ceVal at PC2
      clear pc T5 l5 PC hlo hlo5
      generalize (if d.may = true then (0 : Int) else 2) = ee at *
      go_wp2_with fail
      refine PC2.out.mono ?_
      rintro e w6 ⟨rfl, T6, l6⟩
      rw [← HX.out.2.1] at T6
      have HT6 := Lib.hid T6
      clear T6 l6 PC2 x0 x1 x2 HX HRS
      go_wp2_with fail
      go_roundw
      case rel => exact ⟨k + 1, rfl, by omega, HT6⟩
      case measure => simp [intOf]; omega
    · obtain rfl : k = n := by omega
      have HX := Lib.hid (show Two w.heap.size p r (putsC [] l) (putsC [] l) w wr by have := HT.out; rwa [← HN.out, List.take_length] at this)
      clear HT
      go_wp2_with fail
      exact bodyPost_ret (v := .tuple #[.pointer (some ⟨p, 0, none⟩), .pointer (some ⟨r, 0, none⟩)]) (by simp [results, Try.results19, go_sem]) rfl ⟨p, r, rfl, HX.out⟩

/-- one memory: the program's, or the reference's -/
def Holds (t : Bool × Nat × List Ce) (fs : List Nat) (W : World) : Prop := match t.1 with | true => Mem t.2.1 t.2.2 fs W | false => RefM t.2.1 t.2.2 fs W
theorem Holds.fr {t : Bool × Nat × List Ce} {fs S : List Nat} {W W' : World} (h : Holds t fs W) (f : Fr S W W') (hd : ∀ b ∈ fs, b ∉ S) : Holds t fs W' := by
  obtain ⟨k, p, L⟩ := t
  cases k with
  | true => exact Mem.fr h f hd
  | false => exact RefM.fr h f hd
theorem Holds.lt {t : Bool × Nat × List Ce} {fs : List Nat} {W : World} (h : Holds t fs W) : ∀ b ∈ fs, b < W.heap.size := by
  obtain ⟨k, p, L⟩ := t
  cases k with
  | true => exact Mem.lt h
  | false => exact RefM.lt h
/-- memories beside one another, in the blocks F -/
structure ManyF (lo : Nat) (ts : List (Bool × Nat × List Ce)) (F : Nat → List Nat) (w0 W : World) : Prop where
  hold : ∀ i t, ts[i]? = some t → Holds t (F i) W
  low : ∀ i, i < ts.length → ∀ x ∈ F i, lo ≤ x
  apart : ∀ i j, i < ts.length → j < ts.length → i ≠ j → ∀ x ∈ F i, x ∉ F j
  size : lo ≤ W.heap.size
  below : Below lo w0 W
def Many (lo : Nat) (ts : List (Bool × Nat × List Ce)) (w0 W : World) : Prop := ∃ F, ManyF lo ts F w0 W
theorem ManyF.lt {lo : Nat} {ts : List (Bool × Nat × List Ce)} {F : Nat → List Nat} {w0 W : World} (h : ManyF lo ts F w0 W) {i : Nat} (hi : i < ts.length) : ∀ x ∈ F i, x < W.heap.size :=
  (h.hold i ts[i] (List.getElem?_eq_getElem hi)).lt
theorem Many.below {lo : Nat} {ts : List (Bool × Nat × List Ce)} {w0 W : World} (h : Many lo ts w0 W) : Below lo w0 W := by
  obtain ⟨F, h⟩ := h
  exact h.below
theorem Many.size {lo : Nat} {ts : List (Bool × Nat × List Ce)} {w0 W : World} (h : Many lo ts w0 W) : lo ≤ W.heap.size := by
  obtain ⟨F, h⟩ := h
  exact h.size
theorem Many.later {lo : Nat} {ts : List (Bool × Nat × List Ce)} {w0 W W' : World} (h : Many lo ts w0 W) (hb : Below W.heap.size W W') : Many lo ts w0 W' := by
  obtain ⟨F, h⟩ := h
  exact ⟨F, fun i t ht => (h.hold i t ht).fr (S := []) (Fr.of_below hb) (by simp), h.low, h.apart, Nat.le_trans h.size hb.size, h.below.trans (hb.mono h.size)⟩
theorem Many.start {w : World} : Many w.heap.size [] w w := ⟨fun _ => [], fun i t ht => by simp at ht, fun i hi => by simp at hi, fun i j hi => by simp at hi, Nat.le_refl _, Below.refl _ _⟩
theorem ManyF.step {lo : Nat} {ts : List (Bool × Nat × List Ce)} {F : Nat → List Nat} {w0 W W' : World} (h : ManyF lo ts F w0 W) {i : Nat} (hi : i < ts.length) (t' : Bool × Nat × List Ce) (fs' : List Nat) (H : Holds t' fs' W') (h4 : ∀ x ∈ fs', x ∈ F i ∨ W.heap.size ≤ x) (f : Fr (F i) W W') :
    Many lo (ts.set i t') w0 W' := by
  refine ⟨fun j => if j = i then fs' else F j, fun j t ht => ?_, fun j hj x hx => ?_, fun j k hj hk hjk x hx hm => ?_, Nat.le_trans h.size f.size, h.below.trans (f.below h.size (h.low i hi))⟩
  · by_cases e : j = i
    · subst e
      rw [List.getElem?_set_self hi] at ht
      obtain rfl : t' = t := by injection ht
      rw [if_pos rfl]
      exact H
    · rw [List.getElem?_set_ne (fun h => e h.symm)] at ht
      rw [if_neg e]
      have hj : j < ts.length := (List.getElem?_eq_some_iff.1 ht).1
      exact (h.hold j t ht).fr f (fun b hb => h.apart j i hj hi e b hb)
  · rw [List.length_set] at hj
    by_cases e : j = i
    · subst e
      rw [if_pos rfl] at hx
      rcases h4 x hx with h5 | h5
      · exact h.low j hj x h5
      · exact Nat.le_trans h.size h5
    · rw [if_neg e] at hx
      exact h.low j hj x hx
  · rw [List.length_set] at hj hk
    by_cases e : j = i
    · subst e
      rw [if_pos rfl] at hx
      rw [if_neg (fun h => hjk h.symm)] at hm
      rcases h4 x hx with h5 | h5
      · exact h.apart j k hj hk hjk x h5 hm
      · have := h.lt hk x hm
        omega
    · rw [if_neg e] at hx
      by_cases e2 : k = i
      · subst e2
        rw [if_pos rfl] at hm
        rcases h4 x hm with h5 | h5
        · exact h.apart j k hj hk hjk x hx h5
        · have := h.lt hj x hx
          omega
      · rw [if_neg e2] at hm
        exact h.apart j k hj hk hjk x hx hm
theorem Many.put {lo : Nat} {ts : List (Bool × Nat × List Ce)} {w0 W : World} {p : Nat} {A : List Ce} (h : Many lo ts w0 W) (i : Nat) (hi : ts[i]? = some (true, p, A)) (c : Ce) (hbig : A.length ≤ 900) (hf : FitsC c) :
    Calls Try.prog 10 #[.pointer (some ⟨p, 0, none⟩), ceVal c] W fun e W' => e = .returned (.int .i64 (if c.may then 0 else 2)) ∧ Many lo (ts.set i (true, p, putC A c)) w0 W' := by
  obtain ⟨F, h⟩ := h
  refine (putM_any p A (F i) c W (h.hold i _ hi) hbig hf).mono ?_
  rintro e W' ⟨rfl, fs', M', h4, f⟩
  exact ⟨rfl, h.step (List.getElem?_eq_some_iff.1 hi).1 _ fs' M' h4 f⟩
theorem Many.rput {lo : Nat} {ts : List (Bool × Nat × List Ce)} {w0 W : World} {p : Nat} {A : List Ce} (h : Many lo ts w0 W) (i : Nat) (hi : ts[i]? = some (false, p, A)) (c : Ce) (hr : Rise A) (hbig : A.length ≤ 900) (hf : FitsC c) :
    Calls Try.prog 11 #[.pointer (some ⟨p, 0, none⟩), ceVal c] W fun e W' => e = .returned (.int .i64 (if c.may then 0 else 2)) ∧ Many lo (ts.set i (false, p, putC A c)) w0 W' := by
  obtain ⟨F, h⟩ := h
  refine (refPut_any p A (F i) c W (h.hold i _ hi) hr hbig hf).mono ?_
  rintro e W' ⟨rfl, fs', M', h4, f⟩
  exact ⟨rfl, h.step (List.getElem?_eq_some_iff.1 hi).1 _ fs' M' h4 f⟩
theorem Many.all {lo : Nat} {ts : List (Bool × Nat × List Ce)} {w0 W : World} {p : Nat} {A : List Ce} (h : Many lo ts w0 W) (i : Nat) (hi : ts[i]? = some (true, p, A)) (hbig : A.length ≤ 100000) :
    Calls Try.prog 15 #[.pointer (some ⟨p, 0, none⟩), .string ⟨#[]⟩, .string ⟨#[]⟩] W fun e W' => Below W.heap.size W W' ∧ ∃ v, e = .returned v ∧ SlAt v A W' := by
  obtain ⟨F, h⟩ := h
  have hm : Mem p A (F i) W := h.hold i _ hi
  refine (rangeM_any p A (F i) [] [] W hm hbig).mono ?_
  rintro e W' ⟨b, v, rfl, own⟩
  rw [rangeC_all] at own
  exact ⟨b, v, rfl, slAt_own own⟩
theorem Many.rcell {lo : Nat} {ts : List (Bool × Nat × List Ce)} {w0 W : World} {p : Nat} {A : List Ce} (h : Many lo ts w0 W) (i : Nat) (hi : ts[i]? = some (false, p, A)) : ∃ v, SlAt v A W ∧ ∀ W', Below W.heap.size W W' → W'.cell? ⟨p, 0, none⟩ = some v := by
  obtain ⟨F, h⟩ := h
  have hm : RefM p A (F i) W := h.hold i _ hi
  obtain ⟨v, h1, h2, h3⟩ := hm.cell
  exact ⟨v, h2, fun W' hb => (hb.cell (p := ⟨p, 0, none⟩) h3).trans h1⟩
theorem Many.push2 {lo : Nat} {ts : List (Bool × Nat × List Ce)} {w0 W W' : World} (h : Many lo ts w0 W) (hb : Below W.heap.size W W') {t1 t2 : Bool × Nat × List Ce} {fa fb : List Nat} (H1 : Holds t1 fa W') (H2 : Holds t2 fb W') (h1 : ∀ x ∈ fa, W.heap.size ≤ x) (h2 : ∀ x ∈ fb, W.heap.size ≤ x) (hab : ∀ x ∈ fa, x ∉ fb) :
    Many lo (ts ++ [t1, t2]) w0 W' := by
  obtain ⟨F, h⟩ := h
  have hG : ∀ j, j < (ts ++ [t1, t2]).length → (j < ts.length) ∨ j = ts.length ∨ j = ts.length + 1 := fun j hj => by
    rw [List.length_append] at hj
    simp only [List.length_cons, List.length_nil] at hj
    omega
  let G : Nat → List Nat := fun j => if j < ts.length then F j else if j = ts.length then fa else fb
  have g0 : ∀ j, j < ts.length → G j = F j := fun j hj => if_pos hj
  have g1 : G ts.length = fa := by show (if _ then _ else _) = _; rw [if_neg (Nat.lt_irrefl _), if_pos rfl]
  have g2 : G (ts.length + 1) = fb := by show (if _ then _ else _) = _; rw [if_neg (by omega), if_neg (by omega)]
  have hup : ∀ j, j < (ts ++ [t1, t2]).length → ¬ j < ts.length → ∀ x ∈ G j, W.heap.size ≤ x := fun j hj hn x hx => by
    rcases hG j hj with h5 | rfl | rfl
    · exact absurd h5 hn
    · rw [g1] at hx
      exact h1 x hx
    · rw [g2] at hx
      exact h2 x hx
  refine ⟨G, fun j t ht => ?_, fun j hj x hx => ?_, fun j k hj hk hjk x hx hm => ?_, Nat.le_trans h.size hb.size, h.below.trans (hb.mono h.size)⟩
  · have hj := (List.getElem?_eq_some_iff.1 ht).1
    rcases hG j hj with h5 | rfl | rfl
    · rw [List.getElem?_append_left h5] at ht
      rw [g0 j h5]
      exact (h.hold j t ht).fr (S := []) (Fr.of_below hb) (by simp)
    · rw [List.getElem?_append_right (Nat.le_refl _), Nat.sub_self] at ht
      obtain rfl : t1 = t := by simpa using ht
      rw [g1]
      exact H1
    · rw [List.getElem?_append_right (by omega), Nat.add_sub_cancel_left] at ht
      obtain rfl : t2 = t := by simpa using ht
      rw [g2]
      exact H2
  · by_cases h5 : j < ts.length
    · rw [g0 j h5] at hx
      exact h.low j h5 x hx
    · exact Nat.le_trans h.size (hup j hj h5 x hx)
  · by_cases h5 : j < ts.length
    · rw [g0 j h5] at hx
      by_cases h6 : k < ts.length
      · rw [g0 k h6] at hm
        exact h.apart j k h5 h6 hjk x hx hm
      · have := hup k hk h6 x hm
        have := h.lt h5 x hx
        omega
    · by_cases h6 : k < ts.length
      · rw [g0 k h6] at hm
        have := hup j hj h5 x hx
        have := h.lt h6 x hm
        omega
      · rcases hG j hj with h7 | rfl | rfl
        · exact h5 h7
        · rcases hG k hk with h8 | rfl | rfl
          · exact h6 h8
          · exact hjk rfl
          · rw [g1] at hx
            rw [g2] at hm
            exact hab x hx hm
        · rcases hG k hk with h8 | rfl | rfl
          · exact h6 h8
          · rw [g2] at hx
            rw [g1] at hm
            exact hab x hm hx
          · exact hjk rfl
theorem Many.push {lo : Nat} {ts : List (Bool × Nat × List Ce)} {w0 W W' : World} (h : Many lo ts w0 W) (hb : Below W.heap.size W W') {t1 : Bool × Nat × List Ce} {fa : List Nat} (H1 : Holds t1 fa W') (h1 : ∀ x ∈ fa, W.heap.size ≤ x) :
    Many lo (ts ++ [t1]) w0 W' := by
  obtain ⟨F, h⟩ := h
  refine ⟨fun j => if j < ts.length then F j else fa, fun j t ht => ?_, fun j hj x hx => ?_, fun j k hj hk hjk x hx hm => ?_, Nat.le_trans h.size hb.size, h.below.trans (hb.mono h.size)⟩
  · have hj := (List.getElem?_eq_some_iff.1 ht).1
    rw [List.length_append, List.length_singleton] at hj
    by_cases h5 : j < ts.length
    · rw [List.getElem?_append_left h5] at ht
      rw [if_pos h5]
      exact (h.hold j t ht).fr (S := []) (Fr.of_below hb) (by simp)
    · obtain rfl : j = ts.length := by omega
      rw [List.getElem?_append_right (Nat.le_refl _), Nat.sub_self] at ht
      obtain rfl : t1 = t := by simpa using ht
      rw [if_neg h5]
      exact H1
  · by_cases h5 : j < ts.length
    · rw [if_pos h5] at hx
      exact h.low j h5 x hx
    · rw [if_neg h5] at hx
      exact Nat.le_trans h.size (h1 x hx)
  · rw [List.length_append, List.length_singleton] at hj hk
    by_cases h5 : j < ts.length
    · rw [if_pos h5] at hx
      by_cases h6 : k < ts.length
      · rw [if_pos h6] at hm
        exact h.apart j k h5 h6 hjk x hx hm
      · rw [if_neg h6] at hm
        have := h1 x hm
        have := h.lt h5 x hx
        omega
    · rw [if_neg h5] at hx
      by_cases h6 : k < ts.length
      · rw [if_pos h6] at hm
        have := h1 x hx
        have := h.lt h6 x hm
        omega
      · omega
theorem Many.two {lo : Nat} {ts : List (Bool × Nat × List Ce)} {w0 W W' : World} {p r : Nat} {A B : List Ce} (h : Many lo ts w0 W) (T : Two W.heap.size p r A B W W') : Many lo (ts ++ [(true, p, A), (false, r, B)]) w0 W' := by
  obtain ⟨fs, gs, M, R, h1, h2, h3⟩ := T
  exact h.push2 h3 (fa := fs) (fb := gs) M R (fun x hx => (h1 x hx).1) h2 (fun x hx => (h1 x hx).2)
theorem Many.cut {lo : Nat} {ts : List (Bool × Nat × List Ce)} {w0 W : World} {p : Nat} {A : List Ce} (h : Many lo ts w0 W) (i : Nat) (hi : ts[i]? = some (true, p, A)) (hbig : A.length ≤ 100000) (key : List UInt8) :
    Calls Try.prog 20 #[.pointer (some ⟨p, 0, none⟩), .string ⟨key.toArray⟩] W fun e W' => ∃ pa pb, e = .returned (.tuple #[.pointer (some ⟨pa, 0, none⟩), .pointer (some ⟨pb, 0, none⟩)]) ∧ Many lo (ts ++ [(true, pa, lowC A key), (true, pb, highC A key)]) w0 W' := by
  have h0 := h
  obtain ⟨F, h⟩ := h
  refine (cutM_any p A (F i) key W (h.hold i _ hi) hbig).mono ?_
  rintro e W' ⟨pa, fa, pb, fb, rfl, MA, MB, h3, h4, h5, hb⟩
  exact ⟨pa, pb, rfl, h0.push2 hb (fa := fa) (fb := fb) MA MB h3 h4 h5⟩
theorem Many.rcut {lo : Nat} {ts : List (Bool × Nat × List Ce)} {w0 W : World} {p : Nat} {A : List Ce} (h : Many lo ts w0 W) (i : Nat) (hi : ts[i]? = some (false, p, A)) (hbig : A.length ≤ 1000) (key : List UInt8) :
    Calls Try.prog 21 #[.pointer (some ⟨p, 0, none⟩), .string ⟨key.toArray⟩] W fun e W' => ∃ pa pb, e = .returned (.tuple #[.pointer (some ⟨pa, 0, none⟩), .pointer (some ⟨pb, 0, none⟩)]) ∧ Many lo (ts ++ [(false, pa, lowC A key), (false, pb, highC A key)]) w0 W' := by
  have h0 := h
  obtain ⟨F, h⟩ := h
  refine (refCutM_any p A (F i) key W (h.hold i _ hi) hbig).mono ?_
  rintro e W' ⟨pa, fa, pb, fb, rfl, MA, MB, h3, h4, h5, hb⟩
  exact ⟨pa, pb, rfl, h0.push2 hb (fa := fa) (fb := fb) MA MB h3 h4 h5⟩
theorem Many.join {lo : Nat} {ts : List (Bool × Nat × List Ce)} {w0 W : World} {p q : Nat} {A B : List Ce} (h : Many lo ts w0 W) (i j : Nat) (hi : ts[i]? = some (true, p, A)) (hj : ts[j]? = some (true, q, B)) (hbig : A.length + B.length ≤ 900) (hf : ∀ c ∈ B, FitsC c) :
    Calls Try.prog 22 #[.pointer (some ⟨p, 0, none⟩), .pointer (some ⟨q, 0, none⟩)] W fun e W' => ∃ pj, e = .returned (.pointer (some ⟨pj, 0, none⟩)) ∧ Many lo (ts ++ [(true, pj, putsC A B)]) w0 W' := by
  have h0 := h
  obtain ⟨F, h⟩ := h
  refine (joinM_any p A (F i) q B (F j) W (h.hold i _ hi) (h.hold j _ hj) hbig hf).mono ?_
  rintro e W' ⟨pj, fs, rfl, M, h3, hb⟩
  exact ⟨pj, rfl, h0.push hb (fa := fs) M h3⟩
theorem Many.rjoin {lo : Nat} {ts : List (Bool × Nat × List Ce)} {w0 W : World} {p q : Nat} {A B : List Ce} (h : Many lo ts w0 W) (i j : Nat) (hi : ts[i]? = some (false, p, A)) (hj : ts[j]? = some (false, q, B)) (hri : Rise A) (hbig : A.length + B.length ≤ 900) (hf : ∀ c ∈ B, FitsC c) :
    Calls Try.prog 23 #[.pointer (some ⟨p, 0, none⟩), .pointer (some ⟨q, 0, none⟩)] W fun e W' => ∃ pj, e = .returned (.pointer (some ⟨pj, 0, none⟩)) ∧ Many lo (ts ++ [(false, pj, putsC A B)]) w0 W' := by
  have h0 := h
  obtain ⟨F, h⟩ := h
  refine (refJoinM_any p A (F i) q B (F j) W (h.hold i _ hi) (h.hold j _ hj) hri hbig hf).mono ?_
  rintro e W' ⟨pj, fs, rfl, M, h3, hb⟩
  exact ⟨pj, rfl, h0.push hb (fa := fs) M h3⟩
end Go.Proofs.Ytpcapifjbhaeeaa
