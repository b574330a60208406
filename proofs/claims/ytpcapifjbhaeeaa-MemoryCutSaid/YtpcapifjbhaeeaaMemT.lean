/- The walk of MemoryPlays. -/
import Derived.Test.YtpcapifjbhaeeaaMemS
import Derived.StillTailTactics
import Derived.Deep.RegionWith
import Derived.Deep.DeepCutAuto
namespace Go.Proofs.Ytpcapifjbhaeeaa
set_option maxRecDepth 16000
open Go.RowKit Spoor
set_option linter.unusedVariables false

/-- the program's memory and the reference's, beside one another -/
def Two (lo p r : Nat) (A B : List Ce) (w0 W : World) : Prop := ∃ fs gs, Mem p A fs W ∧ RefM r B gs W ∧ (∀ x ∈ fs, lo ≤ x ∧ x ∉ gs) ∧ (∀ x ∈ gs, lo ≤ x) ∧ Below lo w0 W
theorem Two.later {lo p r : Nat} {A B : List Ce} {w0 W W' : World} (h : Two lo p r A B w0 W) (hlo : lo ≤ W.heap.size) (hb : Below W.heap.size W W') : Two lo p r A B w0 W' := by
  obtain ⟨fs, gs, M, R, h1, h2, h3⟩ := h
  exact ⟨fs, gs, M.later hb, R.later hb, h1, h2, h3.trans (hb.mono hlo)⟩
theorem Two.below {lo p r : Nat} {A B : List Ce} {w0 W : World} (h : Two lo p r A B w0 W) : Below lo w0 W := by
  obtain ⟨_, _, _, _, _, _, h⟩ := h
  exact h
theorem Two.put {lo p r : Nat} {A B : List Ce} {w0 W : World} (h : Two lo p r A B w0 W) (hlo : lo ≤ W.heap.size) (c : Ce) (hbig : A.length ≤ 900) (hf : FitsC c) :
    Calls Try.prog 10 #[.pointer (some ⟨p, 0, none⟩), ceVal c] W fun e W' => e = .returned (.int .i64 (if c.may then 0 else 2)) ∧ Two lo p r (putC A c) B w0 W' ∧ W.heap.size ≤ W'.heap.size := by
  obtain ⟨fs, gs, M, R, h1, h2, h3⟩ := h
  refine (putM_any p A fs c W M hbig hf).mono ?_
  rintro e W' ⟨rfl, fs', M', h4, f⟩
  refine ⟨rfl, ⟨fs', gs, M', R.fr f (fun b hb hm => (h1 b hm).2 hb), fun x hx => ?_, h2, h3.trans (f.below hlo (fun x hx => (h1 x hx).1))⟩, f.size⟩
  rcases h4 x hx with h | h
  · exact h1 x h
  · exact ⟨Nat.le_trans hlo h, fun hm => by have := R.lt x hm; omega⟩
theorem Two.rput {lo p r : Nat} {A B : List Ce} {w0 W : World} (h : Two lo p r A B w0 W) (hlo : lo ≤ W.heap.size) (c : Ce) (hr : Rise B) (hbig : B.length ≤ 900) (hf : FitsC c) :
    Calls Try.prog 11 #[.pointer (some ⟨r, 0, none⟩), ceVal c] W fun e W' => e = .returned (.int .i64 (if c.may then 0 else 2)) ∧ Two lo p r A (putC B c) w0 W' ∧ W.heap.size ≤ W'.heap.size := by
  obtain ⟨fs, gs, M, R, h1, h2, h3⟩ := h
  refine (refPut_any r B gs c W R hr hbig hf).mono ?_
  rintro e W' ⟨rfl, gs', R', h4, f⟩
  refine ⟨rfl, ⟨fs, gs', M.fr f (fun b hb => (h1 b hb).2), R', fun x hx => ⟨(h1 x hx).1, fun hm => ?_⟩, fun x hx => ?_, h3.trans (f.below hlo h2)⟩, f.size⟩
  · rcases h4 x hm with h | h
    · exact (h1 x hx).2 h
    · have := M.lt x hx
      omega
  · rcases h4 x hx with h | h
    · exact h2 x h
    · omega
theorem Two.cell {lo p r : Nat} {A B : List Ce} {w0 W : World} (h : Two lo p r A B w0 W) : ∃ v, W.cell? ⟨r, 0, none⟩ = some v ∧ SlAt v B W ∧ r < W.heap.size := by
  obtain ⟨fs, gs, M, R, h1, h2, h3⟩ := h
  obtain ⟨A', cap, e1, e2, e3, e4, e5, e6, e7⟩ := R
  exact ⟨.slice A' B.length cap, by simp [World.cell?, e1], ⟨A', cap, rfl, e4, e5, fun h0 => by obtain ⟨b, o, e, _, hr⟩ := e7 h0; exact ⟨b, o, e, hr⟩⟩, e3 r e2⟩
theorem Two.get {lo p r : Nat} {A B : List Ce} {w0 W : World} (h : Two lo p r A B w0 W) (hbig : A.length ≤ 100000) (key : List UInt8) (hk : key.length ≤ 140737488351232) :
    Calls Try.prog 13 #[.pointer (some ⟨p, 0, none⟩), .string ⟨key.toArray⟩] W fun e W' => e = .returned (ceV (findC A key)) ∧ Below W.heap.size W W' := by
  obtain ⟨fs, gs, M, -⟩ := h
  exact getM_any p A fs key W M hbig hk
theorem Two.rget {lo p r : Nat} {A B : List Ce} {w0 W : World} (h : Two lo p r A B w0 W) (hbig : B.length ≤ 100000) (key : List UInt8) :
    Calls Try.prog 14 #[.pointer (some ⟨r, 0, none⟩), .string ⟨key.toArray⟩] W fun e W' => e = .returned (ceV (findC B key)) ∧ Below W.heap.size W W' := by
  obtain ⟨fs, gs, -, R, -⟩ := h
  exact refGetM_any r B gs key W R hbig
theorem Two.range {lo p r : Nat} {A B : List Ce} {w0 W : World} (h : Two lo p r A B w0 W) (hbig : A.length ≤ 100000) (x y : List UInt8) :
    Calls Try.prog 15 #[.pointer (some ⟨p, 0, none⟩), .string ⟨x.toArray⟩, .string ⟨y.toArray⟩] W fun e W' => Below W.heap.size W W' ∧ ∃ v, e = .returned v ∧ W'.ownsRow W.heap.size 33 3 v (rangeC A x y).length (rowOf (rangeC A x y)) := by
  obtain ⟨fs, gs, M, -⟩ := h
  exact rangeM_any p A fs x y W M hbig
theorem Two.rrange {lo p r : Nat} {A B : List Ce} {w0 W : World} (h : Two lo p r A B w0 W) (hbig : B.length ≤ 1000) (x y : List UInt8) :
    Calls Try.prog 17 #[.pointer (some ⟨r, 0, none⟩), .string ⟨x.toArray⟩, .string ⟨y.toArray⟩] W fun e W' => Below W.heap.size W W' ∧ ∃ v, e = .returned v ∧ W'.ownsRow W.heap.size 33 3 v (rangeC B x y).length (rowOf (rangeC B x y)) := by
  obtain ⟨fs, gs, -, R, -⟩ := h
  exact refRangeM_any r B gs x y W R hbig
theorem Two.len {lo p r : Nat} {A B : List Ce} {w0 W : World} (h : Two lo p r A B w0 W) (hbig : A.length ≤ 100000) :
    Calls Try.prog 12 #[.pointer (some ⟨p, 0, none⟩)] W fun e W' => e = .returned (.int .i64 A.length) ∧ Below W.heap.size W W' := by
  obtain ⟨fs, gs, M, -⟩ := h
  exact lenM_any p A fs W M hbig
def cm9 : Ce := ⟨[], -9, []⟩
/-- what the region ahead of the second loop reads -/
def Sees (Z1 Z2 X r : Nat) (cf : Ce) (e0 e1 : List UInt8) (u : Value) (W : World) : Prop :=
  (W.cell? ⟨Z1, 0, none⟩ = some (.string ⟨cf.k.toArray⟩) ∧ W.cell? ⟨Z1, 1, none⟩ = some (.int .i64 cf.q) ∧ W.cell? ⟨Z1, 2, none⟩ = some (.string ⟨cf.v.toArray⟩)) ∧
  (W.cell? ⟨Z2, 0, none⟩ = some (.string ⟨cf.k.toArray⟩) ∧ W.cell? ⟨Z2, 1, none⟩ = some (.int .i64 cf.q) ∧ W.cell? ⟨Z2, 2, none⟩ = some (.string ⟨cf.v.toArray⟩)) ∧
  W.cell? ⟨X, 0, none⟩ = some (.string ⟨e0.toArray⟩) ∧ W.cell? ⟨X, 1, none⟩ = some (.string ⟨e1.toArray⟩) ∧ W.cell? ⟨r, 0, none⟩ = some u
/-- the two memories, and an answer of new memory beside them -/
def Own (lo p r : Nat) (M : List Ce) (A : Option Addr) (cap : Nat) (w0 W : World) : Prop :=
  Two lo p r M M w0 W ∧ (0 < M.length → ∃ g M', A = some ⟨g, 0, none⟩ ∧ lo ≤ g ∧ M'.length = M.length ∧ RowW g cap M' W ∧
    ∃ fs gs, Mem p M fs W ∧ RefM r M gs W ∧ (∀ x ∈ fs, lo ≤ x ∧ x ∉ gs) ∧ (∀ x ∈ gs, lo ≤ x) ∧ g ∉ fs ∧ g ∉ gs ∧ Below lo w0 W)
theorem Own.start {lo p r base : Nat} {M : List Ce} {w0 wy W : World} {v : Value} (h : Two lo p r M M w0 wy) (hlo : lo ≤ wy.heap.size) (hb : Below wy.heap.size wy W) (hs : base = wy.heap.size)
    (own : W.ownsRow base 33 3 v M.length (rowOf M)) : ∃ A cap, v = .slice A M.length cap ∧ SlAt v M W ∧ M.length ≤ cap ∧ cap ≤ maxLen ∧ Own lo p r M A cap w0 W := by
  have sl := slAt_own own
  have hT := h.later hlo hb
  obtain ⟨A, cap, rfl, h1, h2, h3⟩ := id sl
  refine ⟨A, cap, rfl, sl, h1, h2, hT, fun h0 => ?_⟩
  obtain ⟨g, cap', e, hg, -, -, hR⟩ := rowW_own own h0
  obtain ⟨rfl, rfl⟩ : A = some ⟨g, 0, none⟩ ∧ cap = cap' := by
    injection e with e1 e2 e3
    exact ⟨e1, e3⟩
  obtain ⟨fs, gs, HM, HR, k1, k2, k3⟩ := h
  have f0 := HM.lt
  have g0 := HR.lt
  refine ⟨g, M, rfl, by omega, rfl, hR, fs, gs, HM.later hb, HR.later hb, k1, k2, fun hm => ?_, fun hm => ?_, k3.trans (hb.mono hlo)⟩
  · have := f0 g hm
    omega
  · have := g0 g hm
    omega
theorem Own.later {lo p r : Nat} {M : List Ce} {A : Option Addr} {cap : Nat} {w0 W W' : World} (h : Own lo p r M A cap w0 W) (hlo : lo ≤ W.heap.size) (hb : Below W.heap.size W W') : Own lo p r M A cap w0 W' := by
  refine ⟨h.1.later hlo hb, fun h0 => ?_⟩
  obtain ⟨g, M', e1, e2, e3, e4, fs, gs, HM, HR, k1, k2, k3, k4, k5⟩ := h.2 h0
  exact ⟨g, M', e1, e2, e3, e4.later hb, fs, gs, HM.later hb, HR.later hb, k1, k2, k3, k4, k5.trans (hb.mono hlo)⟩
theorem Own.put {lo p r g : Nat} {M M' : List Ce} {cap : Nat} {w0 W : World} (e2 : lo ≤ g) (e3 : M'.length = M.length) (e4 : RowW g cap M' W)
    {fs gs : List Nat} (HM : Mem p M fs W) (HR : RefM r M gs W) (k1 : ∀ x ∈ fs, lo ≤ x ∧ x ∉ gs) (k2 : ∀ x ∈ gs, lo ≤ x) (k3 : g ∉ fs) (k4 : g ∉ gs) (k5 : Below lo w0 W) {k : Nat} (hk : k < M'.length) (c : Ce) :
    Own lo p r M (some ⟨g, 0, none⟩) cap w0 (((W.setCell ⟨g, k * 3, none⟩ (.string ⟨c.k.toArray⟩)).setCell ⟨g, k * 3 + 1, none⟩ (.int .i64 c.q)).setCell ⟨g, k * 3 + 2, none⟩ (.string ⟨c.v.toArray⟩)) := by
  have f : Fr [g] W (((W.setCell ⟨g, k * 3, none⟩ (.string ⟨c.k.toArray⟩)).setCell ⟨g, k * 3 + 1, none⟩ (.int .i64 c.q)).setCell ⟨g, k * 3 + 2, none⟩ (.string ⟨c.v.toArray⟩)) :=
    (((Fr.refl [g] W).set ⟨g, k * 3, none⟩ (.inl (by simp)) _).set ⟨g, k * 3 + 1, none⟩ (.inl (by simp)) _).set ⟨g, k * 3 + 2, none⟩ (.inl (by simp)) _
  have HM2 := HM.fr f (fun b hb hm => k3 (by rw [List.mem_singleton] at hm; exact hm ▸ hb))
  have HR2 := HR.fr f (fun b hb hm => k4 (by rw [List.mem_singleton] at hm; exact hm ▸ hb))
  have b2 := below_set (below_set (below_set k5 e2 (k * 3) (.string ⟨c.k.toArray⟩)) e2 (k * 3 + 1) (.int .i64 c.q)) e2 (k * 3 + 2) (.string ⟨c.v.toArray⟩)
  exact ⟨⟨fs, gs, HM2, HR2, k1, k2, b2⟩, fun _ => ⟨g, M'.set k c, rfl, e2, by rw [List.length_set]; exact e3, e4.put hk c, fs, gs, HM2, HR2, k1, k2, k3, k4, b2⟩⟩
set_option maxRecDepth 100000 in
set_option maxHeartbeats 8000000 in
theorem memoryPlays_yes (w : World) (v : Value) (l : List Ce) (key e0 e1 : List UInt8) (hs : SlAt v l w) (hw : ∀ c ∈ l, WfC c) (hk : ¬ (1000 : Int) < (key.length : Int)) (hk0 : ¬ (1000 : Int) < (e0.length : Int)) (hk1 : ¬ (1000 : Int) < (e1.length : Int)) (hg : greatL l 200 = false) :
    Calls Try.prog 3 #[v, .string ⟨key.toArray⟩, .agg #[.string ⟨e0.toArray⟩, .string ⟨e1.toArray⟩]] w fun e w' => e = .returned (.bool true) ∧ Below w.heap.size w w' := by
  have cg := fun W (h : SlAt v l W) => greatL_any v l 200 W h hw (by omega)
  rw [hg] at cg
  have hf := fits_great hg hw
  have hlen := (great_yes hg).1
  have CG := Lib.hid cg
  have HF := Lib.hid (fun k (hk : k < l.length) => getD_lt hf hk)
  have HKL := Lib.hid (fun k (hk : k < l.length) => getD_lt (P := fun c => c.k.length ≤ 1000) (fun c hc => ((great_yes hg).2 c hc).1) hk)
  have HST := Lib.hid (fun k => puts_short [] l k)
  have HRI := Lib.hid (fun k => puts_rise (l := l.take k) (acc := []) (by simp [Rise]))
  have HKK := Lib.hid (show key.length ≤ 140737488351232 by omega)
  have f0 := decide_eq_false hk
  have f1 := decide_eq_false hk0
  have f2 := decide_eq_false hk1
  have nb := (Below.refl w.heap.size w).alloc (Nat.le_refl _) (.cells #[.string ⟨e0.toArray⟩, .string ⟨e1.toArray⟩] 23)
  have hbx := heap_alloc_new w (.cells #[.string ⟨e0.toArray⟩, .string ⟨e1.toArray⟩] 23)
  have hs1 := hs.later nb
  have HB0 := Lib.hid nb
  have HBX := Lib.hid hbx
  have HS1 := Lib.hid hs1
  have hsz : (w.alloc (.cells #[.string ⟨e0.toArray⟩, .string ⟨e1.toArray⟩] 23)).heap.size = w.heap.size + 1 := by simp
  obtain ⟨W0, hW0⟩ : ∃ W0, w.alloc (.cells #[.string ⟨e0.toArray⟩, .string ⟨e1.toArray⟩] 23) = W0 := ⟨_, rfl⟩
  rw [hW0] at HB0 HBX HS1 hsz
  obtain ⟨A, cap, rfl, hc1, hc2, hrow⟩ := hs
  have HR := Lib.hid (fun h0 => hrow h0)
  have hc3 : cap ≤ 9223372036854775807 := by unfold maxLen at hc2; omega
  obtain ⟨n, hn⟩ : ∃ n, l.length = n := ⟨_, rfl⟩
  have HN := Lib.hid hn
  have CG1 := Lib.hid (CG.out _ HS1.out)
  rw [hn] at hc1 hlen CG1 ⊢
  clear cg hf hg hw hs1 nb hbx hn hrow hc2 CG
  have HSZ := Lib.hid hsz
  clear hsz
  go_enter Try.func3, Try.ntmps3
  go_wp2_with fail
  clear hW0
  refine CG1.out.mono ?_
  rintro e w1 ⟨rfl, b1⟩
  clear CG1
  obtain ⟨X, hX⟩ : ∃ X, w.heap.size = X := ⟨_, rfl⟩
  have HXe := Lib.hid hX
  rw [hX] at HBX HSZ ⊢
  have hb1 := (b1.block X (by have := HSZ.out; omega)).trans HBX.out
  have x0 : w1.cell? ⟨X, 0, none⟩ = some (.string ⟨e0.toArray⟩) := by simp [World.cell?, hb1]
  have x1 : w1.cell? ⟨X, 1, none⟩ = some (.string ⟨e1.toArray⟩) := by simp [World.cell?, hb1]
  have HBX1 := Lib.hid hb1
  have HB1 := Lib.hid b1
  clear hb1 b1 hX
  go_wp2_with fail
  clear x0 x1
  refine (newM_any _).mono ?_
  rintro e w2 ⟨rfl, M2, b2⟩
  have l1 := HB1.out.size
  have l2 := b2.size
  have nb := (Below.refl w2.heap.size w2).alloc (Nat.le_refl _) (.cells #[.slice none 0 0] 29)
  have hr := heap_alloc_new w2 (.cells #[.slice none 0 0] 29)
  have hpl := M2.lt
  have TW : Two W0.heap.size w1.heap.size w2.heap.size [] [] W0 (w2.alloc (.cells #[.slice none 0 0] 29)) :=
    ⟨[w1.heap.size], [w2.heap.size], M2.later nb, ⟨none, 0, hr, by simp, by simp, Nat.le_refl _, Nat.zero_le _, fun _ => .inl ⟨rfl, rfl⟩, fun h => absurd h (by simp)⟩,
      fun x hx => by
        obtain rfl : x = w1.heap.size := by simpa using hx
        have := hpl w1.heap.size (by simp)
        exact ⟨l1, by simp; omega⟩,
      fun x hx => by
        obtain rfl : x = w2.heap.size := by simpa using hx
        omega,
      HB1.out.trans ((b2.mono l1).trans (nb.mono (by omega)))⟩
  obtain ⟨p, hp⟩ : ∃ p, w1.heap.size = p := ⟨_, rfl⟩
  obtain ⟨r, hrr⟩ : ∃ r, w2.heap.size = r := ⟨_, rfl⟩
  rw [hp, hrr] at TW
  rw [hp]
  have HTW := Lib.hid TW
  clear TW hr nb l1 l2 M2 b2 hpl hp HB1 HBX1
  go_wp2_with fail
  clear hrr
  generalize w2.alloc _ = wA at *
  go_loopw [9] (fun i wr => ∃ k : Nat, i = .int .i64 k ∧ k ≤ n ∧ Hid (Two W0.heap.size p r (putsC [] (l.take k)) (putsC [] (l.take k)) W0 wr) ∧ W0.heap.size ≤ wr.heap.size) (fun i _ => n - (intOf i).toNat)
  case atStart => exact ⟨0, rfl, by omega, Lib.hid (by simpa [putsC] using HTW.out), by obtain ⟨_, _, _, _, _, _, h⟩ := HTW.out; exact h.size⟩
  case round =>
    obtain ⟨k, rfl, hk, HT, hlo⟩ := hrel
    by_cases hlt : k < n
    · have hkl : k < l.length := by rw [HN.out]; exact hlt
      obtain ⟨b, o, rfl, hrow0⟩ := HR.out (by rw [HN.out]; omega)
      obtain ⟨d, hd⟩ : ∃ d, l.getD k Ce.zero = d := ⟨_, rfl⟩
      have hfd : FitsC d := hd ▸ HF.out k hkl
      have hkd : d.k.length ≤ 1000 := hd ▸ HKL.out k hkl
      have hnext := puts_take (La := []) hkl
      rw [hd] at hnext
      obtain ⟨P, hP⟩ : ∃ P, putsC [] (l.take k) = P := ⟨_, rfl⟩
      have hPl : P.length ≤ 200 := by
        have h := HST.out k
        rw [hP] at h
        have := HN.out
        simp only [List.length_nil] at h
        omega
      have hPr : Rise P := hP ▸ HRI.out k
      rw [hP] at HT hnext
      have HX := Lib.hid (And.intro hfd (And.intro hkd (And.intro hnext (And.intro hPl hPr))))
      have rw0 := HT.out
      obtain ⟨_, _, _, _, _, _, hbw⟩ := rw0
      have hb0l : b < W0.heap.size := by have := hrow0.1; have := HB0.out.size; omega
      have hrowW : RowAt b o l wr := (hrow0.later HB0.out hrow0.1).later hbw hb0l
      have HRW := Lib.hid hrowW
      have hrowc := hrowW.cells hkl
      rw [hd] at hrowc
      have HRC := Lib.hid hrowc
      have hrs := fun W' (hb : Below W0.heap.size W0 W') => ((hrow0.later HB0.out hrow0.1).later hb hb0l).cells hkl
      rw [hd] at hrs
      have HRS := Lib.hid hrs
      clear hrs
      have HD := Lib.hid hd
      clear hfd hkd hnext hPl hPr hP hrowW hbw hd hrow0 hrowc
      go_wp2_with fail
      go_cut [70] (fun v wx => v = .bool false ∧ Hid (Two W0.heap.size p r (putC P d) (putC P d) W0 wx ∧ W0.heap.size ≤ wx.heap.size))
      case first =>
        have pc := HT.out.put hlo d (by have := HX.out.2.2.2.1; omega) HX.out.1
        have PC := Lib.hid pc
        clear pc
        refine (wpIn_wide (n := 5)).1 ?_
        refine wpIn_region_lit_late (fun w' => w'.cell? ⟨b, o + k * 3, none⟩ = some (.string ⟨d.k.toArray⟩) ∧ w'.cell? ⟨b, o + k * 3 + 1, none⟩ = some (.int .i64 d.q) ∧ w'.cell? ⟨b, o + k * 3 + 2, none⟩ = some (.string ⟨d.v.toArray⟩)) (fun _ => false) (k := 23) (listed := #[false, false, false, false, false, false, false, false, false, false, false, false, false, false, false, false, false, false, false, false, false, false, false]) (by kernel_rfl) (by kernel_rfl) (by kernel_rfl) ?_
        have TZ := HT.out.later hlo (Below.drew (Below.refl _ wr))
        have hS : wr.drew.cell? ⟨b, o + k * 3, none⟩ = some (.string ⟨d.k.toArray⟩) ∧ wr.drew.cell? ⟨b, o + k * 3 + 1, none⟩ = some (.int .i64 d.q) ∧ wr.drew.cell? ⟨b, o + k * 3 + 2, none⟩ = some (.string ⟨d.v.toArray⟩) := HRC.out
        have hzl : W0.heap.size ≤ wr.drew.heap.size := hlo
        have HRZ := Lib.hid (show RowAt b o l wr.drew from HRW.out.later (Below.drew (Below.refl _ wr)) HRW.out.1)
        clear PC HT hlo HRW HRC
        generalize wr.drew = wz at *
        refine AnyS.get (i := 0) (some 48) ?_ rfl rfl (by kernel_rfl) (by kernel_rfl) (by kernel_rfl) (by kernel_rfl) (fun _ _ _ h => h) (Reads.yes (by kernel_rfl) ?_ (fun _ => rfl)) hS ?_
        rotate_left
        · intro w' hw'
          go_simp
          with_reducible rfl
        simp only [Act.put, List.setIfInBounds_toArray, List.set_cons_succ, List.set_cons_zero]
        refine AnyS.get (i := 1) (some 49) ?_ rfl rfl (by kernel_rfl) (by kernel_rfl) (by kernel_rfl) (by kernel_rfl) (fun _ _ _ h => h) (Reads.yes (by kernel_rfl) ?_ (fun _ => rfl)) hS ?_
        rotate_left
        · intro w' hw'
          go_simp
          with_reducible rfl
        simp only [Act.put, List.setIfInBounds_toArray, List.set_cons_succ, List.set_cons_zero]
        refine AnyS.get (i := 2) (some 50) ?_ rfl rfl (by kernel_rfl) (by kernel_rfl) (by kernel_rfl) (by kernel_rfl) (fun _ _ _ h => h) (Reads.yes (by kernel_rfl) ?_ (fun _ => rfl)) hS ?_
        rotate_left
        · intro w' hw'
          go_simp
          with_reducible rfl
        simp only [Act.put, List.setIfInBounds_toArray, List.set_cons_succ, List.set_cons_zero]
        refine AnyS.get (i := 3) (some 51) ?_ rfl rfl (by kernel_rfl) (by kernel_rfl) (by kernel_rfl) (by kernel_rfl) (fun _ _ _ h => h) (Reads.yes (by kernel_rfl) ?_ (fun _ => rfl)) hS ?_
        rotate_left
        · intro w' hw'
          go_simp
          with_reducible rfl
        simp only [Act.put, List.setIfInBounds_toArray, List.set_cons_succ, List.set_cons_zero]
        refine AnyS.get (i := 4) (some 52) ?_ rfl rfl (by kernel_rfl) (by kernel_rfl) (by kernel_rfl) (by kernel_rfl) (fun _ _ _ h => h) (Reads.yes (by kernel_rfl) ?_ (fun _ => rfl)) hS ?_
        rotate_left
        · intro w' hw'
          obtain ⟨t1, t2, t3⟩ := hw'
          go_simp
          with_reducible rfl
        simp only [Act.put, List.setIfInBounds_toArray, List.set_cons_succ, List.set_cons_zero]
        refine AnyS.get (i := 6) (some 54) ?_ rfl rfl (by kernel_rfl) (by kernel_rfl) (by kernel_rfl) (by kernel_rfl) (fun _ _ _ h => h) (Reads.yes (by kernel_rfl) ?_ (fun _ => rfl)) hS ?_
        rotate_left
        · intro w' hw'
          go_simp
          with_reducible rfl
        simp only [Act.put, List.setIfInBounds_toArray, List.set_cons_succ, List.set_cons_zero]
        refine AnyS.get (i := 7) (some 55) ?_ rfl rfl (by kernel_rfl) (by kernel_rfl) (by kernel_rfl) (by kernel_rfl) (fun _ _ _ h => h) (Reads.yes (by kernel_rfl) ?_ (fun _ => rfl)) hS ?_
        rotate_left
        · intro w' hw'
          go_simp
          with_reducible rfl
        simp only [Act.put, List.setIfInBounds_toArray, List.set_cons_succ, List.set_cons_zero]
        refine AnyS.get (i := 8) (some 56) ?_ rfl rfl (by kernel_rfl) (by kernel_rfl) (by kernel_rfl) (by kernel_rfl) (fun _ _ _ h => h) (Reads.yes (by kernel_rfl) ?_ (fun _ => rfl)) hS ?_
        rotate_left
        · intro w' hw'
          go_simp
          with_reducible rfl
        simp only [Act.put, List.setIfInBounds_toArray, List.set_cons_succ, List.set_cons_zero]
        refine AnyS.get (i := 9) (some 57) ?_ rfl rfl (by kernel_rfl) (by kernel_rfl) (by kernel_rfl) (by kernel_rfl) (fun _ _ _ h => h) (Reads.yes (by kernel_rfl) ?_ (fun _ => rfl)) hS ?_
        rotate_left
        · intro w' hw'
          go_simp
          with_reducible rfl
        simp only [Act.put, List.setIfInBounds_toArray, List.set_cons_succ, List.set_cons_zero]
        refine AnyS.get (i := 10) (some 58) ?_ rfl rfl (by kernel_rfl) (by kernel_rfl) (by kernel_rfl) (by kernel_rfl) (fun _ _ _ h => h) (Reads.yes (by kernel_rfl) ?_ (fun _ => rfl)) hS ?_
        rotate_left
        · intro w' hw'
          obtain ⟨t1, t2, t3⟩ := hw'
          go_simp
          with_reducible rfl
        simp only [Act.put, List.setIfInBounds_toArray, List.set_cons_succ, List.set_cons_zero]
        have HTZ := Lib.hid TZ
        clear TZ hS
        refine AnyS.next (i := 5) rfl (by kernel_rfl) (by kernel_rfl) fun K' hK' => ?_
        refine want_yes (by kernel_rfl) ?_
        have pc := HTZ.out.put hzl d (by have := HX.out.2.2.2.1; omega) HX.out.1
        have PC := Lib.hid pc
        clear pc
        unfold ceVal at PC
        go_simp
        refine ⟨trivial, (callsIn_wide.2 PC.out).mono ?_⟩
        rintro e wa ⟨rfl, TA, la⟩
        have hal : W0.heap.size ≤ wa.heap.size := Nat.le_trans hzl la
        refine hK' _ _ (fun _ => HRS.out _ TA.below) ?_
        have HTA := Lib.hid TA
        clear hK' K' PC TA la hzl HTZ HRZ
        simp only [Act.put, List.setIfInBounds_toArray, List.set_cons_succ, List.set_cons_zero]
        refine AnyS.next (i := 11) rfl (by kernel_rfl) (by kernel_rfl) fun K' hK' => ?_
        refine want_yes (by kernel_rfl) ?_
        have pc := HTA.out.rput hal d HX.out.2.2.2.2 (by have := HX.out.2.2.2.1; omega) HX.out.1
        have PC := Lib.hid pc
        clear pc
        unfold ceVal at PC
        go_simp
        refine ⟨trivial, (callsIn_wide.2 PC.out).mono ?_⟩
        rintro e wb ⟨rfl, TB, lb⟩
        have hbl : W0.heap.size ≤ wb.heap.size := Nat.le_trans hal lb
        have hS := HRS.out _ TB.below
        refine hK' _ _ (fun _ => hS) ?_
        have HTB := Lib.hid TB
        clear hK' K' PC TB lb hal HTA
        simp only [Act.put, List.setIfInBounds_toArray, List.set_cons_succ, List.set_cons_zero]
        generalize (if d.may = true then (0 : Int) else 2) = ee at *
        refine AnyS.get (i := 12) (some 60) ?_ rfl rfl (by kernel_rfl) (by kernel_rfl) (by kernel_rfl) (by kernel_rfl) (fun _ _ _ h => h) (Reads.yes (by kernel_rfl) ?_ (fun _ => rfl)) hS ?_
        rotate_left
        · intro w' hw'
          go_simp
          with_reducible rfl
        simp only [Act.put, List.setIfInBounds_toArray, List.set_cons_succ, List.set_cons_zero]
        refine AnyS.get (i := 13) (some 61) ?_ rfl rfl (by kernel_rfl) (by kernel_rfl) (by kernel_rfl) (by kernel_rfl) (fun _ _ _ h => h) (Reads.yes (by kernel_rfl) ?_ (fun _ => rfl)) hS ?_
        rotate_left
        · intro w' hw'
          go_simp
          with_reducible rfl
        simp only [Act.put, List.setIfInBounds_toArray, List.set_cons_succ, List.set_cons_zero]
        refine AnyS.get (i := 14) (some 62) ?_ rfl rfl (by kernel_rfl) (by kernel_rfl) (by kernel_rfl) (by kernel_rfl) (fun _ _ _ h => h) (Reads.yes (by kernel_rfl) ?_ (fun _ => rfl)) hS ?_
        rotate_left
        · intro w' hw'
          go_simp
          with_reducible rfl
        simp only [Act.put, List.setIfInBounds_toArray, List.set_cons_succ, List.set_cons_zero]
        refine AnyS.get (i := 16) (some 64) ?_ rfl rfl (by kernel_rfl) (by kernel_rfl) (by kernel_rfl) (by kernel_rfl) (fun _ _ _ h => h) (Reads.yes (by kernel_rfl) ?_ (fun _ => rfl)) hS ?_
        rotate_left
        · intro w' hw'
          go_simp
          with_reducible rfl
        simp only [Act.put, List.setIfInBounds_toArray, List.set_cons_succ, List.set_cons_zero]
        refine AnyS.get (i := 17) (some 65) ?_ rfl rfl (by kernel_rfl) (by kernel_rfl) (by kernel_rfl) (by kernel_rfl) (fun _ _ _ h => h) (Reads.yes (by kernel_rfl) ?_ (fun _ => rfl)) hS ?_
        rotate_left
        · intro w' hw'
          go_simp
          with_reducible rfl
        simp only [Act.put, List.setIfInBounds_toArray, List.set_cons_succ, List.set_cons_zero]
        refine AnyS.get (i := 18) (some 66) ?_ rfl rfl (by kernel_rfl) (by kernel_rfl) (by kernel_rfl) (by kernel_rfl) (fun _ _ _ h => h) (Reads.yes (by kernel_rfl) ?_ (fun _ => rfl)) hS ?_
        rotate_left
        · intro w' hw'
          go_simp
          with_reducible rfl
        simp only [Act.put, List.setIfInBounds_toArray, List.set_cons_succ, List.set_cons_zero]
        have HSS := Lib.hid hS
        clear hS
        have lc := HTB.out.len (by have h := putC_length d P; have := HX.out.2.2.2.1; omega)
        have LC := Lib.hid lc
        clear lc
        obtain ⟨vr, c1, sr, hrl⟩ := HTB.out.cell
        obtain ⟨Ar, cr, rfl, -, -, -⟩ := sr
        have hnl : (((putC P d).length : Nat) : Int) = (((putC P d).length : Nat) : Int) := rfl
        generalize hPN : (putC P d).length = PN at *
        clear hnl
        refine AnyS.two (i := 15) (j := 19) rfl rfl (by kernel_rfl) (by kernel_rfl) (fun K' hK' => ?_) (fun K' hK' => ?_)
        · refine want_yes (by kernel_rfl) ?_
          go_simp
          refine ⟨trivial, (callsIn_wide.2 LC.out).mono ?_⟩
          rintro e wc ⟨rfl, bc⟩
          have TC := HTB.out.later hbl bc
          have c2 : wc.cell? ⟨r, 0, none⟩ = some (.slice Ar PN cr) := (bc.cell (p := ⟨r, 0, none⟩) hrl).trans c1
          have hcl : W0.heap.size ≤ wc.heap.size := Nat.le_trans hbl bc.size
          have hS := HRS.out _ TC.below
          refine hK' _ _ (fun _ => hS) ?_
          have HTC := Lib.hid TC
          clear hK' K' LC TC bc HTB hbl c1 hrl HSS
          simp only [Act.put, List.setIfInBounds_toArray, List.set_cons_succ, List.set_cons_zero]
          refine AnyS.next (i := 19) rfl (by kernel_rfl) (by kernel_rfl) fun K' hK' => ?_
          refine want_yes (by kernel_rfl) ?_
          go_simp
          refine hK' _ _ (fun _ => hS) ?_
          clear hK' K' c2
          simp only [Act.put, List.setIfInBounds_toArray, List.set_cons_succ, List.set_cons_zero]
          refine AnyS.get (i := 20) (some 68) ?_ rfl rfl (by kernel_rfl) (by kernel_rfl) (by kernel_rfl) (by kernel_rfl) (fun _ _ _ h => h) (Reads.yes (by kernel_rfl) ?_ (fun _ => rfl)) hS ?_
          rotate_left
          · intro w' hw'
            go_simp
            with_reducible rfl
          simp only [Act.put, List.setIfInBounds_toArray, List.set_cons_succ, List.set_cons_zero]
          refine AnyS.get (i := 21) (some 69) ?_ rfl rfl (by kernel_rfl) (by kernel_rfl) (by kernel_rfl) (by kernel_rfl) (fun _ _ _ h => h) (Reads.yes (by kernel_rfl) ?_ (fun _ => rfl)) hS ?_
          rotate_left
          · intro w' hw'
            go_simp
            with_reducible rfl
          simp only [Act.put, List.setIfInBounds_toArray, List.set_cons_succ, List.set_cons_zero]
          refine AnyS.get (i := 22) (some 70) ?_ rfl rfl (by kernel_rfl) (by kernel_rfl) (by kernel_rfl) (by kernel_rfl) (fun _ _ _ h => h) (Reads.yes (by kernel_rfl) ?_ (fun _ => rfl)) hS ?_
          rotate_left
          · intro w' hw'
            go_simp
            with_reducible rfl
          simp only [Act.put, List.setIfInBounds_toArray, List.set_cons_succ, List.set_cons_zero]
          refine AnyS.done (by kernel_rfl) ?_ _
          have HE := Lib.hid (And.intro HTC.out hcl)
          clear hS hcl
          go_wp2_with fail
          go_meet
          exact ⟨rfl, Lib.hid HE.out⟩
        · refine want_yes (by kernel_rfl) ?_
          go_simp
          refine hK' _ _ (fun _ => HSS.out) ?_
          clear hK' K'
          simp only [Act.put, List.setIfInBounds_toArray, List.set_cons_succ, List.set_cons_zero]
          have hS := HSS.out
          refine AnyS.get (i := 20) (some 68) ?_ rfl rfl (by kernel_rfl) (by kernel_rfl) (by kernel_rfl) (by kernel_rfl) (fun _ _ _ h => h) (Reads.yes (by kernel_rfl) ?_ (fun _ => rfl)) hS ?_
          rotate_left
          · intro w' hw'
            go_simp
            with_reducible rfl
          simp only [Act.put, List.setIfInBounds_toArray, List.set_cons_succ, List.set_cons_zero]
          clear hS
          refine AnyS.next (i := 15) rfl (by kernel_rfl) (by kernel_rfl) fun K' hK' => ?_
          refine want_yes (by kernel_rfl) ?_
          go_simp
          refine ⟨trivial, (callsIn_wide.2 LC.out).mono ?_⟩
          rintro e wc ⟨rfl, bc⟩
          have TC := HTB.out.later hbl bc
          have hcl : W0.heap.size ≤ wc.heap.size := Nat.le_trans hbl bc.size
          have hS := HRS.out _ TC.below
          refine hK' _ _ (fun _ => hS) ?_
          have HTC := Lib.hid TC
          clear hK' K' LC TC bc HTB hbl c1 hrl HSS
          simp only [Act.put, List.setIfInBounds_toArray, List.set_cons_succ, List.set_cons_zero]
          refine AnyS.get (i := 21) (some 69) ?_ rfl rfl (by kernel_rfl) (by kernel_rfl) (by kernel_rfl) (by kernel_rfl) (fun _ _ _ h => h) (Reads.yes (by kernel_rfl) ?_ (fun _ => rfl)) hS ?_
          rotate_left
          · intro w' hw'
            go_simp
            with_reducible rfl
          simp only [Act.put, List.setIfInBounds_toArray, List.set_cons_succ, List.set_cons_zero]
          refine AnyS.get (i := 22) (some 70) ?_ rfl rfl (by kernel_rfl) (by kernel_rfl) (by kernel_rfl) (by kernel_rfl) (fun _ _ _ h => h) (Reads.yes (by kernel_rfl) ?_ (fun _ => rfl)) hS ?_
          rotate_left
          · intro w' hw'
            go_simp
            with_reducible rfl
          simp only [Act.put, List.setIfInBounds_toArray, List.set_cons_succ, List.set_cons_zero]
          refine AnyS.done (by kernel_rfl) ?_ _
          have HE := Lib.hid (And.intro HTC.out hcl)
          clear hS hcl
          go_wp2_with fail
          go_meet
          exact ⟨rfl, Lib.hid HE.out⟩
      obtain ⟨rfl, HC⟩ := hcut
      rw [← HX.out.2.2.1] at HC
      have hcl := HC.out.2
      clear HT hlo HRC HRW
      obtain ⟨x0, x1, x2⟩ := HRS.out _ HC.out.1.below
      obtain ⟨Q, hQ⟩ : ∃ Q, putsC [] (l.take (k + 1)) = Q := ⟨_, rfl⟩
      have hQl : Q.length ≤ 1000 := by
        have h := HST.out (k + 1)
        rw [hQ] at h
        have := HN.out
        simp only [List.length_nil] at h
        omega
      have HQ := Lib.hid (And.intro hQ hQl)
      rw [hQ] at HC
      have gc := HC.out.1.get (by omega) d.k (by have := HX.out.2.1; omega)
      have GC := Lib.hid gc
      clear gc hQ hQl
      go_wp2_with fail
      obtain ⟨cf, okf, hcf⟩ : ∃ cf okf, ceV (findC Q d.k) = .tuple #[ceVal cf, .bool okf] := by
        cases findC Q d.k with
        | none => exact ⟨Ce.zero, false, rfl⟩
        | some c => exact ⟨c, true, rfl⟩
      have HCF := Lib.hid hcf
      clear hcf
      refine GC.out.mono ?_
      rintro e w5 ⟨rfl, b5⟩
      rw [HCF.out]
      have T5 := HC.out.1.later hcl b5
      have n5 := (Below.refl w5.heap.size w5).alloc (Nat.le_refl _) (boxC cf)
      have h5l : W0.heap.size ≤ w5.heap.size := Nat.le_trans hcl b5.size
      have q5 := CeAt.boxed cf w5
      have T6 := T5.later h5l n5
      obtain ⟨x0, x1, x2⟩ := HRS.out _ T6.below
      have gc := T6.rget (by have := HQ.out.2; omega) d.k
      rw [HCF.out] at gc
      have GC2 := Lib.hid gc
      have HT6 := Lib.hid (And.intro T6 (And.intro q5 (Nat.le_trans h5l n5.size)))
      clear gc GC T5 T6 n5 q5 b5 HC
      unfold ceVal boxC at *
      go_wp2_with fail
      refine GC2.out.mono ?_
      rintro e w6 ⟨rfl, b6⟩
      have T7 := HT6.out.1.later HT6.out.2.2 b6
      have q7 := HT6.out.2.1.later b6 HT6.out.2.1.lt
      have HT7 := Lib.hid (And.intro T7 (Nat.le_trans HT6.out.2.2 b6.size))
      obtain ⟨y0, y1, y2⟩ := q7.cell
      have yl := q7.lt
      have n7 := (Below.refl w6.heap.size w6).alloc (Nat.le_refl _) (boxC cf)
      have T8 := HT7.out.1.later HT7.out.2 n7
      have h8l : W0.heap.size ≤ (w6.alloc (boxC cf)).heap.size := Nat.le_trans HT7.out.2 n7.size
      have HT8 := Lib.hid (And.intro T8 h8l)
      unfold boxC at HT8
      have hne := fun W => neq_ce cf cf W
      unfold ceVal at hne
      simp only [decide_true, Bool.not_true] at hne
      clear GC2 T7 q7 b6 HT6 HT7 n7 T8 h8l x0 x1 x2
      go_wp2_with fail
      go_roundw
      case rel => exact ⟨k + 1, rfl, by omega, Lib.hid (by rw [HQ.out.1]; exact HT8.out.1), HT8.out.2⟩
      case measure => simp [intOf]; omega
    · obtain rfl : k = n := by omega
      obtain ⟨M, hM⟩ : ∃ M, putsC [] l = M := ⟨_, rfl⟩
      have hMl : M.length ≤ 1000 := by
        have h := puts_length l []
        rw [hM] at h
        have := HN.out
        simp only [List.length_nil] at h
        omega
      have hT : Two W0.heap.size p r M M W0 wr := by
        have h := HT.out
        rwa [← HN.out, List.take_length, hM] at h
      have HT := Lib.hid hT
      have HML := Lib.hid hMl
      have hX0 := fun W' (hb : Below W0.heap.size W0 W') => (hb.block X (by have := HSZ.out; omega)).trans HBX.out
      have HXX := Lib.hid hX0
      have gc := HT.out.get (by have := HML.out; omega) key HKK.out
      have GC := Lib.hid gc
      clear hM hMl hT gc hX0 HST HRI HF HKL
      go_wp2_with fail
      obtain ⟨cf, okf, hcf⟩ : ∃ cf okf, ceV (findC M key) = .tuple #[ceVal cf, .bool okf] := by
        cases findC M key with
        | none => exact ⟨Ce.zero, false, rfl⟩
        | some c => exact ⟨c, true, rfl⟩
      have HCF := Lib.hid hcf
      clear hcf
      refine GC.out.mono ?_
      rintro e w5 ⟨rfl, b5⟩
      rw [HCF.out]
      have T5 := HT.out.later hlo b5
      have n5 := (Below.refl w5.heap.size w5).alloc (Nat.le_refl _) (boxC cf)
      have h5l : W0.heap.size ≤ w5.heap.size := Nat.le_trans hlo b5.size
      have q5 := CeAt.boxed cf w5
      have T6 := T5.later h5l n5
      have gc := T6.rget (by have := HML.out; omega) key
      rw [HCF.out] at gc
      have GC2 := Lib.hid gc
      have HT6 := Lib.hid (And.intro T6 (And.intro q5 (Nat.le_trans h5l n5.size)))
      clear gc GC T5 T6 n5 q5 b5 h5l HT hlo
      unfold ceVal boxC at *
      go_wp2_with fail
      refine GC2.out.mono ?_
      rintro e w6 ⟨rfl, b6⟩
      have q7 := HT6.out.2.1.later b6 HT6.out.2.1.lt
      have l7 := Nat.le_trans HT6.out.2.2 b6.size
      have n7 := (Below.refl w6.heap.size w6).alloc (Nat.le_refl _) (boxC cf)
      have T8 := (HT6.out.1.later HT6.out.2.2 b6).later l7 n7
      have q8 := q7.later n7 q7.lt
      have q9 := CeAt.boxed cf w6
      have h8l : W0.heap.size ≤ (w6.alloc (boxC cf)).heap.size := Nat.le_trans l7 n7.size
      have rc := T8.range (by have := HML.out; omega) [] []
      have RC := Lib.hid rc
      have HT8 := Lib.hid (And.intro T8 (And.intro h8l (And.intro q8 q9)))
      clear GC2 q7 b6 HT6 n7 T8 h8l q8 q9 rc l7
      unfold boxC at *
      go_wp2_with fail
      obtain ⟨Z1, hZ1⟩ : ∃ Z1, w5.heap.size = Z1 := ⟨_, rfl⟩
      obtain ⟨Z2, hZ2⟩ : ∃ Z2, w6.heap.size = Z2 := ⟨_, rfl⟩
      rw [hZ1, hZ2] at HT8
      rw [hZ1, hZ2]
      clear hZ1 hZ2
      refine RC.out.mono ?_
      rintro e w7 ⟨b7, va, rfl, own⟩
      rw [rangeC_all] at own
      obtain ⟨wy, hwy⟩ : ∃ wy, w6.alloc (.cells #[.string ⟨cf.k.toArray⟩, .int .i64 cf.q, .string ⟨cf.v.toArray⟩] 33) = wy := ⟨_, rfl⟩
      rw [hwy] at HT8 b7 own
      clear RC
      obtain ⟨A7, cap7, rfl, sl7, hc71, hc72, own7⟩ := Own.start HT8.out.1 HT8.out.2.1 b7 rfl own
      have T9 := own7.1
      have l9 := Nat.le_trans HT8.out.2.1 b7.size
      have q1 := HT8.out.2.2.1.later b7 HT8.out.2.2.1.lt
      have q2 := HT8.out.2.2.2.later b7 HT8.out.2.2.2.lt
      clear HT8 hwy own b7
      obtain ⟨vr, c1, sr, hrl⟩ := T9.cell
      have hm3 := hc72
      unfold maxLen at hm3
      have HML2 := HML
      obtain ⟨nm, hnm⟩ : ∃ nm, M.length = nm := ⟨_, rfl⟩
      have HNM := Lib.hid hnm
      have HRS := Lib.hid (show ∀ W', Below w7.heap.size w7 W' → Sees Z1 Z2 X r cf e0 e1 vr W' from fun W' hb => ⟨(q1.later hb q1.lt).cell, (q2.later hb q2.lt).cell, by simp [World.cell?, HXX.out W' (T9.below.trans (hb.mono l9))], by simp [World.cell?, HXX.out W' (T9.below.trans (hb.mono l9))], (hb.cell (p := ⟨r, 0, none⟩) hrl).trans c1⟩)
      have HSA := Lib.hid (fun W' (hb : Below w7.heap.size w7 W') => And.intro (sl7.later hb) (sr.later hb))
      have HTW := Lib.hid (fun W' (hb : Below w7.heap.size w7 W') => T9.later l9 hb)
      have HOW := Lib.hid (fun W' (hb : Below w7.heap.size w7 W') => And.intro (own7.later l9 hb) (Nat.le_trans l9 hb.size))
      clear T9 l9 q1 q2 c1 sr hrl sl7 own7 hc72
      rw [hnm] at HSA hc71 ⊢
      clear hnm
      have hne := fun W => neq_ce cf cf W
      unfold ceVal at hne
      simp only [decide_true, Bool.not_true] at hne
      go_wp2_with fail
      go_cut [145] (fun v wx => v = .bool false ∧ Hid (Below w7.heap.size w7 wx))
      case first =>
        refine (wpIn_wide (n := 5)).1 ?_
        refine wpIn_region_lit_late (Sees Z1 Z2 X r cf e0 e1 vr) (fun _ => false) (k := 33) (listed := #[false, false, false, false, false, false, false, false, false, false, false, false, false, false, false, false, false, false, false, false, false, false, false, false, false, false, false, false, false, false, false, false, false]) (by kernel_rfl) (by kernel_rfl) (by kernel_rfl) ?_
        have bz := Below.drew (Below.refl w7.heap.size w7)
        generalize w7.drew = wz at *
        have hS := HRS.out _ bz
        have HBZ := Lib.hid bz
        clear bz
        refine AnyS.get (i := 0) (some 113) ?_ rfl rfl (by kernel_rfl) (by kernel_rfl) (by kernel_rfl) (by kernel_rfl) (fun _ _ _ h => h) (Reads.yes (by kernel_rfl) ?_ (fun _ => rfl)) hS ?_
        rotate_left
        · intro w' hw'
          obtain ⟨⟨y0, y1, y2⟩, ⟨z0, z1, z2⟩, x0, x1, c1⟩ := hw'
          go_simp
          with_reducible rfl
        simp only [Act.put, List.setIfInBounds_toArray, List.set_cons_succ, List.set_cons_zero]
        refine AnyS.get (i := 1) (some 114) ?_ rfl rfl (by kernel_rfl) (by kernel_rfl) (by kernel_rfl) (by kernel_rfl) (fun _ _ _ h => h) (Reads.yes (by kernel_rfl) ?_ (fun _ => rfl)) hS ?_
        rotate_left
        · intro w' hw'
          obtain ⟨⟨y0, y1, y2⟩, ⟨z0, z1, z2⟩, x0, x1, c1⟩ := hw'
          go_simp
          with_reducible rfl
        simp only [Act.put, List.setIfInBounds_toArray, List.set_cons_succ, List.set_cons_zero]
        refine AnyS.get (i := 2) (some 115) ?_ rfl rfl (by kernel_rfl) (by kernel_rfl) (by kernel_rfl) (by kernel_rfl) (fun _ _ _ h => h) (Reads.yes (by kernel_rfl) ?_ (fun _ => rfl)) hS ?_
        rotate_left
        · intro w' hw'
          go_simp
          with_reducible rfl
        simp only [Act.put, List.setIfInBounds_toArray, List.set_cons_succ, List.set_cons_zero]
        refine AnyS.get (i := 3) (some 116) ?_ rfl rfl (by kernel_rfl) (by kernel_rfl) (by kernel_rfl) (by kernel_rfl) (fun _ _ _ h => h) (Reads.yes (by kernel_rfl) ?_ (fun _ => rfl)) hS ?_
        rotate_left
        · intro w' hw'
          go_simp
          with_reducible rfl
        simp only [Act.put, List.setIfInBounds_toArray, List.set_cons_succ, List.set_cons_zero]
        refine AnyS.get (i := 4) (some 117) ?_ rfl rfl (by kernel_rfl) (by kernel_rfl) (by kernel_rfl) (by kernel_rfl) (fun _ _ _ h => h) (Reads.yes (by kernel_rfl) ?_ (fun _ => rfl)) hS ?_
        rotate_left
        · intro w' hw'
          go_simp
          with_reducible rfl
        simp only [Act.put, List.setIfInBounds_toArray, List.set_cons_succ, List.set_cons_zero]
        refine AnyS.get (i := 5) (some 118) ?_ rfl rfl (by kernel_rfl) (by kernel_rfl) (by kernel_rfl) (by kernel_rfl) (fun _ _ _ h => h) (Reads.yes (by kernel_rfl) ?_ (fun _ => rfl)) hS ?_
        rotate_left
        · intro w' hw'
          go_simp
          with_reducible rfl
        simp only [Act.put, List.setIfInBounds_toArray, List.set_cons_succ, List.set_cons_zero]
        refine AnyS.get (i := 6) (some 119) ?_ rfl rfl (by kernel_rfl) (by kernel_rfl) (by kernel_rfl) (by kernel_rfl) (fun _ _ _ h => h) (Reads.yes (by kernel_rfl) ?_ (fun _ => rfl)) hS ?_
        rotate_left
        · intro w' hw'
          go_simp
          with_reducible rfl
        simp only [Act.put, List.setIfInBounds_toArray, List.set_cons_succ, List.set_cons_zero]
        refine AnyS.get (i := 7) (some 120) ?_ rfl rfl (by kernel_rfl) (by kernel_rfl) (by kernel_rfl) (by kernel_rfl) (fun _ _ _ h => h) (Reads.yes (by kernel_rfl) ?_ (fun _ => rfl)) hS ?_
        rotate_left
        · intro w' hw'
          go_simp
          with_reducible rfl
        simp only [Act.put, List.setIfInBounds_toArray, List.set_cons_succ, List.set_cons_zero]
        refine AnyS.get (i := 8) (some 121) ?_ rfl rfl (by kernel_rfl) (by kernel_rfl) (by kernel_rfl) (by kernel_rfl) (fun _ _ _ h => h) (Reads.yes (by kernel_rfl) ?_ (fun _ => rfl)) hS ?_
        rotate_left
        · intro w' hw'
          go_simp
          with_reducible rfl
        simp only [Act.put, List.setIfInBounds_toArray, List.set_cons_succ, List.set_cons_zero]
        refine AnyS.get (i := 9) (some 122) ?_ rfl rfl (by kernel_rfl) (by kernel_rfl) (by kernel_rfl) (by kernel_rfl) (fun _ _ _ h => h) (Reads.yes (by kernel_rfl) ?_ (fun _ => rfl)) hS ?_
        rotate_left
        · intro w' hw'
          go_simp
          with_reducible rfl
        simp only [Act.put, List.setIfInBounds_toArray, List.set_cons_succ, List.set_cons_zero]
        refine AnyS.get (i := 10) (some 123) ?_ rfl rfl (by kernel_rfl) (by kernel_rfl) (by kernel_rfl) (by kernel_rfl) (fun _ _ _ h => h) (Reads.yes (by kernel_rfl) ?_ (fun _ => rfl)) hS ?_
        rotate_left
        · intro w' hw'
          go_simp
          with_reducible rfl
        simp only [Act.put, List.setIfInBounds_toArray, List.set_cons_succ, List.set_cons_zero]
        refine AnyS.get (i := 11) (some 124) ?_ rfl rfl (by kernel_rfl) (by kernel_rfl) (by kernel_rfl) (by kernel_rfl) (fun _ _ _ h => h) (Reads.yes (by kernel_rfl) ?_ (fun _ => rfl)) hS ?_
        rotate_left
        · intro w' hw'
          go_simp
          with_reducible rfl
        simp only [Act.put, List.setIfInBounds_toArray, List.set_cons_succ, List.set_cons_zero]
        refine AnyS.get (i := 12) (some 125) ?_ rfl rfl (by kernel_rfl) (by kernel_rfl) (by kernel_rfl) (by kernel_rfl) (fun _ _ _ h => h) (Reads.yes (by kernel_rfl) ?_ (fun _ => rfl)) hS ?_
        rotate_left
        · intro w' hw'
          go_simp
          with_reducible rfl
        simp only [Act.put, List.setIfInBounds_toArray, List.set_cons_succ, List.set_cons_zero]
        refine AnyS.get (i := 13) (some 126) ?_ rfl rfl (by kernel_rfl) (by kernel_rfl) (by kernel_rfl) (by kernel_rfl) (fun _ _ _ h => h) (Reads.yes (by kernel_rfl) ?_ (fun _ => rfl)) hS ?_
        rotate_left
        · intro w' hw'
          obtain ⟨⟨y0, y1, y2⟩, ⟨z0, z1, z2⟩, x0, x1, c1⟩ := hw'
          go_simp
          with_reducible rfl
        simp only [Act.put, List.setIfInBounds_toArray, List.set_cons_succ, List.set_cons_zero]
        clear hS
        refine AnyS.next (i := 14) rfl (by kernel_rfl) (by kernel_rfl) fun K' hK' => ?_
        refine want_yes (by kernel_rfl) ?_
        have sc := sl_two _ _ _ _ (HSA.out _ HBZ.out).1 _ (HSA.out _ HBZ.out).2 rfl
        have SC := Lib.hid sc
        clear sc
        go_simp
        refine ⟨trivial, (callsIn_wide.2 SC.out).mono ?_⟩
        rintro e wa ⟨rfl, ba⟩
        have HBA := Lib.hid (btP HBZ.out ba)
        have hS := HRS.out _ HBA.out
        refine hK' _ _ (fun _ => hS) ?_
        clear hK' K' SC ba HBZ
        simp only [Act.put, List.setIfInBounds_toArray, List.set_cons_succ, List.set_cons_zero]
        refine AnyS.get (i := 15) (some 128) ?_ rfl rfl (by kernel_rfl) (by kernel_rfl) (by kernel_rfl) (by kernel_rfl) (fun _ _ _ h => h) (Reads.yes (by kernel_rfl) ?_ (fun _ => rfl)) hS ?_
        rotate_left
        · intro w' hw'
          go_simp
          with_reducible rfl
        simp only [Act.put, List.setIfInBounds_toArray, List.set_cons_succ, List.set_cons_zero]
        refine AnyS.get (i := 16) (some 129) ?_ rfl rfl (by kernel_rfl) (by kernel_rfl) (by kernel_rfl) (by kernel_rfl) (fun _ _ _ h => h) (Reads.yes (by kernel_rfl) ?_ (fun _ => rfl)) hS ?_
        rotate_left
        · intro w' hw'
          go_simp
          with_reducible rfl
        simp only [Act.put, List.setIfInBounds_toArray, List.set_cons_succ, List.set_cons_zero]
        refine AnyS.get (i := 17) (some 130) ?_ rfl rfl (by kernel_rfl) (by kernel_rfl) (by kernel_rfl) (by kernel_rfl) (fun _ _ _ h => h) (Reads.yes (by kernel_rfl) ?_ (fun _ => rfl)) hS ?_
        rotate_left
        · intro w' hw'
          go_simp
          with_reducible rfl
        simp only [Act.put, List.setIfInBounds_toArray, List.set_cons_succ, List.set_cons_zero]
        refine AnyS.get (i := 18) (some 131) ?_ rfl rfl (by kernel_rfl) (by kernel_rfl) (by kernel_rfl) (by kernel_rfl) (fun _ _ _ h => h) (Reads.yes (by kernel_rfl) ?_ (fun _ => rfl)) hS ?_
        rotate_left
        · intro w' hw'
          go_simp
          with_reducible rfl
        simp only [Act.put, List.setIfInBounds_toArray, List.set_cons_succ, List.set_cons_zero]
        refine AnyS.get (i := 19) (some 132) ?_ rfl rfl (by kernel_rfl) (by kernel_rfl) (by kernel_rfl) (by kernel_rfl) (fun _ _ _ h => h) (Reads.yes (by kernel_rfl) ?_ (fun _ => rfl)) hS ?_
        rotate_left
        · intro w' hw'
          go_simp
          with_reducible rfl
        simp only [Act.put, List.setIfInBounds_toArray, List.set_cons_succ, List.set_cons_zero]
        refine AnyS.get (i := 20) (some 133) ?_ rfl rfl (by kernel_rfl) (by kernel_rfl) (by kernel_rfl) (by kernel_rfl) (fun _ _ _ h => h) (Reads.yes (by kernel_rfl) ?_ (fun _ => rfl)) hS ?_
        rotate_left
        · intro w' hw'
          obtain ⟨⟨y0, y1, y2⟩, ⟨z0, z1, z2⟩, x0, x1, c1⟩ := hw'
          go_simp
          with_reducible rfl
        simp only [Act.put, List.setIfInBounds_toArray, List.set_cons_succ, List.set_cons_zero]
        refine AnyS.get (i := 21) (some 134) ?_ rfl rfl (by kernel_rfl) (by kernel_rfl) (by kernel_rfl) (by kernel_rfl) (fun _ _ _ h => h) (Reads.yes (by kernel_rfl) ?_ (fun _ => rfl)) hS ?_
        rotate_left
        · intro w' hw'
          go_simp
          with_reducible rfl
        simp only [Act.put, List.setIfInBounds_toArray, List.set_cons_succ, List.set_cons_zero]
        refine AnyS.get (i := 22) (some 135) ?_ rfl rfl (by kernel_rfl) (by kernel_rfl) (by kernel_rfl) (by kernel_rfl) (fun _ _ _ h => h) (Reads.yes (by kernel_rfl) ?_ (fun _ => rfl)) hS ?_
        rotate_left
        · intro w' hw'
          obtain ⟨⟨y0, y1, y2⟩, ⟨z0, z1, z2⟩, x0, x1, c1⟩ := hw'
          go_simp
          with_reducible rfl
        simp only [Act.put, List.setIfInBounds_toArray, List.set_cons_succ, List.set_cons_zero]
        refine AnyS.get (i := 24) (some 137) ?_ rfl rfl (by kernel_rfl) (by kernel_rfl) (by kernel_rfl) (by kernel_rfl) (fun _ _ _ h => h) (Reads.yes (by kernel_rfl) ?_ (fun _ => rfl)) hS ?_
        rotate_left
        · intro w' hw'
          go_simp
          with_reducible rfl
        simp only [Act.put, List.setIfInBounds_toArray, List.set_cons_succ, List.set_cons_zero]
        refine AnyS.get (i := 25) (some 138) ?_ rfl rfl (by kernel_rfl) (by kernel_rfl) (by kernel_rfl) (by kernel_rfl) (fun _ _ _ h => h) (Reads.yes (by kernel_rfl) ?_ (fun _ => rfl)) hS ?_
        rotate_left
        · intro w' hw'
          go_simp
          with_reducible rfl
        simp only [Act.put, List.setIfInBounds_toArray, List.set_cons_succ, List.set_cons_zero]
        refine AnyS.get (i := 26) (some 139) ?_ rfl rfl (by kernel_rfl) (by kernel_rfl) (by kernel_rfl) (by kernel_rfl) (fun _ _ _ h => h) (Reads.yes (by kernel_rfl) ?_ (fun _ => rfl)) hS ?_
        rotate_left
        · intro w' hw'
          obtain ⟨⟨y0, y1, y2⟩, ⟨z0, z1, z2⟩, x0, x1, c1⟩ := hw'
          go_simp
          with_reducible rfl
        simp only [Act.put, List.setIfInBounds_toArray, List.set_cons_succ, List.set_cons_zero]
        refine AnyS.get (i := 27) (some 140) ?_ rfl rfl (by kernel_rfl) (by kernel_rfl) (by kernel_rfl) (by kernel_rfl) (fun _ _ _ h => h) (Reads.yes (by kernel_rfl) ?_ (fun _ => rfl)) hS ?_
        rotate_left
        · intro w' hw'
          go_simp
          with_reducible rfl
        simp only [Act.put, List.setIfInBounds_toArray, List.set_cons_succ, List.set_cons_zero]
        refine AnyS.get (i := 28) (some 141) ?_ rfl rfl (by kernel_rfl) (by kernel_rfl) (by kernel_rfl) (by kernel_rfl) (fun _ _ _ h => h) (Reads.yes (by kernel_rfl) ?_ (fun _ => rfl)) hS ?_
        rotate_left
        · intro w' hw'
          obtain ⟨⟨y0, y1, y2⟩, ⟨z0, z1, z2⟩, x0, x1, c1⟩ := hw'
          go_simp
          with_reducible rfl
        simp only [Act.put, List.setIfInBounds_toArray, List.set_cons_succ, List.set_cons_zero]
        clear hS
        refine AnyS.next (i := 23) rfl (by kernel_rfl) (by kernel_rfl) fun K' hK' => ?_
        refine want_yes (by kernel_rfl) ?_
        have rc := (HTW.out _ HBA.out).range (by have := HML.out; omega) e0 e1
        have RC := Lib.hid rc
        clear rc
        go_simp
        refine ⟨trivial, (callsIn_wide.2 RC.out).mono ?_⟩
        rintro e wb ⟨bb, va, rfl, own⟩
        have HBB := Lib.hid (btP HBA.out bb)
        have SA := Lib.hid (slAt_own own)
        refine hK' _ _ (fun _ => HRS.out _ HBB.out) ?_
        have BB := Lib.hid bb
        clear hK' K' RC bb own
        simp only [Act.put, List.setIfInBounds_toArray, List.set_cons_succ, List.set_cons_zero]
        refine AnyS.next (i := 29) rfl (by kernel_rfl) (by kernel_rfl) fun K' hK' => ?_
        refine want_yes (by kernel_rfl) ?_
        have rc := (HTW.out _ HBB.out).rrange (by have := HML.out; omega) e0 e1
        have RC := Lib.hid rc
        clear rc
        go_simp
        refine ⟨trivial, (callsIn_wide.2 RC.out).mono ?_⟩
        rintro e wc ⟨bb, vb, rfl, own⟩
        have HBC := Lib.hid (btP HBB.out bb)
        have SB := Lib.hid (slAt_own own)
        refine hK' _ _ (fun _ => HRS.out _ HBC.out) ?_
        have BB := Lib.hid bb
        clear hK' K' RC bb own
        simp only [Act.put, List.setIfInBounds_toArray, List.set_cons_succ, List.set_cons_zero]
        refine AnyS.next (i := 30) rfl (by kernel_rfl) (by kernel_rfl) fun K' hK' => ?_
        refine want_yes (by kernel_rfl) ?_
        have sc := sl_two _ _ _ _ (SA.out.later BB.out) _ SB.out rfl
        have SC := Lib.hid sc
        clear sc
        go_simp
        refine ⟨trivial, (callsIn_wide.2 SC.out).mono ?_⟩
        rintro e wd ⟨rfl, bd⟩
        have HBD := Lib.hid (btP HBC.out bd)
        have hS := HRS.out _ HBD.out
        refine hK' _ _ (fun _ => hS) ?_
        clear hK' K' SC bd BB SA SB
        simp only [Act.put, List.setIfInBounds_toArray, List.set_cons_succ, List.set_cons_zero]
        refine AnyS.get (i := 31) (some 144) ?_ rfl rfl (by kernel_rfl) (by kernel_rfl) (by kernel_rfl) (by kernel_rfl) (fun _ _ _ h => h) (Reads.yes (by kernel_rfl) ?_ (fun _ => rfl)) hS ?_
        rotate_left
        · intro w' hw'
          go_simp
          with_reducible rfl
        simp only [Act.put, List.setIfInBounds_toArray, List.set_cons_succ, List.set_cons_zero]
        refine AnyS.get (i := 32) (some 145) ?_ rfl rfl (by kernel_rfl) (by kernel_rfl) (by kernel_rfl) (by kernel_rfl) (fun _ _ _ h => h) (Reads.yes (by kernel_rfl) ?_ (fun _ => rfl)) hS ?_
        rotate_left
        · intro w' hw'
          go_simp
          with_reducible rfl
        simp only [Act.put, List.setIfInBounds_toArray, List.set_cons_succ, List.set_cons_zero]
        refine AnyS.done (by kernel_rfl) ?_ _
        clear hS
        go_wp2_with fail
        go_meet
        exact ⟨rfl, HBD⟩
      obtain ⟨rfl, HC⟩ := hcut
      have HO := Lib.hid (HOW.out _ HC.out)
      clear HC HOW HTW HSA HRS
      go_wp2_with fail
      go_loopw [19] (fun i wq => ∃ m : Nat, i = .int .i64 m ∧ m ≤ nm ∧ Hid (Own W0.heap.size p r M A7 cap7 W0 wq ∧ W0.heap.size ≤ wq.heap.size)) (fun i _ => nm - (intOf i).toNat)
      case atStart => exact ⟨0, rfl, by omega, Lib.hid HO.out⟩
      case round =>
        obtain ⟨m, rfl, hm, HQ⟩ := hrel
        clear HO
        by_cases hmn : m < nm
        · obtain ⟨g, M', rfl, e2, e3, e4, fs, gs, HMM, HRR, k1, k2, k3, k4, k5⟩ := HQ.out.1.2 (by rw [HNM.out]; omega)
          have hml : m < M'.length := by rw [e3, HNM.out]; exact hmn
          have op := Own.put e2 e3 e4 HMM HRR k1 k2 k3 k4 k5 hml cm9
          obtain ⟨x0, x1, x2⟩ := e4.row.cells (i := m) hml
          simp only [Nat.zero_add] at x0 x1 x2
          have f0 := e4.free (m * 3)
          have f1 := e4.free (m * 3 + 1)
          have f2 := e4.free (m * 3 + 2)
          have HOP := Lib.hid op
          clear op e2 e3 e4 HMM HRR k1 k2 k3 k4 k5 hml
          go_wp2_with fail
          go_roundw
          case rel =>
            refine ⟨m + 1, rfl, by omega, Lib.hid ⟨HOP.out, ?_⟩⟩
            have := HQ.out.2
            simpa [World.setCell] using this
          case measure => simp [intOf]; omega
        · obtain rfl : m = nm := by omega
          have T9 := HQ.out.1.1
          have l9 := HQ.out.2
          clear HQ
          go_wp2_with fail
          obtain ⟨vq, c1, sr, hrl⟩ := T9.cell
          have HTW := Lib.hid (fun W' (hb : Below wr.heap.size wr W') => T9.later l9 hb)
          have HRS := Lib.hid (fun W' (hb : Below wr.heap.size wr W') => (hb.cell (p := ⟨r, 0, none⟩) hrl).trans c1)
          have HSA := Lib.hid (fun W' (hb : Below wr.heap.size wr W') => sr.later hb)
          have HBW := Lib.hid T9.below
          clear T9 l9 c1 sr hrl
          refine (wpIn_wide (n := 5)).1 ?_
          refine wpIn_region_lit_late (fun W' => W'.cell? ⟨r, 0, none⟩ = some vq) (fun _ => false) (k := 11) (listed := #[false, false, false, false, false, false, false, false, false, false, false]) (by kernel_rfl) (by kernel_rfl) (by kernel_rfl) ?_
          have bz := Below.drew (Below.refl wr.heap.size wr)
          obtain ⟨wz, hwz⟩ : ∃ wz, wr.drew = wz := ⟨_, rfl⟩
          rw [hwz] at bz ⊢
          clear hwz
          have hS := HRS.out _ bz
          have HBZ := Lib.hid bz
          clear bz
          refine AnyS.get (i := 0) (some 156) ?_ rfl rfl (by kernel_rfl) (by kernel_rfl) (by kernel_rfl) (by kernel_rfl) (fun _ _ _ h => h) (Reads.yes (by kernel_rfl) ?_ (fun _ => rfl)) hS ?_
          rotate_left
          · intro w' hw'
            go_simp
            with_reducible rfl
          simp only [Act.put, List.setIfInBounds_toArray, List.set_cons_succ, List.set_cons_zero]
          refine AnyS.get (i := 2) (some 158) ?_ rfl rfl (by kernel_rfl) (by kernel_rfl) (by kernel_rfl) (by kernel_rfl) (fun _ _ _ h => h) (Reads.yes (by kernel_rfl) ?_ (fun _ => rfl)) hS ?_
          rotate_left
          · intro w' hw'
            go_simp
            with_reducible rfl
          simp only [Act.put, List.setIfInBounds_toArray, List.set_cons_succ, List.set_cons_zero]
          refine AnyS.get (i := 3) (some 159) ?_ rfl rfl (by kernel_rfl) (by kernel_rfl) (by kernel_rfl) (by kernel_rfl) (fun _ _ _ h => h) (Reads.yes (by kernel_rfl) ?_ (fun _ => rfl)) hS ?_
          rotate_left
          · intro w' hw'
            go_simp
            with_reducible rfl
          simp only [Act.put, List.setIfInBounds_toArray, List.set_cons_succ, List.set_cons_zero]
          refine AnyS.get (i := 4) (some 160) ?_ rfl rfl (by kernel_rfl) (by kernel_rfl) (by kernel_rfl) (by kernel_rfl) (fun _ _ _ h => h) (Reads.yes (by kernel_rfl) ?_ (fun _ => rfl)) hS ?_
          rotate_left
          · intro w' hw'
            go_simp
            with_reducible rfl
          simp only [Act.put, List.setIfInBounds_toArray, List.set_cons_succ, List.set_cons_zero]
          refine AnyS.get (i := 5) (some 161) ?_ rfl rfl (by kernel_rfl) (by kernel_rfl) (by kernel_rfl) (by kernel_rfl) (fun _ _ _ h => h) (Reads.yes (by kernel_rfl) ?_ (fun _ => rfl)) hS ?_
          rotate_left
          · intro w' hw'
            go_simp
            with_reducible rfl
          simp only [Act.put, List.setIfInBounds_toArray, List.set_cons_succ, List.set_cons_zero]
          clear hS
          refine AnyS.next (i := 1) rfl (by kernel_rfl) (by kernel_rfl) fun K' hK' => ?_
          refine want_yes (by kernel_rfl) ?_
          have rc := (HTW.out _ HBZ.out).range (by have := HML.out; omega) [] []
          have RC := Lib.hid rc
          clear rc
          go_simp
          refine ⟨trivial, (callsIn_wide.2 RC.out).mono ?_⟩
          rintro e wa ⟨bb, va, rfl, own⟩
          rw [rangeC_all] at own
          have HBA := Lib.hid (btP HBZ.out bb)
          have SA := Lib.hid (slAt_own own)
          refine hK' _ _ (fun _ => HRS.out _ HBA.out) ?_
          clear hK' K' RC bb own HBZ
          simp only [Act.put, List.setIfInBounds_toArray, List.set_cons_succ, List.set_cons_zero]
          refine AnyS.next (i := 6) rfl (by kernel_rfl) (by kernel_rfl) fun K' hK' => ?_
          refine want_yes (by kernel_rfl) ?_
          have sc := sl_two _ _ _ _ SA.out _ (HSA.out _ HBA.out) rfl
          have SC := Lib.hid sc
          clear sc
          go_simp
          refine ⟨trivial, (callsIn_wide.2 SC.out).mono ?_⟩
          rintro e wb ⟨rfl, bb⟩
          have HBB := Lib.hid (btP HBA.out bb)
          have hS := HRS.out _ HBB.out
          refine hK' _ _ (fun _ => hS) ?_
          clear hK' K' SC bb SA HBA
          simp only [Act.put, List.setIfInBounds_toArray, List.set_cons_succ, List.set_cons_zero]
          refine AnyS.get (i := 7) (some 163) ?_ rfl rfl (by kernel_rfl) (by kernel_rfl) (by kernel_rfl) (by kernel_rfl) (fun _ _ _ h => h) (Reads.yes (by kernel_rfl) ?_ (fun _ => rfl)) hS ?_
          rotate_left
          · intro w' hw'
            go_simp
            with_reducible rfl
          simp only [Act.put, List.setIfInBounds_toArray, List.set_cons_succ, List.set_cons_zero]
          clear hS
          refine AnyS.next (i := 8) rfl (by kernel_rfl) (by kernel_rfl) fun K' hK' => ?_
          refine want_yes (by kernel_rfl) ?_
          go_simp
          refine ⟨trivial, (callsIn_wide.2 (mdoes_true _)).mono ?_⟩
          rintro e wc ⟨rfl, bb⟩
          have HBC := Lib.hid (btP HBB.out bb)
          have hS := HRS.out _ HBC.out
          refine hK' _ _ (fun _ => hS) ?_
          clear hK' K' bb HBB
          simp only [Act.put, List.setIfInBounds_toArray, List.set_cons_succ, List.set_cons_zero]
          refine AnyS.get (i := 9) (some 165) ?_ rfl rfl (by kernel_rfl) (by kernel_rfl) (by kernel_rfl) (by kernel_rfl) (fun _ _ _ h => h) (Reads.yes (by kernel_rfl) ?_ (fun _ => rfl)) hS ?_
          rotate_left
          · intro w' hw'
            go_simp
            with_reducible rfl
          simp only [Act.put, List.setIfInBounds_toArray, List.set_cons_succ, List.set_cons_zero]
          refine AnyS.get (i := 10) (some 6) ?_ rfl rfl (by kernel_rfl) (by kernel_rfl) (by kernel_rfl) (by kernel_rfl) (fun _ _ _ h => h) (Reads.yes (by kernel_rfl) ?_ (fun _ => rfl)) hS ?_
          rotate_left
          · intro w' hw'
            go_simp
            with_reducible rfl
          simp only [Act.put, List.setIfInBounds_toArray, List.set_cons_succ, List.set_cons_zero]
          refine AnyS.done (by kernel_rfl) ?_ _
          clear hS
          go_wp2_with fail
          go_ret
          exact ⟨rfl, HB0.out.trans ((HBW.out.trans (HBC.out.mono (by have := HBW.out.size; omega))).mono (by have := HB0.out.size; omega))⟩
end Go.Proofs.Ytpcapifjbhaeeaa
