/- TablesOpen's walk. -/
import Derived.Test.YtanaoepakllohaaTabV
set_option linter.unusedSimpArgs false
set_option linter.unusedVariables false
namespace Go.Proofs.Ytanaoepakllohaa
set_option maxRecDepth 16000
open Go.RowKit Spoor
set_option linter.unusedVariables false

def cm9 : Ce := ⟨[], -9, []⟩
def Rows2 (lo hi : Nat) (A B : Option Addr) (ca cb na nb : Nat) (wT W : World) : Prop :=
  (0 < na → ∃ g M, A = some ⟨g, 0, none⟩ ∧ lo ≤ g ∧ g < hi ∧ M.length = na ∧ RowW g ca M W) ∧ (0 < nb → ∃ g M, B = some ⟨g, 0, none⟩ ∧ lo ≤ g ∧ hi ≤ g ∧ M.length = nb ∧ RowW g cb M W) ∧ Below lo wT W
theorem RowW.aside {g h cap : Nat} {M : List Ce} {W : World} (hr : RowW g cap M W) (hne : g ≠ h) (o : Nat) (v : Value) : RowW g cap M (W.setCell ⟨h, o, none⟩ v) := by
  obtain ⟨cur, h1, h2⟩ := hr
  exact ⟨cur, (Below.heap_setCell W ⟨h, o, none⟩ v g hne).trans h1, h2⟩
theorem Rows2.put16 {lo hi : Nat} {A : Option Addr} {ca cb na nb g k : Nat} {M : List Ce} {wT W : World} (h : Rows2 lo hi A (some ⟨g, 0, none⟩) ca cb na nb wT W) (e2 : lo ≤ g) (e3 : hi ≤ g) (e4 : M.length = nb) (e5 : RowW g cb M W) (hk : k < M.length) :
    Rows2 lo hi A (some ⟨g, 0, none⟩) ca cb na nb wT (((W.setCell ⟨g, k * 3, none⟩ (.string ⟨cm9.k.toArray⟩)).setCell ⟨g, k * 3 + 1, none⟩ (.int .i64 cm9.q)).setCell ⟨g, k * 3 + 2, none⟩ (.string ⟨cm9.v.toArray⟩)) := by
  refine ⟨fun h0 => ?_, fun _ => ⟨g, M.set k cm9, rfl, e2, e3, by rw [List.length_set]; exact e4, e5.put hk cm9⟩, below_set (below_set (below_set h.2.2 e2 _ _) e2 _ _) e2 _ _⟩
  obtain ⟨g', M', rfl, f2, f3, f4, f5⟩ := h.1 h0
  have hne : g' ≠ g := by omega
  exact ⟨g', M', rfl, f2, f3, f4, ((f5.aside hne _ _).aside hne _ _).aside hne _ _⟩
theorem Rows2.put15 {lo hi : Nat} {B : Option Addr} {ca cb na nb g k : Nat} {M : List Ce} {wT W : World} (h : Rows2 lo hi (some ⟨g, 0, none⟩) B ca cb na nb wT W) (e2 : lo ≤ g) (e3 : g < hi) (e4 : M.length = na) (e5 : RowW g ca M W) (hk : k < M.length) :
    Rows2 lo hi (some ⟨g, 0, none⟩) B ca cb na nb wT (((W.setCell ⟨g, k * 3, none⟩ (.string ⟨cm9.k.toArray⟩)).setCell ⟨g, k * 3 + 1, none⟩ (.int .i64 cm9.q)).setCell ⟨g, k * 3 + 2, none⟩ (.string ⟨cm9.v.toArray⟩)) := by
  refine ⟨fun _ => ⟨g, M.set k cm9, rfl, e2, e3, by rw [List.length_set]; exact e4, e5.put hk cm9⟩, fun h0 => ?_, below_set (below_set (below_set h.2.2 e2 _ _) e2 _ _) e2 _ _⟩
  obtain ⟨g', M', rfl, f2, f3, f4, f5⟩ := h.2.1 h0
  have hne : g' ≠ g := by omega
  exact ⟨g', M', rfl, f2, f3, f4, ((f5.aside hne _ _).aside hne _ _).aside hne _ _⟩
set_option maxRecDepth 100000 in
set_option maxHeartbeats 16000000 in
theorem tablesOpen_yes (w : World) (text key e0 e1 : List UInt8) (ht : ¬ (20000 : Int) < (text.length : Int)) (hk : ¬ (1000 : Int) < (key.length : Int)) (hk0 : ¬ (1000 : Int) < (e0.length : Int)) (hk1 : ¬ (1000 : Int) < (e1.length : Int)) :
    Calls Try.prog 7 #[.string ⟨text.toArray⟩, .string ⟨key.toArray⟩, .agg #[.string ⟨e0.toArray⟩, .string ⟨e1.toArray⟩]] w fun e w' => e = .returned (.bool true) ∧ Below w.heap.size w w' := by
  have CDO := Lib.hid tdoes_true
  have CO := Lib.hid (fun W => openT_any text W (by omega))
  unfold OpenEx at CO
  have CR := Lib.hid (fun W => refOpenT_any text W (by omega))
  unfold RefEx at CR
  have HRO := Lib.hid (refOpen_eq text)
  have HK := Lib.hid (show key.length ≤ 140737488351232 by omega)
  have f0 := decide_eq_false ht
  have f1 := decide_eq_false hk
  have f2 := decide_eq_false hk0
  have f3 := decide_eq_false hk1
  have nb := (Below.refl w.heap.size w).alloc (Nat.le_refl _) (.cells #[.string ⟨e0.toArray⟩, .string ⟨e1.toArray⟩] 31)
  have hbx := heap_alloc_new w (.cells #[.string ⟨e0.toArray⟩, .string ⟨e1.toArray⟩] 31)
  have hsz : (w.alloc (.cells #[.string ⟨e0.toArray⟩, .string ⟨e1.toArray⟩] 31)).heap.size = w.heap.size + 1 := by simp
  obtain ⟨W0, hW0⟩ : ∃ W0, w.alloc (.cells #[.string ⟨e0.toArray⟩, .string ⟨e1.toArray⟩] 31) = W0 := ⟨_, rfl⟩
  rw [hW0] at nb hbx hsz
  have x0 : W0.cell? ⟨w.heap.size, 0, none⟩ = some (.string ⟨e0.toArray⟩) := by simp [World.cell?, hbx]
  have x1 : W0.cell? ⟨w.heap.size, 1, none⟩ = some (.string ⟨e1.toArray⟩) := by simp [World.cell?, hbx]
  have HW0 := Lib.hid (fun W (hb : Below W0.heap.size W0 W) => And.intro ((hb.block w.heap.size (by omega)).trans hbx) (btB nb hb))
  clear nb hbx hsz ht hk hk0 hk1
  go_enter Try.func7, Try.ntmps7
  go_wp2_with fail
  clear hW0 x0 x1
  obtain ⟨X, hX⟩ : ∃ X, w.heap.size = X := ⟨_, rfl⟩
  have HXe := Lib.hid hX
  rw [hX] at HW0 ⊢
  clear hX
  refine (CO.out _).mono ?_
  rintro e w1 ⟨b1, (⟨ho, rfl⟩ | ⟨gs, t, ho, rfl, ht1⟩)⟩
  · have L1 := Lib.hid (fun W (hb : Below w1.heap.size w1 W) => HW0.out W (btB b1 hb))
    have HO := Lib.hid ho
    clear b1 ho HW0 CO
    go_wp2_with fail
    refine (CR.out _).mono ?_
    rintro e w2 ⟨b2, (⟨-, rfl⟩ | ⟨L, ul, hl', -⟩)⟩
    rotate_left
    · have := HRO.out
      rw [HO.out, hl'] at this
      cases this
    have HX := Lib.hid (fun W (hb : Below w2.heap.size w2 W) => show W.cell? ⟨X, 0, none⟩ = some (.string ⟨e0.toArray⟩) ∧ W.cell? ⟨X, 1, none⟩ = some (.string ⟨e1.toArray⟩) from by have h := (L1.out W (btB b2 hb)).1; simp [World.cell?, h])
    have HB2 := Lib.hid (L1.out _ b2).2
    have HXL := Lib.hid (show X < w2.heap.size from (Array.getElem?_eq_some_iff.1 (L1.out w2 b2).1).1)
    clear b2 L1 HO CR HRO
    obtain ⟨ul, hul0⟩ : ∃ ul : Value, .slice none 0 0 = ul := ⟨_, rfl⟩
    have hs : ∀ W, Below w2.heap.size w2 W → SlAt ul [] W := fun W _ => hul0 ▸ slAt_nil W
    have hul : ∃ A c, ul = .slice A ([] : List Ce).length c := ⟨none, 0, hul0.symm⟩
    rw [hul0]
    have hg : ∀ W, Below w2.heap.size w2 W → Calls Try.prog 18 #[.pointer none, .string ⟨key.toArray⟩] W fun e w' => e = .returned (ceV (findC [] key)) ∧ Below W.heap.size W w' := fun W _ => getNil_any key W HK.out
    have hr : ∀ W, Below w2.heap.size w2 W → Calls Try.prog 22 #[.pointer none, .string ⟨e0.toArray⟩, .string ⟨e1.toArray⟩] W fun e w' => Below W.heap.size W w' ∧ ∃ v, e = .returned v ∧ w'.ownsRow W.heap.size 36 3 v (rangeC [] e0 e1).length (rowOf (rangeC [] e0 e1)) := fun W _ => (rangeNil_any e0 e1 W).mono fun e w' ⟨he, hb⟩ => ⟨hb, _, he, World.ownsRow_nil _ _ _ _⟩
    have ha : ∀ W, Below w2.heap.size w2 W → Calls Try.prog 26 #[.pointer none] W fun e w' => Below W.heap.size W w' ∧ ∃ v, e = .returned v ∧ w'.ownsRow W.heap.size 36 3 v ([] : List Ce).length (rowOf []) := fun W _ => (allNil_any W).mono fun e w' ⟨he, hb⟩ => ⟨hb, _, he, World.ownsRow_nil _ _ _ _⟩
    have hl : ∀ W, Below w2.heap.size w2 W → Calls Try.prog 20 #[.pointer none] W fun e w' => e = .returned (.int .i64 (([] : List Ce).length : Nat)) ∧ Below W.heap.size W w' := fun W _ => lenNil_any W
    have hlb : ([] : List Ce).length ≤ 4096 := by simp
    obtain ⟨L, hL⟩ : ∃ L : List Ce, [] = L := ⟨_, rfl⟩
    rw [hL] at hs hul hg hr ha hl hlb
    clear hL hul0
    have cv := fun W (h : SlAt ul L W) => refGetT_any ul L key W h (by omega)
    have cf := fun W (h : SlAt ul L W) => refRangeS_any ul L e0 e1 W h (by omega)
    have cq := fun a b W (h : SlAt a (rangeC L e0 e1) W) (k : SlAt b (rangeC L e0 e1) W) => sameCells_any a b _ _ W h k
    rw [decide_eq_true rfl] at cq
    have ca := fun a b W (h : SlAt a L W) (k : SlAt b L W) => sameCells_any a b _ _ W h k
    rw [decide_eq_true rfl] at ca
    obtain ⟨x, ob, hce, -, -⟩ := ceV_form (findC L key)
    rw [hce] at cv hg
    obtain ⟨n, hn⟩ : ∃ n, L.length = n := ⟨_, rfl⟩
    rw [hn] at hlb hl hul
    have HN := Lib.hid hn
    have CV := Lib.hid cv
    have CF := Lib.hid cf
    have CQ := Lib.hid cq
    have CA := Lib.hid ca
    have HG := Lib.hid hg
    have HR := Lib.hid hr
    have HA := Lib.hid ha
    have HL := Lib.hid hl
    have HS := Lib.hid hs
    have HUL := Lib.hid hul
    clear cv cf cq ca hg hr ha hl hs hce hn hul
    go_wp2_with fail

    refine (HG.out _ (Below.refl _ _)).mono ?_
    rintro e w3 ⟨rfl, b3⟩
    have LAT3 := Lib.hid (fun W (hb : Below w3.heap.size w3 W) => btB b3 hb)
    clear b3 HG
    have nb6 := (Below.refl w3.heap.size w3).alloc (Nat.le_refl _) (boxC Ce.zero)
    have q6 := CeAt.boxed Ce.zero w3
    obtain ⟨c6, hc6⟩ : ∃ c6, w3.heap.size = c6 := ⟨_, rfl⟩
    have hcc6 : w3.heap.size ≤ c6 := by omega
    rw [hc6] at q6
    obtain ⟨v6, hv6⟩ : ∃ v6, w3.alloc (boxC Ce.zero) = v6 := ⟨_, rfl⟩
    have hvv6 : w3.alloc (.cells #[.string ⟨#[]⟩, .int .i64 0, .string ⟨#[]⟩] 36) = v6 := hv6
    rw [hv6] at nb6 q6
    obtain ⟨y0, y1, y2⟩ := q6.cell
    obtain ⟨z0, z1, z2⟩ := q6.frees
    unfold Ce.zero at y0 y1 y2
    dsimp only at y0 y1 y2
    have HQ6 := Lib.hid (q6.all nb6 hcc6 x)
    have hlt6 := q6.lt
    clear nb6 hv6 q6
    go_wp2_with fail
    obtain ⟨qq6, bb6⟩ := HQ6.out
    generalize (((v6.setCell ⟨c6, 0, none⟩ (.string ⟨(x).k.toArray⟩)).setCell ⟨c6, 1, none⟩ (.int .i64 (x).q)).setCell ⟨c6, 2, none⟩ (.string ⟨(x).v.toArray⟩)) = w4 at *
    have LAT4 := Lib.hid (fun W (hb : Below w4.heap.size w4 W) => And.intro (qq6.later hb qq6.lt) (LAT3.out W (btB bb6 hb)))
    clear y0 y1 y2 z0 z1 z2 HQ6 hvv6 bb6 qq6 LAT3
    refine (CV.out _ (HS.out _ (LAT4.out _ (Below.refl _ _)).2)).mono ?_
    rintro e w5 ⟨rfl, b5⟩
    have LAT5 := Lib.hid (fun W (hb : Below w5.heap.size w5 W) => LAT4.out W (btB b5 hb))
    clear b5 LAT4
    clear CV
    have nb7 := (Below.refl w5.heap.size w5).alloc (Nat.le_refl _) (boxC Ce.zero)
    have q7 := CeAt.boxed Ce.zero w5
    obtain ⟨c7, hc7⟩ : ∃ c7, w5.heap.size = c7 := ⟨_, rfl⟩
    have hcc7 : w5.heap.size ≤ c7 := by omega
    rw [hc7] at q7
    obtain ⟨v7, hv7⟩ : ∃ v7, w5.alloc (boxC Ce.zero) = v7 := ⟨_, rfl⟩
    have hvv7 : w5.alloc (.cells #[.string ⟨#[]⟩, .int .i64 0, .string ⟨#[]⟩] 36) = v7 := hv7
    rw [hv7] at nb7 q7
    obtain ⟨y0, y1, y2⟩ := q7.cell
    obtain ⟨z0, z1, z2⟩ := q7.frees
    unfold Ce.zero at y0 y1 y2
    dsimp only at y0 y1 y2
    have HQ7 := Lib.hid (q7.all nb7 hcc7 x)
    have hlt7 := q7.lt
    have hxv := HX.out v7 (LAT5.out v7 nb7).2
    obtain ⟨x0, x1⟩ := hxv
    have hXc : ¬ X = c7 := by have := (LAT5.out w5 (Below.refl _ _)).2.size; have := HXL.out; omega
    have hXc' : ¬ c7 = X := fun h => hXc h.symm
    clear nb7 hv7 q7
    go_wp2_with fail
    clear x0 x1 hXc hXc'
    obtain ⟨qq7, bb7⟩ := HQ7.out
    generalize (((v7.setCell ⟨c7, 0, none⟩ (.string ⟨(x).k.toArray⟩)).setCell ⟨c7, 1, none⟩ (.int .i64 (x).q)).setCell ⟨c7, 2, none⟩ (.string ⟨(x).v.toArray⟩)) = w6 at *
    have LAT6 := Lib.hid (fun W (hb : Below w6.heap.size w6 W) => And.intro (qq7.later hb qq7.lt) (LAT5.out W (btB bb7 hb)))
    clear y0 y1 y2 z0 z1 z2 HQ7 hvv7 bb7 qq7 LAT5
    refine (HR.out _ (LAT6.out _ (Below.refl _ _)).2.2).mono ?_
    rintro e w7 ⟨b7, v15, rfl, own15⟩
    have hs7 := (LAT6.out w6 (Below.refl _ _)).2.2.size
    have LAT7 := Lib.hid (fun W (hb : Below w7.heap.size w7 W) => LAT6.out W (btB b7 hb))
    clear b7 LAT6
    have hl7 := (LAT7.out w7 (Below.refl _ _)).2.2.size
    have H15 := Lib.hid (own_form own15)
    have S15 := Lib.hid (fun W (hb : Below w7.heap.size w7 W) => (slAt_own own15).later hb)
    clear own15
    go_wp2_with fail
    refine (HA.out _ (LAT7.out _ (Below.refl _ _)).2.2).mono ?_
    rintro e w8 ⟨b8, v16, rfl, own16⟩
    have H16 := Lib.hid (own_form own16)
    have S16 := Lib.hid (fun W (hb : Below w8.heap.size w8 W) => (slAt_own own16).later hb)
    have L78 := Lib.hid (fun W (hb : Below w8.heap.size w8 W) => btB b8 hb)
    have LAT8 := Lib.hid (fun W (hb : Below w8.heap.size w8 W) => LAT7.out W (btB b8 hb))
    clear b8 LAT7
    clear own16
    obtain ⟨q7', q6', -⟩ := LAT8.out w8 (Below.refl _ _)
    obtain ⟨y0, y1, y2⟩ := q7'.cell
    obtain ⟨y3, y4, y5⟩ := q6'.cell
    have k1 : (x.k != x.k) = false := by simp
    have k2 : (x.v != x.v) = false := by simp
    have k3 : (ob != ob) = false := by simp
    have k5 : (x.k == x.k) = true := by simp
    have k6 : (x.v == x.v) = true := by simp
    clear q7' q6'
    go_wp2_with fail
    clear y0 y1 y2 y3 y4 y5 k1 k2 k3 k5 k6
    refine (HL.out _ (LAT8.out _ (Below.refl _ _)).2.2).mono ?_
    rintro e w9 ⟨rfl, b9⟩
    have S15' := Lib.hid (fun W (hb : Below w9.heap.size w9 W) => S15.out W (L78.out W (btB b9 hb)))
    have S16' := Lib.hid (fun W (hb : Below w9.heap.size w9 W) => S16.out W (btB b9 hb))
    have L89 := Lib.hid (fun W (hb : Below w9.heap.size w9 W) => btB b9 hb)
    have LAT9 := Lib.hid (fun W (hb : Below w9.heap.size w9 W) => LAT8.out W (btB b9 hb))
    clear b9 LAT8
    clear S15 S16 HL
    have hul := HUL.out
    obtain ⟨AU, CU, hue⟩ := hul
    subst hue
    obtain ⟨x0, x1⟩ := HX.out _ (LAT9.out w9 (Below.refl _ _)).2.2
    have k4 : ((n : Int) != (n : Int)) = false := by simp
    go_wp2_with fail
    clear x0 x1 k4
    refine (CF.out _ (HS.out _ (LAT9.out _ (Below.refl _ _)).2.2)).mono ?_
    rintro e w10 ⟨b10, vr, rfl, slr⟩
    have slr' := S15'.out _ b10
    have L90 := Lib.hid (fun W (hb : Below w10.heap.size w10 W) => btB b10 hb)
    have LAT10 := Lib.hid (fun W (hb : Below w10.heap.size w10 W) => LAT9.out W (btB b10 hb))
    clear b10 LAT9
    go_wp2_with fail
    refine (CQ.out _ _ _ slr' slr).mono ?_
    rintro e w11 ⟨rfl, b11⟩
    have L91 := Lib.hid (fun W (hb : Below w11.heap.size w11 W) => L90.out W (btB b11 hb))
    have LAT11 := Lib.hid (fun W (hb : Below w11.heap.size w11 W) => LAT10.out W (btB b11 hb))
    clear b11 LAT10
    clear slr slr' L90
    go_wp2_with fail
    refine (CA.out _ _ _ (S16'.out _ (L91.out _ (Below.refl _ _))) (HS.out _ (LAT11.out _ (Below.refl _ _)).2.2)).mono ?_
    rintro e w12 ⟨rfl, b12⟩
    have L92 := Lib.hid (fun W (hb : Below w12.heap.size w12 W) => L91.out W (btB b12 hb))
    have LAT12 := Lib.hid (fun W (hb : Below w12.heap.size w12 W) => LAT11.out W (btB b12 hb))
    clear b12 LAT11
    obtain ⟨A15, cap15, rfl, -, -, hp15⟩ := H15.out
    obtain ⟨A16, cap16, rfl, hc16, hm16, hp16⟩ := H16.out
    have R0 := Lib.hid (show Rows2 w2.heap.size w7.heap.size A15 A16 cap15 cap16 (rangeC L e0 e1).length L.length w2 w12 from ⟨fun h => by
        obtain ⟨g, rfl, h1, h2, h3⟩ := hp15 h
        exact ⟨g, _, rfl, by omega, h2, rfl, h3.later (L78.out _ (L89.out _ (L92.out _ (Below.refl _ _))))⟩, fun h => by
        obtain ⟨g, rfl, h1, h2, h3⟩ := hp16 h
        exact ⟨g, _, rfl, by omega, h1, rfl, h3.later (L89.out _ (L92.out _ (Below.refl _ _)))⟩, (LAT12.out _ (Below.refl _ _)).2.2⟩)
    obtain ⟨n15, hn15⟩ : ∃ n15, (rangeC L e0 e1).length = n15 := ⟨_, rfl⟩
    have hN15 : n15 ≤ 100000 := by rw [← hn15]; have := List.length_filter_le (within e0 e1) L; have := HN.out; unfold rangeC; omega
    rw [HN.out, hn15] at R0
    rw [HN.out, hn15]
    clear hp15 hp16 hc16 hm16 hn15 H15 H16 L78 L89 L91 L92 LAT12 S15' S16' CF CQ HR
    go_wp2_with fail
    go_loopw [17] (fun i wr => ∃ m : Nat, i = .int .i64 m ∧ m ≤ n ∧ Hid (Rows2 w2.heap.size w7.heap.size A15 A16 cap15 cap16 n15 n w2 wr)) (fun i _ => n - (intOf i).toNat)
    case atStart => exact ⟨0, rfl, by omega, R0⟩
    case round =>
      obtain ⟨m, rfl, hm, HQ⟩ := hrel
      clear R0
      by_cases hmn : m < n
      · obtain ⟨g, M, rfl, e2, e3, e4, e5⟩ := HQ.out.2.1 (by omega)
        have hml : m < M.length := by omega
        have HP := Lib.hid (HQ.out.put16 e2 e3 e4 e5 hml)
        obtain ⟨x0, x1, x2⟩ := e5.row.cells (i := m) hml
        simp only [Nat.zero_add] at x0 x1 x2
        have f0 := e5.free (m * 3)
        have f1 := e5.free (m * 3 + 1)
        have f2 := e5.free (m * 3 + 2)
        clear e2 e3 e4 e5 hml
        go_wp2_with fail
        go_roundw
        case rel => exact ⟨m + 1, by go_num, by omega, Lib.hid HP.out⟩
        case measure => simp [intOf]; omega
      · obtain rfl : m = n := by omega
        go_wp2_with fail
        go_loopw [18] (fun i wq => ∃ k : Nat, i = .int .i64 k ∧ k ≤ n15 ∧ Hid (Rows2 w2.heap.size w7.heap.size A15 A16 cap15 cap16 n15 m w2 wq)) (fun i _ => n15 - (intOf i).toNat)
        case atStart => exact ⟨0, rfl, by omega, HQ⟩
        case round =>
          obtain ⟨k, rfl, hk', HQ2⟩ := hrel
          clear HQ
          by_cases hkn : k < n15
          · obtain ⟨g, M, rfl, e2, e3, e4, e5⟩ := HQ2.out.1 (by omega)
            have hml : k < M.length := by omega
            have HP := Lib.hid (HQ2.out.put15 e2 e3 e4 e5 hml)
            obtain ⟨x0, x1, x2⟩ := e5.row.cells (i := k) hml
            simp only [Nat.zero_add] at x0 x1 x2
            have f0 := e5.free (k * 3)
            have f1 := e5.free (k * 3 + 1)
            have f2 := e5.free (k * 3 + 2)
            clear e2 e3 e4 e5 hml
            go_wp2_with fail
            go_roundw
            case rel => exact ⟨k + 1, by go_num, by omega, Lib.hid HP.out⟩
            case measure => simp [intOf]; omega
          · obtain rfl : k = n15 := by omega
            have HBW := Lib.hid HQ2.out.2.2
            clear HQ2
            go_wp2_with fail
            refine (HA.out _ HBW.out).mono ?_
            rintro e w13 ⟨b13, v17, rfl, own17⟩
            have HB13 := Lib.hid (btB HBW.out b13)
            have S17 := slAt_own own17
            clear own17 b13 HBW
            go_wp2_with fail
            refine (CA.out _ _ _ S17 (HS.out _ HB13.out)).mono ?_
            rintro e w14 ⟨rfl, b14⟩
            have HB14 := Lib.hid (btB HB13.out b14)
            clear HB13 S17 b14
            go_wp2_with fail
            refine (CDO.out _).mono ?_
            rintro e w15 ⟨rfl, b15⟩
            have HB15 := btB HB14.out b15
            go_wp2_with fail
            go_ret
            exact ⟨rfl, by rw [HXe.out]; exact HB2.out.trans (HB15.mono (by have := HXL.out; omega))⟩
  · have L1 := Lib.hid (fun W (hb : Below w1.heap.size w1 W) => HW0.out W (btB b1 hb))
    have HT1 := Lib.hid ht1
    have HO := Lib.hid ho
    clear b1 ho HW0 CO ht1
    go_wp2_with fail
    refine (CR.out _).mono ?_
    rintro e w2 ⟨b2, (⟨hl', -⟩ | ⟨L, ul, hl', rfl, own2⟩)⟩
    · have := HRO.out
      rw [HO.out, hl'] at this
      cases this
    have hLe : L = gs.flatten := by
      have := HRO.out
      rw [HO.out, hl'] at this
      exact Option.some.inj this
    have HX := Lib.hid (fun W (hb : Below w2.heap.size w2 W) => show W.cell? ⟨X, 0, none⟩ = some (.string ⟨e0.toArray⟩) ∧ W.cell? ⟨X, 1, none⟩ = some (.string ⟨e1.toArray⟩) from by have h := (L1.out W (btB b2 hb)).1; simp [World.cell?, h])
    have HB2 := Lib.hid (L1.out _ b2).2
    have HXL := Lib.hid (show X < w2.heap.size from (Array.getElem?_eq_some_iff.1 (L1.out w2 b2).1).1)
    obtain ⟨q1, q2, q3, q4, -, -, -⟩ := open_facts HO.out
    have hT := fun W (hb : Below w2.heap.size w2 W) => HT1.out.later (btB b2 hb)
    have hs : ∀ W, Below w2.heap.size w2 W → SlAt ul L W := fun W hb => (slAt_own own2).later hb
    have hul : ∃ A c, ul = .slice A L.length c := by obtain ⟨A, c, h, -⟩ := own_form own2; exact ⟨A, c, h⟩
    have hg := fun W (hb : Below w2.heap.size w2 W) => getT_any t gs key W (hT W hb) q1 q2 q3 (by omega) HK.out
    have hr := fun W (hb : Below w2.heap.size w2 W) => rangeT_any t gs e0 e1 W (hT W hb) q1 q2 q3 (by omega)
    have ha := fun W (hb : Below w2.heap.size w2 W) => allT_any t gs W (hT W hb) q1 q2 q3 (by omega)
    have hl := fun W (hb : Below w2.heap.size w2 W) => lenT_any t gs W (hT W hb) (by omega) (by omega)
    rw [← hLe] at hg hr ha hl
    have hlb : L.length ≤ 4096 := by rw [hLe]; exact q4
    clear b2 L1 HO CR HRO hT q1 q2 q3 q4 hLe hl' own2 HT1
    have cv := fun W (h : SlAt ul L W) => refGetT_any ul L key W h (by omega)
    have cf := fun W (h : SlAt ul L W) => refRangeS_any ul L e0 e1 W h (by omega)
    have cq := fun a b W (h : SlAt a (rangeC L e0 e1) W) (k : SlAt b (rangeC L e0 e1) W) => sameCells_any a b _ _ W h k
    rw [decide_eq_true rfl] at cq
    have ca := fun a b W (h : SlAt a L W) (k : SlAt b L W) => sameCells_any a b _ _ W h k
    rw [decide_eq_true rfl] at ca
    obtain ⟨x, ob, hce, -, -⟩ := ceV_form (findC L key)
    rw [hce] at cv hg
    obtain ⟨n, hn⟩ : ∃ n, L.length = n := ⟨_, rfl⟩
    rw [hn] at hlb hl hul
    have HN := Lib.hid hn
    have CV := Lib.hid cv
    have CF := Lib.hid cf
    have CQ := Lib.hid cq
    have CA := Lib.hid ca
    have HG := Lib.hid hg
    have HR := Lib.hid hr
    have HA := Lib.hid ha
    have HL := Lib.hid hl
    have HS := Lib.hid hs
    have HUL := Lib.hid hul
    clear cv cf cq ca hg hr ha hl hs hce hn hul
    go_wp2_with fail

    refine (HG.out _ (Below.refl _ _)).mono ?_
    rintro e w3 ⟨rfl, b3⟩
    have LAT3 := Lib.hid (fun W (hb : Below w3.heap.size w3 W) => btB b3 hb)
    clear b3 HG
    have nb6 := (Below.refl w3.heap.size w3).alloc (Nat.le_refl _) (boxC Ce.zero)
    have q6 := CeAt.boxed Ce.zero w3
    obtain ⟨c6, hc6⟩ : ∃ c6, w3.heap.size = c6 := ⟨_, rfl⟩
    have hcc6 : w3.heap.size ≤ c6 := by omega
    rw [hc6] at q6
    obtain ⟨v6, hv6⟩ : ∃ v6, w3.alloc (boxC Ce.zero) = v6 := ⟨_, rfl⟩
    have hvv6 : w3.alloc (.cells #[.string ⟨#[]⟩, .int .i64 0, .string ⟨#[]⟩] 36) = v6 := hv6
    rw [hv6] at nb6 q6
    obtain ⟨y0, y1, y2⟩ := q6.cell
    obtain ⟨z0, z1, z2⟩ := q6.frees
    unfold Ce.zero at y0 y1 y2
    dsimp only at y0 y1 y2
    have HQ6 := Lib.hid (q6.all nb6 hcc6 x)
    have hlt6 := q6.lt
    clear nb6 hv6 q6
    go_wp2_with fail
    obtain ⟨qq6, bb6⟩ := HQ6.out
    generalize (((v6.setCell ⟨c6, 0, none⟩ (.string ⟨(x).k.toArray⟩)).setCell ⟨c6, 1, none⟩ (.int .i64 (x).q)).setCell ⟨c6, 2, none⟩ (.string ⟨(x).v.toArray⟩)) = w4 at *
    have LAT4 := Lib.hid (fun W (hb : Below w4.heap.size w4 W) => And.intro (qq6.later hb qq6.lt) (LAT3.out W (btB bb6 hb)))
    clear y0 y1 y2 z0 z1 z2 HQ6 hvv6 bb6 qq6 LAT3
    refine (CV.out _ (HS.out _ (LAT4.out _ (Below.refl _ _)).2)).mono ?_
    rintro e w5 ⟨rfl, b5⟩
    have LAT5 := Lib.hid (fun W (hb : Below w5.heap.size w5 W) => LAT4.out W (btB b5 hb))
    clear b5 LAT4
    clear CV
    have nb7 := (Below.refl w5.heap.size w5).alloc (Nat.le_refl _) (boxC Ce.zero)
    have q7 := CeAt.boxed Ce.zero w5
    obtain ⟨c7, hc7⟩ : ∃ c7, w5.heap.size = c7 := ⟨_, rfl⟩
    have hcc7 : w5.heap.size ≤ c7 := by omega
    rw [hc7] at q7
    obtain ⟨v7, hv7⟩ : ∃ v7, w5.alloc (boxC Ce.zero) = v7 := ⟨_, rfl⟩
    have hvv7 : w5.alloc (.cells #[.string ⟨#[]⟩, .int .i64 0, .string ⟨#[]⟩] 36) = v7 := hv7
    rw [hv7] at nb7 q7
    obtain ⟨y0, y1, y2⟩ := q7.cell
    obtain ⟨z0, z1, z2⟩ := q7.frees
    unfold Ce.zero at y0 y1 y2
    dsimp only at y0 y1 y2
    have HQ7 := Lib.hid (q7.all nb7 hcc7 x)
    have hlt7 := q7.lt
    have hxv := HX.out v7 (LAT5.out v7 nb7).2
    obtain ⟨x0, x1⟩ := hxv
    have hXc : ¬ X = c7 := by have := (LAT5.out w5 (Below.refl _ _)).2.size; have := HXL.out; omega
    have hXc' : ¬ c7 = X := fun h => hXc h.symm
    clear nb7 hv7 q7
    go_wp2_with fail
    clear x0 x1 hXc hXc'
    obtain ⟨qq7, bb7⟩ := HQ7.out
    generalize (((v7.setCell ⟨c7, 0, none⟩ (.string ⟨(x).k.toArray⟩)).setCell ⟨c7, 1, none⟩ (.int .i64 (x).q)).setCell ⟨c7, 2, none⟩ (.string ⟨(x).v.toArray⟩)) = w6 at *
    have LAT6 := Lib.hid (fun W (hb : Below w6.heap.size w6 W) => And.intro (qq7.later hb qq7.lt) (LAT5.out W (btB bb7 hb)))
    clear y0 y1 y2 z0 z1 z2 HQ7 hvv7 bb7 qq7 LAT5
    refine (HR.out _ (LAT6.out _ (Below.refl _ _)).2.2).mono ?_
    rintro e w7 ⟨b7, v15, rfl, own15⟩
    have hs7 := (LAT6.out w6 (Below.refl _ _)).2.2.size
    have LAT7 := Lib.hid (fun W (hb : Below w7.heap.size w7 W) => LAT6.out W (btB b7 hb))
    clear b7 LAT6
    have hl7 := (LAT7.out w7 (Below.refl _ _)).2.2.size
    have H15 := Lib.hid (own_form own15)
    have S15 := Lib.hid (fun W (hb : Below w7.heap.size w7 W) => (slAt_own own15).later hb)
    clear own15
    go_wp2_with fail
    refine (HA.out _ (LAT7.out _ (Below.refl _ _)).2.2).mono ?_
    rintro e w8 ⟨b8, v16, rfl, own16⟩
    have H16 := Lib.hid (own_form own16)
    have S16 := Lib.hid (fun W (hb : Below w8.heap.size w8 W) => (slAt_own own16).later hb)
    have L78 := Lib.hid (fun W (hb : Below w8.heap.size w8 W) => btB b8 hb)
    have LAT8 := Lib.hid (fun W (hb : Below w8.heap.size w8 W) => LAT7.out W (btB b8 hb))
    clear b8 LAT7
    clear own16
    obtain ⟨q7', q6', -⟩ := LAT8.out w8 (Below.refl _ _)
    obtain ⟨y0, y1, y2⟩ := q7'.cell
    obtain ⟨y3, y4, y5⟩ := q6'.cell
    have k1 : (x.k != x.k) = false := by simp
    have k2 : (x.v != x.v) = false := by simp
    have k3 : (ob != ob) = false := by simp
    have k5 : (x.k == x.k) = true := by simp
    have k6 : (x.v == x.v) = true := by simp
    clear q7' q6'
    go_wp2_with fail
    clear y0 y1 y2 y3 y4 y5 k1 k2 k3 k5 k6
    refine (HL.out _ (LAT8.out _ (Below.refl _ _)).2.2).mono ?_
    rintro e w9 ⟨rfl, b9⟩
    have S15' := Lib.hid (fun W (hb : Below w9.heap.size w9 W) => S15.out W (L78.out W (btB b9 hb)))
    have S16' := Lib.hid (fun W (hb : Below w9.heap.size w9 W) => S16.out W (btB b9 hb))
    have L89 := Lib.hid (fun W (hb : Below w9.heap.size w9 W) => btB b9 hb)
    have LAT9 := Lib.hid (fun W (hb : Below w9.heap.size w9 W) => LAT8.out W (btB b9 hb))
    clear b9 LAT8
    clear S15 S16 HL
    have hul := HUL.out
    obtain ⟨AU, CU, hue⟩ := hul
    subst hue
    obtain ⟨x0, x1⟩ := HX.out _ (LAT9.out w9 (Below.refl _ _)).2.2
    have k4 : ((n : Int) != (n : Int)) = false := by simp
    go_wp2_with fail
    clear x0 x1 k4
    refine (CF.out _ (HS.out _ (LAT9.out _ (Below.refl _ _)).2.2)).mono ?_
    rintro e w10 ⟨b10, vr, rfl, slr⟩
    have slr' := S15'.out _ b10
    have L90 := Lib.hid (fun W (hb : Below w10.heap.size w10 W) => btB b10 hb)
    have LAT10 := Lib.hid (fun W (hb : Below w10.heap.size w10 W) => LAT9.out W (btB b10 hb))
    clear b10 LAT9
    go_wp2_with fail
    refine (CQ.out _ _ _ slr' slr).mono ?_
    rintro e w11 ⟨rfl, b11⟩
    have L91 := Lib.hid (fun W (hb : Below w11.heap.size w11 W) => L90.out W (btB b11 hb))
    have LAT11 := Lib.hid (fun W (hb : Below w11.heap.size w11 W) => LAT10.out W (btB b11 hb))
    clear b11 LAT10
    clear slr slr' L90
    go_wp2_with fail
    refine (CA.out _ _ _ (S16'.out _ (L91.out _ (Below.refl _ _))) (HS.out _ (LAT11.out _ (Below.refl _ _)).2.2)).mono ?_
    rintro e w12 ⟨rfl, b12⟩
    have L92 := Lib.hid (fun W (hb : Below w12.heap.size w12 W) => L91.out W (btB b12 hb))
    have LAT12 := Lib.hid (fun W (hb : Below w12.heap.size w12 W) => LAT11.out W (btB b12 hb))
    clear b12 LAT11
    obtain ⟨A15, cap15, rfl, -, -, hp15⟩ := H15.out
    obtain ⟨A16, cap16, rfl, hc16, hm16, hp16⟩ := H16.out
    have R0 := Lib.hid (show Rows2 w2.heap.size w7.heap.size A15 A16 cap15 cap16 (rangeC L e0 e1).length L.length w2 w12 from ⟨fun h => by
        obtain ⟨g, rfl, h1, h2, h3⟩ := hp15 h
        exact ⟨g, _, rfl, by omega, h2, rfl, h3.later (L78.out _ (L89.out _ (L92.out _ (Below.refl _ _))))⟩, fun h => by
        obtain ⟨g, rfl, h1, h2, h3⟩ := hp16 h
        exact ⟨g, _, rfl, by omega, h1, rfl, h3.later (L89.out _ (L92.out _ (Below.refl _ _)))⟩, (LAT12.out _ (Below.refl _ _)).2.2⟩)
    obtain ⟨n15, hn15⟩ : ∃ n15, (rangeC L e0 e1).length = n15 := ⟨_, rfl⟩
    have hN15 : n15 ≤ 100000 := by rw [← hn15]; have := List.length_filter_le (within e0 e1) L; have := HN.out; unfold rangeC; omega
    rw [HN.out, hn15] at R0
    rw [HN.out, hn15]
    clear hp15 hp16 hc16 hm16 hn15 H15 H16 L78 L89 L91 L92 LAT12 S15' S16' CF CQ HR
    go_wp2_with fail
    go_loopw [17] (fun i wr => ∃ m : Nat, i = .int .i64 m ∧ m ≤ n ∧ Hid (Rows2 w2.heap.size w7.heap.size A15 A16 cap15 cap16 n15 n w2 wr)) (fun i _ => n - (intOf i).toNat)
    case atStart => exact ⟨0, rfl, by omega, R0⟩
    case round =>
      obtain ⟨m, rfl, hm, HQ⟩ := hrel
      clear R0
      by_cases hmn : m < n
      · obtain ⟨g, M, rfl, e2, e3, e4, e5⟩ := HQ.out.2.1 (by omega)
        have hml : m < M.length := by omega
        have HP := Lib.hid (HQ.out.put16 e2 e3 e4 e5 hml)
        obtain ⟨x0, x1, x2⟩ := e5.row.cells (i := m) hml
        simp only [Nat.zero_add] at x0 x1 x2
        have f0 := e5.free (m * 3)
        have f1 := e5.free (m * 3 + 1)
        have f2 := e5.free (m * 3 + 2)
        clear e2 e3 e4 e5 hml
        go_wp2_with fail
        go_roundw
        case rel => exact ⟨m + 1, by go_num, by omega, Lib.hid HP.out⟩
        case measure => simp [intOf]; omega
      · obtain rfl : m = n := by omega
        go_wp2_with fail
        go_loopw [18] (fun i wq => ∃ k : Nat, i = .int .i64 k ∧ k ≤ n15 ∧ Hid (Rows2 w2.heap.size w7.heap.size A15 A16 cap15 cap16 n15 m w2 wq)) (fun i _ => n15 - (intOf i).toNat)
        case atStart => exact ⟨0, rfl, by omega, HQ⟩
        case round =>
          obtain ⟨k, rfl, hk', HQ2⟩ := hrel
          clear HQ
          by_cases hkn : k < n15
          · obtain ⟨g, M, rfl, e2, e3, e4, e5⟩ := HQ2.out.1 (by omega)
            have hml : k < M.length := by omega
            have HP := Lib.hid (HQ2.out.put15 e2 e3 e4 e5 hml)
            obtain ⟨x0, x1, x2⟩ := e5.row.cells (i := k) hml
            simp only [Nat.zero_add] at x0 x1 x2
            have f0 := e5.free (k * 3)
            have f1 := e5.free (k * 3 + 1)
            have f2 := e5.free (k * 3 + 2)
            clear e2 e3 e4 e5 hml
            go_wp2_with fail
            go_roundw
            case rel => exact ⟨k + 1, by go_num, by omega, Lib.hid HP.out⟩
            case measure => simp [intOf]; omega
          · obtain rfl : k = n15 := by omega
            have HBW := Lib.hid HQ2.out.2.2
            clear HQ2
            go_wp2_with fail
            refine (HA.out _ HBW.out).mono ?_
            rintro e w13 ⟨b13, v17, rfl, own17⟩
            have HB13 := Lib.hid (btB HBW.out b13)
            have S17 := slAt_own own17
            clear own17 b13 HBW
            go_wp2_with fail
            refine (CA.out _ _ _ S17 (HS.out _ HB13.out)).mono ?_
            rintro e w14 ⟨rfl, b14⟩
            have HB14 := Lib.hid (btB HB13.out b14)
            clear HB13 S17 b14
            go_wp2_with fail
            refine (CDO.out _).mono ?_
            rintro e w15 ⟨rfl, b15⟩
            have HB15 := btB HB14.out b15
            go_wp2_with fail
            go_ret
            exact ⟨rfl, by rw [HXe.out]; exact HB2.out.trans (HB15.mono (by have := HXL.out; omega))⟩
theorem tablesOpen_law (text key : ByteArray) (e0 e1 : List UInt8) (ht : text.size ≤ 140737488351232) (hk : key.size ≤ 140737488351232) (w : World) :
    Calls Try.prog 7 #[.string text, .string key, .agg #[.string ⟨e0.toArray⟩, .string ⟨e1.toArray⟩]] w fun e w' => e = .returned (.bool true) ∧ Below w.heap.size w w' := by
  have es : key = ⟨key.data.toList.toArray⟩ := by cases key; simp
  have et : text = ⟨text.data.toList.toArray⟩ := by cases text; simp
  rw [es, et]
  generalize key.data.toList = key at *
  generalize text.data.toList = text at *
  clear es et ht hk
  by_cases hall : ¬ (20000 : Int) < (text.length : Int) ∧ ¬ (1000 : Int) < (key.length : Int) ∧ ¬ (1000 : Int) < (e0.length : Int) ∧ ¬ (1000 : Int) < (e1.length : Int)
  · exact tablesOpen_yes w text key e0 e1 hall.1 hall.2.1 hall.2.2.1 hall.2.2.2
  · have nb := (Below.refl w.heap.size w).alloc (Nat.le_refl _) (.cells #[.string ⟨e0.toArray⟩, .string ⟨e1.toArray⟩] 31)
    have hbx := heap_alloc_new w (.cells #[.string ⟨e0.toArray⟩, .string ⟨e1.toArray⟩] 31)
    obtain ⟨W0, hW0⟩ : ∃ W0, w.alloc (.cells #[.string ⟨e0.toArray⟩, .string ⟨e1.toArray⟩] 31) = W0 := ⟨_, rfl⟩
    rw [hW0] at nb hbx
    have x0 : W0.cell? ⟨w.heap.size, 0, none⟩ = some (.string ⟨e0.toArray⟩) := by simp [World.cell?, hbx]
    have x1 : W0.cell? ⟨w.heap.size, 1, none⟩ = some (.string ⟨e1.toArray⟩) := by simp [World.cell?, hbx]
    have HB := Lib.hid nb
    clear nb hbx
    have hgo : ∀ f0 f1 f2 f3 : Bool, decide ((20000 : Int) < (text.length : Int)) = f0 → decide ((1000 : Int) < (key.length : Int)) = f1 → decide ((1000 : Int) < (e0.length : Int)) = f2 → decide ((1000 : Int) < (e1.length : Int)) = f3 → (f0 || f1 || f2 || f3) = true := by
      intro g f1 f2 f3 h0 h1 h2 h3
      cases g <;> cases f1 <;> cases f2 <;> cases f3 <;> simp_all
    have HGO := Lib.hid hgo
    clear hgo hall
    cases h0 : decide ((20000 : Int) < (text.length : Int)) <;> cases h1 : decide ((1000 : Int) < (key.length : Int)) <;> cases h2 : decide ((1000 : Int) < (e0.length : Int)) <;> cases h3 : decide ((1000 : Int) < (e1.length : Int)) <;>
      first
      | (exfalso; have := HGO.out _ _ _ _ h0 h1 h2 h3; simp at this; done)
      | (go_enter Try.func7, Try.ntmps7
         go_wp2_with fail
         go_ret
         exact ⟨rfl, HB.out⟩)
end Go.Proofs.Ytanaoepakllohaa
