/- A memory, and cells that lie in boxes beside it; does. -/
import Derived.Test.YtpcapifjbhaeeaaMemM
import Derived.Deep.RegionWith
import Derived.Deep.DeepCutAuto
namespace Go.Proofs.Ytpcapifjbhaeeaa
set_option maxRecDepth 16000
open Go.RowKit Spoor
set_option linter.unusedVariables false

/-- cells laid out as a new block -/
theorem new_sl (l : List Ce) (W : World) (hb : l.length ≤ 100000) : SlAt (.slice (some ⟨W.heap.size, 0, none⟩) l.length l.length) l (W.alloc (.cells (rowOf l).toArray 33)) := by
  have hl := rowOf_length l
  exact slAt_own (base := W.heap.size) ⟨hl, .inr ⟨W.heap.size, l.length, (rowOf l).toArray, rfl, Nat.le_refl _, heap_alloc_new W _, Nat.le_refl _, by unfold maxLen; omega, by simpa using hl, by
    rw [List.toList_toArray]
    exact List.take_of_length_le (by omega)⟩⟩
/-- a memory of the cells L at block p, and cells in boxes; all of it in blocks from lo on -/
def St (lo p : Nat) (L : List Ce) (bs : List (Nat × Ce)) (W : World) : Prop :=
  ∃ fs, Mem p L fs W ∧ (∀ x ∈ fs, lo ≤ x) ∧ ∀ y ∈ bs, CeAt y.1 y.2 W ∧ y.1 ∉ fs
theorem St.new {lo p : Nat} {fs : List Nat} {L : List Ce} {W : World} (M : Mem p L fs W) (h : ∀ x ∈ fs, lo ≤ x) : St lo p L [] W := ⟨fs, M, h, by simp⟩
theorem St.later {lo p : Nat} {L : List Ce} {bs : List (Nat × Ce)} {W W' : World} (h : St lo p L bs W) (hb : Below W.heap.size W W') : St lo p L bs W' := by
  obtain ⟨fs, M, h1, h2⟩ := h
  exact ⟨fs, M.later hb, h1, fun y hy => ⟨(h2 y hy).1.later hb (h2 y hy).1.lt, (h2 y hy).2⟩⟩
theorem St.box {lo p : Nat} {L : List Ce} {bs : List (Nat × Ce)} {W : World} (h : St lo p L bs W) (c : Ce) : St lo p L ((W.heap.size, c) :: bs) (W.alloc (boxC c)) := by
  have b1 := (Below.refl W.heap.size W).alloc (Nat.le_refl _) (boxC c)
  obtain ⟨fs, M, h1, h2⟩ := h
  refine ⟨fs, M.later b1, h1, fun y hy => ?_⟩
  rcases List.mem_cons.1 hy with rfl | hy
  · exact ⟨CeAt.boxed c W, fun hm => by have := M.lt _ hm; simp at this⟩
  · exact ⟨(h2 y hy).1.later b1 (h2 y hy).1.lt, (h2 y hy).2⟩
theorem St.cell {lo p : Nat} {L : List Ce} {bs : List (Nat × Ce)} {W : World} (h : St lo p L bs W) {b : Nat} {c : Ce} (hy : (b, c) ∈ bs) : CeAt b c W := by
  obtain ⟨fs, M, h1, h2⟩ := h
  exact (h2 _ hy).1
theorem St.put {lo p : Nat} {L : List Ce} {bs : List (Nat × Ce)} {W : World} (h : St lo p L bs W) (hlo : lo ≤ W.heap.size) (c : Ce) (hbig : L.length ≤ 900) (hf : FitsC c) :
    Calls Try.prog 10 #[.pointer (some ⟨p, 0, none⟩), ceVal c] W fun e W' => e = .returned (.int .i64 (if c.may then 0 else 2)) ∧ St lo p (putC L c) bs W' ∧ Below lo W W' := by
  obtain ⟨fs, M, h1, h2⟩ := h
  refine (putM_any p L fs c W M hbig hf).mono ?_
  rintro e W' ⟨rfl, fs', M', h3, f⟩
  refine ⟨rfl, ⟨fs', M', fun x hx => ?_, fun y hy => ?_⟩, f.below hlo h1⟩
  · rcases h3 x hx with h | h
    · exact h1 x h
    · omega
  · have h4 := h2 y hy
    refine ⟨?_, fun hm => ?_⟩
    · have h5 := h4.1
      unfold CeAt at *
      rw [f.block y.1 (Array.getElem?_eq_some_iff.1 h5).1 h4.2]
      exact h5
    · rcases h3 _ hm with h | h
      · exact h4.2 h
      · have := h4.1.lt
        omega
theorem St.range {lo p : Nat} {L : List Ce} {bs : List (Nat × Ce)} {W : World} (h : St lo p L bs W) (hbig : L.length ≤ 100000) (x y : List UInt8) :
    Calls Try.prog 15 #[.pointer (some ⟨p, 0, none⟩), .string ⟨x.toArray⟩, .string ⟨y.toArray⟩] W fun e W' => Below W.heap.size W W' ∧ ∃ v, e = .returned v ∧ W'.ownsRow W.heap.size 33 3 v (rangeC L x y).length (rowOf (rangeC L x y)) := by
  obtain ⟨fs, M, -⟩ := h
  exact rangeM_any p L fs x y W M hbig
theorem St.len {lo p : Nat} {L : List Ce} {bs : List (Nat × Ce)} {W : World} (h : St lo p L bs W) (hbig : L.length ≤ 100000) :
    Calls Try.prog 12 #[.pointer (some ⟨p, 0, none⟩)] W fun e W' => e = .returned (.int .i64 L.length) ∧ Below W.heap.size W W' := by
  obtain ⟨fs, M, -⟩ := h
  exact lenM_any p L fs W M hbig
theorem St.get {lo p : Nat} {L : List Ce} {bs : List (Nat × Ce)} {W : World} (h : St lo p L bs W) (hbig : L.length ≤ 100000) (key : List UInt8) (hk : key.length ≤ 140737488351232) :
    Calls Try.prog 13 #[.pointer (some ⟨p, 0, none⟩), .string ⟨key.toArray⟩] W fun e W' => e = .returned (ceV (findC L key)) ∧ Below W.heap.size W W' := by
  obtain ⟨fs, M, -⟩ := h
  exact getM_any p L fs key W M hbig hk
theorem St.cut {lo p : Nat} {L : List Ce} {bs : List (Nat × Ce)} {W : World} (h : St lo p L bs W) (hlo : lo ≤ W.heap.size) (hbig : L.length ≤ 100000) (key : List UInt8) :
    Calls Try.prog 20 #[.pointer (some ⟨p, 0, none⟩), .string ⟨key.toArray⟩] W fun e W' => ∃ pa pb, e = .returned (.tuple #[.pointer (some ⟨pa, 0, none⟩), .pointer (some ⟨pb, 0, none⟩)]) ∧
      St lo pa (lowC L key) bs W' ∧ St lo pb (highC L key) bs W' ∧ St lo p L bs W' ∧ Below W.heap.size W W' := by
  have h0 := h
  obtain ⟨fs, M, h1, h2⟩ := h
  refine (cutM_any p L fs key W M hbig).mono ?_
  rintro e W' ⟨pa, fa, pb, fb, rfl, MA, MB, h3, h4, h5, hb⟩
  refine ⟨pa, pb, rfl, ⟨fa, MA, fun x hx => Nat.le_trans hlo (h3 x hx), fun y hy => ⟨(h2 y hy).1.later hb (h2 y hy).1.lt, fun hm => ?_⟩⟩, ⟨fb, MB, fun x hx => Nat.le_trans hlo (h4 x hx), fun y hy => ⟨(h2 y hy).1.later hb (h2 y hy).1.lt, fun hm => ?_⟩⟩, h0.later hb, hb⟩
  · have := h3 _ hm
    have := (h2 y hy).1.lt
    omega
  · have := h4 _ hm
    have := (h2 y hy).1.lt
    omega
theorem St.join {lo pa pb : Nat} {La Lb : List Ce} {bs bs' : List (Nat × Ce)} {W : World} (h : St lo pa La bs W) (k : St lo pb Lb bs' W) (hlo : lo ≤ W.heap.size) (hbig : La.length + Lb.length ≤ 900) (hf : ∀ c ∈ Lb, FitsC c) :
    Calls Try.prog 22 #[.pointer (some ⟨pa, 0, none⟩), .pointer (some ⟨pb, 0, none⟩)] W fun e W' => ∃ p, e = .returned (.pointer (some ⟨p, 0, none⟩)) ∧ St lo p (putsC La Lb) [] W' ∧ Below W.heap.size W W' := by
  obtain ⟨fa, MA, h1, h2⟩ := h
  obtain ⟨fb, MB, k1, k2⟩ := k
  refine (joinM_any pa La fa pb Lb fb W MA MB hbig hf).mono ?_
  rintro e W' ⟨p, fs, rfl, M, h3, hb⟩
  exact ⟨p, rfl, St.new M (fun x hx => Nat.le_trans hlo (h3 x hx)), hb⟩
theorem sl_two (v : Value) (l m : List Ce) (W : World) (hl : SlAt v l W) (u : Value) (hm : SlAt u m W) (h : l = m) :
    Calls Try.prog 16 #[v, u] W fun e W' => e = .returned (.bool true) ∧ Below W.heap.size W W' := by
  have := sameCells_any v u l m W hl hm
  rw [h] at this
  simpa using this

def dX : Ce := ⟨[97], 1, [120]⟩
def dY : Ce := ⟨[97], 2, [121]⟩
def dZ : Ce := ⟨[97], 1, [122]⟩
def dB : Ce := ⟨[98], 1, []⟩
theorem dput1 : putC [] dX = [dX] := by decide
theorem dput2 : putC [dX] dY = [dY, dX] := by decide
theorem dput3 : putC [dY, dX] dZ = [dY, dX] := by decide
theorem dput4 : putC [dY, dX] Ce.zero = [dY, dX] := by decide
theorem dput5 : putC [dY, dX] dB = [dY, dX, dB] := by decide
theorem dfits (c : Ce) (h : c.k.length ≤ 10 ∧ c.v.length ≤ 10 ∧ c.q ≤ 10) : FitsC c := ⟨by omega, by omega, by omega⟩
set_option maxRecDepth 100000 in
set_option maxHeartbeats 8000000 in
theorem mdoes_true (w : World) : Calls Try.prog 18 #[] w fun e w' => e = .returned (.bool true) ∧ Below w.heap.size w w' := by
  have fX := dfits dX (by decide)
  have fY := dfits dY (by decide)
  have fZ := dfits dZ (by decide)
  have f0 := dfits Ce.zero (by decide)
  have fB := dfits dB (by decide)
  go_enter Try.func18, Try.ntmps18
  go_wp2_with fail
  refine (newM_any _).mono ?_
  rintro e w1 ⟨rfl, M1, B1⟩
  obtain ⟨lo, hlo⟩ : ∃ lo, w.heap.size = lo := ⟨_, rfl⟩
  rw [hlo] at M1 B1 ⊢
  have S1 : St lo lo [] [] w1 := St.new M1 (by simp)
  have S2 := (S1.box dX).box dY
  have hl1 := B1.size
  rw [hlo] at hl1
  have B2 := (B1.alloc hl1 (boxC dX)).alloc (by simp; omega) (boxC dY)
  have hX : w1.heap.size + 1 = (w1.alloc (boxC dX)).heap.size := by simp
  rw [← hX] at S2
  have pc := S2.put (by simp; omega) dX (by simp) fX
  rw [show (if dX.may then (0 : Int) else 2) = 0 from rfl, dput1] at pc
  have PC := Lib.hid pc
  have HB := Lib.hid B2
  clear pc S2 B2 S1 M1 hX
  unfold ceVal boxC dX dY at PC
  go_wp2_with fail
  refine PC.out.mono ?_
  rintro e w3 ⟨rfl, S3, b3⟩
  have S3 : St lo lo [dX] [(w1.heap.size + 1, dY), (w1.heap.size, dX)] w3 := S3
  have B3 : Below lo w w3 := HB.out.trans b3
  obtain ⟨X, hXe⟩ : ∃ X, w1.heap.size = X := ⟨_, rfl⟩
  rw [hXe] at S3 ⊢
  clear PC HB B1 b3 hXe hl1
  have hl4 := B3.size
  rw [hlo] at hl4
  have pc := S3.put hl4 dY (by simp) fY
  rw [show (if (dY).may then (0 : Int) else 2) = 0 from rfl, dput2] at pc
  have PC := Lib.hid pc
  obtain ⟨y0, y1, y2⟩ := (S3.cell (b := X + 1) (c := dY) (by simp)).cell
  obtain ⟨x0, x1, x2⟩ := (S3.cell (b := X) (c := dX) (by simp)).cell
  unfold dY at y0 y1 y2
  unfold dX at x0 x1 x2
  dsimp only at y0 y1 y2 x0 x1 x2
  have HB := Lib.hid B3
  clear pc S3 B3 hl4
  unfold ceVal dY at PC
  dsimp only at PC
  go_wp2_with fail
  refine PC.out.mono ?_
  rintro e w4 ⟨rfl, S4, b4⟩
  have S4 : St lo lo [dY, dX] [(X + 1, dY), (X, dX)] w4 := S4
  have B4 : Below lo w w4 := HB.out.trans b4
  clear PC HB b4 y0 y1 y2 x0 x1 x2
  have hl5 := B4.size
  rw [hlo] at hl5
  have pc := S4.put hl5 dZ (by simp) fZ
  rw [show (if (dZ).may then (0 : Int) else 2) = 0 from rfl, dput3] at pc
  have PC := Lib.hid pc
  obtain ⟨y0, y1, y2⟩ := (S4.cell (b := X + 1) (c := dY) (by simp)).cell
  obtain ⟨x0, x1, x2⟩ := (S4.cell (b := X) (c := dX) (by simp)).cell
  unfold dY at y0 y1 y2
  unfold dX at x0 x1 x2
  dsimp only at y0 y1 y2 x0 x1 x2
  have HB := Lib.hid B4
  clear pc S4 B4 hl5
  unfold ceVal dZ at PC
  dsimp only at PC
  go_wp2_with fail
  refine PC.out.mono ?_
  rintro e w5 ⟨rfl, S5, b5⟩
  have S5 : St lo lo [dY, dX] [(X + 1, dY), (X, dX)] w5 := S5
  have B5 : Below lo w w5 := HB.out.trans b5
  clear PC HB b5 y0 y1 y2 x0 x1 x2
  have hl6 := B5.size
  rw [hlo] at hl6
  have pc := S5.put hl6 Ce.zero (by simp) f0
  rw [show (if (Ce.zero).may then (0 : Int) else 2) = 2 from rfl, dput4] at pc
  have PC := Lib.hid pc
  obtain ⟨y0, y1, y2⟩ := (S5.cell (b := X + 1) (c := dY) (by simp)).cell
  obtain ⟨x0, x1, x2⟩ := (S5.cell (b := X) (c := dX) (by simp)).cell
  unfold dY at y0 y1 y2
  unfold dX at x0 x1 x2
  dsimp only at y0 y1 y2 x0 x1 x2
  have HB := Lib.hid B5
  clear pc S5 B5 hl6
  unfold ceVal Ce.zero at PC
  dsimp only at PC
  go_wp2_with fail
  refine PC.out.mono ?_
  rintro e w6 ⟨rfl, S6, b6⟩
  have S6 : St lo lo [dY, dX] [(X + 1, dY), (X, dX)] w6 := S6
  have B6 : Below lo w w6 := HB.out.trans b6
  clear PC HB b6 y0 y1 y2 x0 x1 x2
  have lc := S6.len (by simp)
  have LC := Lib.hid lc
  have HS := Lib.hid S6
  have HB := Lib.hid B6
  clear lc S6 B6
  dsimp only [List.length_cons, List.length_nil] at LC
  go_wp2_with fail
  refine LC.out.mono ?_
  rintro e w7 ⟨rfl, b7⟩
  have S7 := HS.out.later b7
  have B7 : Below lo w w7 := HB.out.trans (b7.mono (by have := HB.out.size; omega))
  clear b7 LC HS HB
  have gc := S7.get (by simp) [97] (by simp)
  rw [show findC [dY, dX] [97] = some dY from rfl] at gc
  have GC := Lib.hid gc
  have HS := Lib.hid S7
  have HB := Lib.hid B7
  clear gc S7 B7
  unfold ceV ceVal dY at GC
  dsimp only at GC
  go_wp2_with fail
  refine GC.out.mono ?_
  rintro e w8 ⟨rfl, b8⟩
  have S8 := HS.out.later b8
  have B8 : Below lo w w8 := HB.out.trans (b8.mono (by have := HB.out.size; omega))
  clear b8 GC HS HB
  have S9 := (S8.box dY).box dB
  have hl8 := B8.size
  rw [hlo] at hl8
  have B9 := (B8.alloc hl8 (boxC dY)).alloc (by simp; omega) (boxC dB)
  have hX : w8.heap.size + 1 = (w8.alloc (boxC dY)).heap.size := by simp
  rw [← hX] at S9
  have HS := Lib.hid S9
  have HB := Lib.hid B9
  clear S8 B8 S9 B9 hX hl8
  unfold boxC dY dB at HS HB
  dsimp only at HS HB
  go_wp2_with fail
  obtain ⟨Z, hZ⟩ : ∃ Z, w8.heap.size = Z := ⟨_, rfl⟩
  have S9 := HS.out
  have B9 := HB.out
  rw [hZ] at S9 ⊢
  clear HS HB hZ
  generalize (w8.alloc _).alloc _ = W at *
  have S9 : St lo lo [dY, dX] [(Z + 1, dB), (Z, dY), (X + 1, dY), (X, dX)] W := S9
  have HS := Lib.hid S9
  have HB := Lib.hid B9
  have hlW := B9.size
  rw [hlo] at hlW
  clear S9 B9
  go_cut [66] (fun v wx => v = .bool false ∧ Hid (St lo lo [dY, dX, dB] [(Z + 1, dB), (Z, dY), (X + 1, dY), (X, dX)] wx) ∧ Hid (Below lo w wx))
  case first =>
    have RS : ∀ W', St lo lo [dY, dX] [(Z + 1, dB), (Z, dY), (X + 1, dY), (X, dX)] W' → CeAt (Z + 1) dB W' ∧ CeAt Z dY W' ∧ CeAt (X + 1) dY W' ∧ CeAt X dX W' := fun W' h => ⟨h.cell (by simp), h.cell (by simp), h.cell (by simp), h.cell (by simp)⟩
    have HRS := Lib.hid RS
    clear RS
    have hrg := fun W' (h : St lo lo [dY, dX] [(Z + 1, dB), (Z, dY), (X + 1, dY), (X, dX)] W') => h.range (by simp) [] []
    have hne := fun W' => neq_ce dY dY W'
    unfold ceVal dY at hne
    dsimp only at hne
    have HNE := Lib.hid hne
    have HRG := Lib.hid hrg
    clear hrg hne
    refine (wpIn_wide (n := 5)).1 ?_
    refine wpIn_region_lit_late (fun w' => CeAt (Z + 1) dB w' ∧ CeAt Z dY w' ∧ CeAt (X + 1) dY w' ∧ CeAt X dX w') (fun _ => false) (k := 22) (listed := #[false, false, false, false, false, false, false, false, false, false, false, false, false, false, false, false, false, false, false, false, false, false]) (by kernel_rfl) (by kernel_rfl) (by kernel_rfl) ?_
    have B0 : Below lo w W.drew := HB.out.trans ((Below.drew (Below.refl _ W)).mono hlW)
    have S0 := HS.out.later (Below.drew (Below.refl _ W))
    clear HS HB hlW
    generalize W.drew = wz at *
    have hlW := B0.size
    rw [hlo] at hlW
    have hS := HRS.out _ S0
    have HS := Lib.hid S0
    have HB := Lib.hid B0
    clear S0 B0
    refine AnyS.get (i := 0) (some 45) ?_ rfl rfl (by kernel_rfl) (by kernel_rfl) (by kernel_rfl) (by kernel_rfl) (fun _ _ _ h => h) (Reads.yes (by kernel_rfl) ?_ (fun _ => rfl)) hS ?_
    rotate_left
    · intro w' hw'
      go_simp
      with_reducible rfl
    simp only [Act.put, List.setIfInBounds_toArray, List.set_cons_succ, List.set_cons_zero]
    refine AnyS.get (i := 1) (some 46) ?_ rfl rfl (by kernel_rfl) (by kernel_rfl) (by kernel_rfl) (by kernel_rfl) (fun _ _ _ h => h) (Reads.yes (by kernel_rfl) ?_ (fun _ => rfl)) hS ?_
    rotate_left
    · intro w' hw'
      go_simp
      with_reducible rfl
    simp only [Act.put, List.setIfInBounds_toArray, List.set_cons_succ, List.set_cons_zero]
    refine AnyS.get (i := 2) (some 47) ?_ rfl rfl (by kernel_rfl) (by kernel_rfl) (by kernel_rfl) (by kernel_rfl) (fun _ _ _ h => h) (Reads.yes (by kernel_rfl) ?_ (fun _ => rfl)) hS ?_
    rotate_left
    · intro w' hw'
      go_simp
      with_reducible rfl
    simp only [Act.put, List.setIfInBounds_toArray, List.set_cons_succ, List.set_cons_zero]
    refine AnyS.get (i := 3) (some 48) ?_ rfl rfl (by kernel_rfl) (by kernel_rfl) (by kernel_rfl) (by kernel_rfl) (fun _ _ _ h => h) (Reads.yes (by kernel_rfl) ?_ (fun _ => rfl)) hS ?_
    rotate_left
    · intro w' hw'
      obtain ⟨t1, t2, t3, t4⟩ := hw'; obtain ⟨y0, y1, y2⟩ := t2.cell; unfold dY at y0 y1 y2; dsimp only at y0 y1 y2; clear t1 t2 t3 t4
      go_simp
      with_reducible rfl
    simp only [Act.put, List.setIfInBounds_toArray, List.set_cons_succ, List.set_cons_zero]
    refine AnyS.get (i := 4) (some 49) ?_ rfl rfl (by kernel_rfl) (by kernel_rfl) (by kernel_rfl) (by kernel_rfl) (fun _ _ _ h => h) (Reads.yes (by kernel_rfl) ?_ (fun _ => rfl)) hS ?_
    rotate_left
    · intro w' hw'
      obtain ⟨t1, t2, t3, t4⟩ := hw'; obtain ⟨y0, y1, y2⟩ := t3.cell; unfold dY at y0 y1 y2; dsimp only at y0 y1 y2; clear t1 t2 t3 t4
      go_simp
      with_reducible rfl
    simp only [Act.put, List.setIfInBounds_toArray, List.set_cons_succ, List.set_cons_zero]
    refine AnyS.get (i := 5) (some 50) ?_ rfl rfl (by kernel_rfl) (by kernel_rfl) (by kernel_rfl) (by kernel_rfl) (fun _ _ _ h => h) (Reads.yes (by kernel_rfl) ?_ (fun _ => rfl)) hS ?_
    rotate_left
    · intro w' hw'
      have hne := HNE.out w'
      go_simp
      with_reducible rfl
    simp only [Act.put, List.setIfInBounds_toArray, List.set_cons_succ, List.set_cons_zero]
    refine AnyS.get (i := 6) (some 51) ?_ rfl rfl (by kernel_rfl) (by kernel_rfl) (by kernel_rfl) (by kernel_rfl) (fun _ _ _ h => h) (Reads.yes (by kernel_rfl) ?_ (fun _ => rfl)) hS ?_
    rotate_left
    · intro w' hw'
      go_simp
      with_reducible rfl
    simp only [Act.put, List.setIfInBounds_toArray, List.set_cons_succ, List.set_cons_zero]
    refine AnyS.get (i := 7) (some 52) ?_ rfl rfl (by kernel_rfl) (by kernel_rfl) (by kernel_rfl) (by kernel_rfl) (fun _ _ _ h => h) (Reads.yes (by kernel_rfl) ?_ (fun _ => rfl)) hS ?_
    rotate_left
    · intro w' hw'
      go_simp
      with_reducible rfl
    simp only [Act.put, List.setIfInBounds_toArray, List.set_cons_succ, List.set_cons_zero]
    refine AnyS.get (i := 8) (some 53) ?_ rfl rfl (by kernel_rfl) (by kernel_rfl) (by kernel_rfl) (by kernel_rfl) (fun _ _ _ h => h) (Reads.yes (by kernel_rfl) ?_ (fun _ => rfl)) hS ?_
    rotate_left
    · intro w' hw'
      go_simp
      with_reducible rfl
    simp only [Act.put, List.setIfInBounds_toArray, List.set_cons_succ, List.set_cons_zero]
    refine AnyS.get (i := 10) (some 55) ?_ rfl rfl (by kernel_rfl) (by kernel_rfl) (by kernel_rfl) (by kernel_rfl) (fun _ _ _ h => h) (Reads.yes (by kernel_rfl) ?_ (fun _ => rfl)) hS ?_
    rotate_left
    · intro w' hw'
      obtain ⟨t1, t2, t3, t4⟩ := hw'; obtain ⟨y0, y1, y2⟩ := t3.cell; unfold dY at y0 y1 y2; dsimp only at y0 y1 y2; clear t1 t2 t3 t4
      go_simp
      with_reducible rfl
    simp only [Act.put, List.setIfInBounds_toArray, List.set_cons_succ, List.set_cons_zero]
    refine AnyS.get (i := 11) (some 56) ?_ rfl rfl (by kernel_rfl) (by kernel_rfl) (by kernel_rfl) (by kernel_rfl) (fun _ _ _ h => h) (Reads.yes (by kernel_rfl) ?_ (fun _ => rfl)) hS ?_
    rotate_left
    · intro w' hw'
      obtain ⟨t1, t2, t3, t4⟩ := hw'; obtain ⟨y0, y1, y2⟩ := t4.cell; unfold dX at y0 y1 y2; dsimp only at y0 y1 y2; clear t1 t2 t3 t4
      go_simp
      with_reducible rfl
    simp only [Act.put, List.setIfInBounds_toArray, List.set_cons_succ, List.set_cons_zero]
    clear hS
    refine AnyS.two (i := 9) (j := 12) rfl rfl (by kernel_rfl) (by kernel_rfl) (fun K hK => ?_) (fun K hK => ?_)
    · refine want_yes (by kernel_rfl) ?_
      go_simp
      refine ⟨trivial, (callsIn_wide.2 (HRG.out _ HS.out)).mono ?_⟩
      rintro e wa ⟨ba, v, rfl, own⟩
      have S1 := HS.out.later ba
      have BB : Below lo w wa := HB.out.trans (ba.mono hlW)
      rw [rangeC_all] at own
      have sl := slAt_own own
      refine hK _ _ (fun _ => HRS.out _ S1) ?_
      clear hK K own
      simp only [List.setIfInBounds_toArray, List.set_cons_succ, List.set_cons_zero]
      refine AnyS.next (i := 12) rfl (by kernel_rfl) (by kernel_rfl) fun K hK => ?_
      refine want_yes (by kernel_rfl) ?_
      go_simp
      have nb := (Below.refl wa.heap.size wa).alloc (Nat.le_refl _) (.cells (rowOf [dY, dX]).toArray 33)
      have s2 := new_sl [dY, dX] wa (by simp)
      rw [show (rowOf [dY, dX]).toArray = #[.string ⟨#[97]⟩, .int .i64 2, .string ⟨#[121]⟩, .string ⟨#[97]⟩, .int .i64 1, .string ⟨#[120]⟩] from rfl] at nb s2
      have S1 := S1.later nb
      have hla := BB.size
      rw [hlo] at hla
      have BB := BB.trans (nb.mono hla)
      have sl := sl.later nb
      refine hK _ _ (fun _ => HRS.out _ S1) ?_
      clear hK K nb
      generalize wa.alloc _ = wb at *
      generalize wa.heap.size = g at *
      have hg := Lib.hid (And.intro S1 (And.intro BB (And.intro sl s2)))
      clear S1 BB sl s2 ba hla
      simp only [List.setIfInBounds_toArray, List.set_cons_succ, List.set_cons_zero]
      refine AnyS.next (i := 13) rfl (by kernel_rfl) (by kernel_rfl) fun K hK => ?_
      refine want_yes (by kernel_rfl) ?_
      obtain ⟨S1, BB, sl, s2⟩ := hg.out
      have sc := sl_two _ _ _ _ sl _ s2 rfl
      have SC := Lib.hid sc
      clear S1 BB sl s2 sc
      go_simp
      refine ⟨trivial, (callsIn_wide.2 SC.out).mono ?_⟩
      rintro e wc ⟨rfl, bc⟩
      have S1 := hg.out.1.later bc
      have hlb := hg.out.2.1.size
      rw [hlo] at hlb
      have BB := hg.out.2.1.trans (bc.mono hlb)
      have hS := HRS.out _ S1
      refine hK _ _ (fun _ => hS) ?_
      clear hK K SC bc hg hlb
      have hg := Lib.hid (And.intro S1 BB)
      clear S1 BB
      simp only [List.setIfInBounds_toArray, List.set_cons_succ, List.set_cons_zero]
      refine AnyS.get (i := 14) (some 59) ?_ rfl rfl (by kernel_rfl) (by kernel_rfl) (by kernel_rfl) (by kernel_rfl) (fun _ _ _ h => h) (Reads.yes (by kernel_rfl) ?_ (fun _ => rfl)) hS ?_
      rotate_left
      · intro w' hw'
        go_simp
        with_reducible rfl
      simp only [Act.put, List.setIfInBounds_toArray, List.set_cons_succ, List.set_cons_zero]
      refine AnyS.get (i := 15) (some 60) ?_ rfl rfl (by kernel_rfl) (by kernel_rfl) (by kernel_rfl) (by kernel_rfl) (fun _ _ _ h => h) (Reads.yes (by kernel_rfl) ?_ (fun _ => rfl)) hS ?_
      rotate_left
      · intro w' hw'
        go_simp
        with_reducible rfl
      simp only [Act.put, List.setIfInBounds_toArray, List.set_cons_succ, List.set_cons_zero]
      refine AnyS.get (i := 16) (some 61) ?_ rfl rfl (by kernel_rfl) (by kernel_rfl) (by kernel_rfl) (by kernel_rfl) (fun _ _ _ h => h) (Reads.yes (by kernel_rfl) ?_ (fun _ => rfl)) hS ?_
      rotate_left
      · intro w' hw'
        go_simp
        with_reducible rfl
      simp only [Act.put, List.setIfInBounds_toArray, List.set_cons_succ, List.set_cons_zero]
      refine AnyS.get (i := 17) (some 62) ?_ rfl rfl (by kernel_rfl) (by kernel_rfl) (by kernel_rfl) (by kernel_rfl) (fun _ _ _ h => h) (Reads.yes (by kernel_rfl) ?_ (fun _ => rfl)) hS ?_
      rotate_left
      · intro w' hw'
        go_simp
        with_reducible rfl
      simp only [Act.put, List.setIfInBounds_toArray, List.set_cons_succ, List.set_cons_zero]
      refine AnyS.get (i := 18) (some 63) ?_ rfl rfl (by kernel_rfl) (by kernel_rfl) (by kernel_rfl) (by kernel_rfl) (fun _ _ _ h => h) (Reads.yes (by kernel_rfl) ?_ (fun _ => rfl)) hS ?_
      rotate_left
      · intro w' hw'
        obtain ⟨t1, t2, t3, t4⟩ := hw'; obtain ⟨y0, y1, y2⟩ := t1.cell; unfold dB at y0 y1 y2; dsimp only at y0 y1 y2; clear t1 t2 t3 t4
        go_simp
        with_reducible rfl
      simp only [Act.put, List.setIfInBounds_toArray, List.set_cons_succ, List.set_cons_zero]
      refine AnyS.next (i := 19) rfl (by kernel_rfl) (by kernel_rfl) fun K hK => ?_
      refine want_yes (by kernel_rfl) ?_
      have hlb := hg.out.2.size
      rw [hlo] at hlb
      have pc := hg.out.1.put hlb dB (by simp) fB
      rw [show (if dB.may then (0 : Int) else 2) = 0 from rfl, dput5] at pc
      have PC := Lib.hid pc
      clear pc hS
      unfold ceVal dB at PC
      dsimp only at PC
      go_simp
      refine ⟨trivial, (callsIn_wide.2 PC.out).mono ?_⟩
      rintro e wd ⟨rfl, S1, bd⟩
      have S1 : St lo lo [dY, dX, dB] [(Z + 1, dB), (Z, dY), (X + 1, dY), (X, dX)] wd := S1
      have BB : Below lo w wd := hg.out.2.trans bd
      have hS : CeAt (Z + 1) dB wd ∧ CeAt Z dY wd ∧ CeAt (X + 1) dY wd ∧ CeAt X dX wd := ⟨S1.cell (by simp), S1.cell (by simp), S1.cell (by simp), S1.cell (by simp)⟩
      refine hK _ _ (fun _ => hS) ?_
      clear hK K PC bd hg hlb
      have hg := Lib.hid (And.intro S1 BB)
      clear S1 BB
      simp only [List.setIfInBounds_toArray, List.set_cons_succ, List.set_cons_zero]
      refine AnyS.get (i := 20) (some 65) ?_ rfl rfl (by kernel_rfl) (by kernel_rfl) (by kernel_rfl) (by kernel_rfl) (fun _ _ _ h => h) (Reads.yes (by kernel_rfl) ?_ (fun _ => rfl)) hS ?_
      rotate_left
      · intro w' hw'
        go_simp
        with_reducible rfl
      simp only [Act.put, List.setIfInBounds_toArray, List.set_cons_succ, List.set_cons_zero]
      refine AnyS.get (i := 21) (some 66) ?_ rfl rfl (by kernel_rfl) (by kernel_rfl) (by kernel_rfl) (by kernel_rfl) (fun _ _ _ h => h) (Reads.yes (by kernel_rfl) ?_ (fun _ => rfl)) hS ?_
      rotate_left
      · intro w' hw'
        go_simp
        with_reducible rfl
      simp only [Act.put, List.setIfInBounds_toArray, List.set_cons_succ, List.set_cons_zero]
      refine AnyS.done (by kernel_rfl) ?_ _
      go_wp2_with fail
      go_meet
      exact ⟨rfl, Lib.hid hg.out.1, Lib.hid hg.out.2⟩
    · refine want_yes (by kernel_rfl) ?_
      go_simp
      have S0 := HS.out
      have B0 := HB.out
      have nb := (Below.refl wz.heap.size wz).alloc (Nat.le_refl _) (.cells (rowOf [dY, dX]).toArray 33)
      have s2 := new_sl [dY, dX] wz (by simp)
      rw [show (rowOf [dY, dX]).toArray = #[.string ⟨#[97]⟩, .int .i64 2, .string ⟨#[121]⟩, .string ⟨#[97]⟩, .int .i64 1, .string ⟨#[120]⟩] from rfl] at nb s2
      have S1 := S0.later nb
      have BB := B0.trans (nb.mono hlW)
      refine hK _ _ (fun _ => HRS.out _ S1) ?_
      clear hK K nb S0 B0
      generalize wz.alloc _ = wa at *
      generalize wz.heap.size = g at *
      have hg := Lib.hid (And.intro S1 (And.intro BB s2))
      clear S1 BB s2
      simp only [List.setIfInBounds_toArray, List.set_cons_succ, List.set_cons_zero]
      refine AnyS.next (i := 9) rfl (by kernel_rfl) (by kernel_rfl) fun K hK => ?_
      refine want_yes (by kernel_rfl) ?_
      go_simp
      refine ⟨trivial, (callsIn_wide.2 (HRG.out _ hg.out.1)).mono ?_⟩
      rintro e wb ⟨ba, v, rfl, own⟩
      have S1 := hg.out.1.later ba
      have hla := hg.out.2.1.size
      rw [hlo] at hla
      have BB := hg.out.2.1.trans (ba.mono hla)
      have s2 := hg.out.2.2.later ba
      rw [rangeC_all] at own
      have sl := slAt_own own
      refine hK _ _ (fun _ => HRS.out _ S1) ?_
      clear hK K own ba hla hg
      have hg := Lib.hid (And.intro S1 (And.intro BB (And.intro sl s2)))
      clear S1 BB sl s2
      simp only [List.setIfInBounds_toArray, List.set_cons_succ, List.set_cons_zero]
      refine AnyS.next (i := 13) rfl (by kernel_rfl) (by kernel_rfl) fun K hK => ?_
      refine want_yes (by kernel_rfl) ?_
      obtain ⟨S1, BB, sl, s2⟩ := hg.out
      have sc := sl_two _ _ _ _ sl _ s2 rfl
      have SC := Lib.hid sc
      clear S1 BB sl s2 sc
      go_simp
      refine ⟨trivial, (callsIn_wide.2 SC.out).mono ?_⟩
      rintro e wc ⟨rfl, bc⟩
      have S1 := hg.out.1.later bc
      have hlb := hg.out.2.1.size
      rw [hlo] at hlb
      have BB := hg.out.2.1.trans (bc.mono hlb)
      have hS := HRS.out _ S1
      refine hK _ _ (fun _ => hS) ?_
      clear hK K SC bc hg hlb
      have hg := Lib.hid (And.intro S1 BB)
      clear S1 BB
      simp only [List.setIfInBounds_toArray, List.set_cons_succ, List.set_cons_zero]
      refine AnyS.get (i := 14) (some 59) ?_ rfl rfl (by kernel_rfl) (by kernel_rfl) (by kernel_rfl) (by kernel_rfl) (fun _ _ _ h => h) (Reads.yes (by kernel_rfl) ?_ (fun _ => rfl)) hS ?_
      rotate_left
      · intro w' hw'
        go_simp
        with_reducible rfl
      simp only [Act.put, List.setIfInBounds_toArray, List.set_cons_succ, List.set_cons_zero]
      refine AnyS.get (i := 15) (some 60) ?_ rfl rfl (by kernel_rfl) (by kernel_rfl) (by kernel_rfl) (by kernel_rfl) (fun _ _ _ h => h) (Reads.yes (by kernel_rfl) ?_ (fun _ => rfl)) hS ?_
      rotate_left
      · intro w' hw'
        go_simp
        with_reducible rfl
      simp only [Act.put, List.setIfInBounds_toArray, List.set_cons_succ, List.set_cons_zero]
      refine AnyS.get (i := 16) (some 61) ?_ rfl rfl (by kernel_rfl) (by kernel_rfl) (by kernel_rfl) (by kernel_rfl) (fun _ _ _ h => h) (Reads.yes (by kernel_rfl) ?_ (fun _ => rfl)) hS ?_
      rotate_left
      · intro w' hw'
        go_simp
        with_reducible rfl
      simp only [Act.put, List.setIfInBounds_toArray, List.set_cons_succ, List.set_cons_zero]
      refine AnyS.get (i := 17) (some 62) ?_ rfl rfl (by kernel_rfl) (by kernel_rfl) (by kernel_rfl) (by kernel_rfl) (fun _ _ _ h => h) (Reads.yes (by kernel_rfl) ?_ (fun _ => rfl)) hS ?_
      rotate_left
      · intro w' hw'
        go_simp
        with_reducible rfl
      simp only [Act.put, List.setIfInBounds_toArray, List.set_cons_succ, List.set_cons_zero]
      refine AnyS.get (i := 18) (some 63) ?_ rfl rfl (by kernel_rfl) (by kernel_rfl) (by kernel_rfl) (by kernel_rfl) (fun _ _ _ h => h) (Reads.yes (by kernel_rfl) ?_ (fun _ => rfl)) hS ?_
      rotate_left
      · intro w' hw'
        obtain ⟨t1, t2, t3, t4⟩ := hw'; obtain ⟨y0, y1, y2⟩ := t1.cell; unfold dB at y0 y1 y2; dsimp only at y0 y1 y2; clear t1 t2 t3 t4
        go_simp
        with_reducible rfl
      simp only [Act.put, List.setIfInBounds_toArray, List.set_cons_succ, List.set_cons_zero]
      refine AnyS.next (i := 19) rfl (by kernel_rfl) (by kernel_rfl) fun K hK => ?_
      refine want_yes (by kernel_rfl) ?_
      have hlb := hg.out.2.size
      rw [hlo] at hlb
      have pc := hg.out.1.put hlb dB (by simp) fB
      rw [show (if dB.may then (0 : Int) else 2) = 0 from rfl, dput5] at pc
      have PC := Lib.hid pc
      clear pc hS
      unfold ceVal dB at PC
      dsimp only at PC
      go_simp
      refine ⟨trivial, (callsIn_wide.2 PC.out).mono ?_⟩
      rintro e wd ⟨rfl, S1, bd⟩
      have S1 : St lo lo [dY, dX, dB] [(Z + 1, dB), (Z, dY), (X + 1, dY), (X, dX)] wd := S1
      have BB : Below lo w wd := hg.out.2.trans bd
      have hS : CeAt (Z + 1) dB wd ∧ CeAt Z dY wd ∧ CeAt (X + 1) dY wd ∧ CeAt X dX wd := ⟨S1.cell (by simp), S1.cell (by simp), S1.cell (by simp), S1.cell (by simp)⟩
      refine hK _ _ (fun _ => hS) ?_
      clear hK K PC bd hg hlb
      have hg := Lib.hid (And.intro S1 BB)
      clear S1 BB
      simp only [List.setIfInBounds_toArray, List.set_cons_succ, List.set_cons_zero]
      refine AnyS.get (i := 20) (some 65) ?_ rfl rfl (by kernel_rfl) (by kernel_rfl) (by kernel_rfl) (by kernel_rfl) (fun _ _ _ h => h) (Reads.yes (by kernel_rfl) ?_ (fun _ => rfl)) hS ?_
      rotate_left
      · intro w' hw'
        go_simp
        with_reducible rfl
      simp only [Act.put, List.setIfInBounds_toArray, List.set_cons_succ, List.set_cons_zero]
      refine AnyS.get (i := 21) (some 66) ?_ rfl rfl (by kernel_rfl) (by kernel_rfl) (by kernel_rfl) (by kernel_rfl) (fun _ _ _ h => h) (Reads.yes (by kernel_rfl) ?_ (fun _ => rfl)) hS ?_
      rotate_left
      · intro w' hw'
        go_simp
        with_reducible rfl
      simp only [Act.put, List.setIfInBounds_toArray, List.set_cons_succ, List.set_cons_zero]
      refine AnyS.done (by kernel_rfl) ?_ _
      go_wp2_with fail
      go_meet
      exact ⟨rfl, Lib.hid hg.out.1, Lib.hid hg.out.2⟩
  obtain ⟨rfl, HS, HB⟩ := hcut
  have hlW := HB.out.size
  rw [hlo] at hlW
  have cc := HS.out.cut hlW (by simp) [98]
  rw [show lowC [dY, dX, dB] [98] = [dY, dX] by decide, show highC [dY, dX, dB] [98] = [dB] by decide] at cc
  have CC := Lib.hid cc
  clear cc HS
  go_wp2_with fail
  refine CC.out.mono ?_
  rintro e w9 ⟨pa, pb, rfl, SA, SB, -, b9⟩
  have BB : Below lo w w9 := HB.out.trans (b9.mono hlW)
  have HA := Lib.hid SA
  have HS := Lib.hid SB
  clear CC HB SA SB b9 hlW
  have HB := Lib.hid BB
  clear BB
  go_wp2_with fail
  have RS : ∀ W', St lo pa [dY, dX] [(Z + 1, dB), (Z, dY), (X + 1, dY), (X, dX)] W' → CeAt (Z + 1) dB W' ∧ CeAt (X + 1) dY W' ∧ CeAt X dX W' := fun W' h => ⟨h.cell (by simp), h.cell (by simp), h.cell (by simp)⟩
  have HRS := Lib.hid RS
  clear RS
  have ra := fun W' (h : St lo pa [dY, dX] [(Z + 1, dB), (Z, dY), (X + 1, dY), (X, dX)] W') => h.range (by simp) [] []
  have rb := fun W' (h : St lo pb [dB] [(Z + 1, dB), (Z, dY), (X + 1, dY), (X, dX)] W') => h.range (by simp) [] []
  have RA := Lib.hid ra
  have RB := Lib.hid rb
  clear ra rb
  refine (wpIn_wide (n := 5)).1 ?_
  refine wpIn_region_lit_late (fun w' => CeAt (Z + 1) dB w' ∧ CeAt (X + 1) dY w' ∧ CeAt X dX w') (fun _ => false) (k := 21) (listed := #[false, false, false, false, false, false, false, false, false, false, false, false, false, false, false, false, false, false, false, false, false]) (by kernel_rfl) (by kernel_rfl) (by kernel_rfl) ?_
  have hlW := HB.out.size
  rw [hlo] at hlW
  have B0 : Below lo w w9.drew := HB.out.trans ((Below.drew (Below.refl _ w9)).mono hlW)
  have A0 := HA.out.later (Below.drew (Below.refl _ w9))
  have S0 := HS.out.later (Below.drew (Below.refl _ w9))
  clear HA HS HB hlW
  generalize w9.drew = wz at *
  have hS := HRS.out _ A0
  have hg := Lib.hid (And.intro A0 (And.intro S0 B0))
  clear A0 S0 B0
  refine AnyS.get (i := 0) (some 72) ?_ rfl rfl (by kernel_rfl) (by kernel_rfl) (by kernel_rfl) (by kernel_rfl) (fun _ _ _ h => h) (Reads.yes (by kernel_rfl) ?_ (fun _ => rfl)) hS ?_
  rotate_left
  · intro w' hw'
    go_simp
    with_reducible rfl
  simp only [Act.put, List.setIfInBounds_toArray, List.set_cons_succ, List.set_cons_zero]
  refine AnyS.get (i := 2) (some 74) ?_ rfl rfl (by kernel_rfl) (by kernel_rfl) (by kernel_rfl) (by kernel_rfl) (fun _ _ _ h => h) (Reads.yes (by kernel_rfl) ?_ (fun _ => rfl)) hS ?_
  rotate_left
  · intro w' hw'
    obtain ⟨t1, t3, t4⟩ := hw'; obtain ⟨y0, y1, y2⟩ := t3.cell; unfold dY at y0 y1 y2; dsimp only at y0 y1 y2; clear t1 t3 t4
    go_simp
    with_reducible rfl
  simp only [Act.put, List.setIfInBounds_toArray, List.set_cons_succ, List.set_cons_zero]
  refine AnyS.get (i := 3) (some 75) ?_ rfl rfl (by kernel_rfl) (by kernel_rfl) (by kernel_rfl) (by kernel_rfl) (fun _ _ _ h => h) (Reads.yes (by kernel_rfl) ?_ (fun _ => rfl)) hS ?_
  rotate_left
  · intro w' hw'
    obtain ⟨t1, t3, t4⟩ := hw'; obtain ⟨y0, y1, y2⟩ := t4.cell; unfold dX at y0 y1 y2; dsimp only at y0 y1 y2; clear t1 t3 t4
    go_simp
    with_reducible rfl
  simp only [Act.put, List.setIfInBounds_toArray, List.set_cons_succ, List.set_cons_zero]
  clear hS
  refine AnyS.two (i := 1) (j := 4) rfl rfl (by kernel_rfl) (by kernel_rfl) (fun K hK => ?_) (fun K hK => ?_)
  · refine want_yes (by kernel_rfl) ?_
    go_simp
    refine ⟨trivial, (callsIn_wide.2 (RA.out _ hg.out.1)).mono ?_⟩
    rintro e wb ⟨ba, v, rfl, own⟩
    have hlb := hg.out.2.2.size
    rw [hlo] at hlb
    have A1 := hg.out.1.later ba
    have S1 := hg.out.2.1.later ba
    have BB := hg.out.2.2.trans (ba.mono hlb)
    clear hlb
    rw [rangeC_all] at own
    have sl := slAt_own own
    refine hK _ _ (fun _ => HRS.out _ A1) ?_
    clear hK K own hg ba
    simp only [List.setIfInBounds_toArray, List.set_cons_succ, List.set_cons_zero]
    refine AnyS.next (i := 4) rfl (by kernel_rfl) (by kernel_rfl) fun K hK => ?_
    refine want_yes (by kernel_rfl) ?_
    go_simp
    have nb := (Below.refl wb.heap.size wb).alloc (Nat.le_refl _) (.cells (rowOf [dY, dX]).toArray 33)
    have s2 := new_sl [dY, dX] wb (by simp)
    rw [show (rowOf [dY, dX]).toArray = #[.string ⟨#[97]⟩, .int .i64 2, .string ⟨#[121]⟩, .string ⟨#[97]⟩, .int .i64 1, .string ⟨#[120]⟩] from rfl] at nb s2
    have hg := Lib.hid (And.intro A1 (And.intro S1 BB))
    clear A1 S1 BB
    have hlb := hg.out.2.2.size
    rw [hlo] at hlb
    have A1 := hg.out.1.later nb
    have S1 := hg.out.2.1.later nb
    have BB := hg.out.2.2.trans (nb.mono hlb)
    clear hlb
    have sl := sl.later nb
    refine hK _ _ (fun _ => HRS.out _ A1) ?_
    clear hK K nb hg
    generalize wb.alloc _ = wc at *
    generalize wb.heap.size = g at *
    have hg := Lib.hid (And.intro A1 (And.intro S1 BB))
    have hsl := Lib.hid (And.intro sl s2)
    clear A1 S1 BB sl s2
    simp only [List.setIfInBounds_toArray, List.set_cons_succ, List.set_cons_zero]
    refine AnyS.next (i := 5) rfl (by kernel_rfl) (by kernel_rfl) fun K hK => ?_
    refine want_yes (by kernel_rfl) ?_
    have sc := sl_two _ _ _ _ hsl.out.1 _ hsl.out.2 rfl
    have SC := Lib.hid sc
    clear sc
    go_simp
    refine ⟨trivial, (callsIn_wide.2 SC.out).mono ?_⟩
    rintro e we ⟨rfl, bc⟩
    have hlb := hg.out.2.2.size
    rw [hlo] at hlb
    have A1 := hg.out.1.later bc
    have S1 := hg.out.2.1.later bc
    have BB := hg.out.2.2.trans (bc.mono hlb)
    clear hlb
    have hS := HRS.out _ A1
    refine hK _ _ (fun _ => hS) ?_
    clear hK K SC bc hg hsl
    have hg := Lib.hid (And.intro A1 (And.intro S1 BB))
    clear A1 S1 BB
    simp only [List.setIfInBounds_toArray, List.set_cons_succ, List.set_cons_zero]
    refine AnyS.get (i := 6) (some 78) ?_ rfl rfl (by kernel_rfl) (by kernel_rfl) (by kernel_rfl) (by kernel_rfl) (fun _ _ _ h => h) (Reads.yes (by kernel_rfl) ?_ (fun _ => rfl)) hS ?_
    rotate_left
    · intro w' hw'
      go_simp
      with_reducible rfl
    simp only [Act.put, List.setIfInBounds_toArray, List.set_cons_succ, List.set_cons_zero]
    refine AnyS.get (i := 7) (some 79) ?_ rfl rfl (by kernel_rfl) (by kernel_rfl) (by kernel_rfl) (by kernel_rfl) (fun _ _ _ h => h) (Reads.yes (by kernel_rfl) ?_ (fun _ => rfl)) hS ?_
    rotate_left
    · intro w' hw'
      go_simp
      with_reducible rfl
    simp only [Act.put, List.setIfInBounds_toArray, List.set_cons_succ, List.set_cons_zero]
    refine AnyS.get (i := 9) (some 81) ?_ rfl rfl (by kernel_rfl) (by kernel_rfl) (by kernel_rfl) (by kernel_rfl) (fun _ _ _ h => h) (Reads.yes (by kernel_rfl) ?_ (fun _ => rfl)) hS ?_
    rotate_left
    · intro w' hw'
      obtain ⟨t1, t3, t4⟩ := hw'; obtain ⟨y0, y1, y2⟩ := t1.cell; unfold dB at y0 y1 y2; dsimp only at y0 y1 y2; clear t1 t3 t4
      go_simp
      with_reducible rfl
    simp only [Act.put, List.setIfInBounds_toArray, List.set_cons_succ, List.set_cons_zero]
    clear hS
    refine AnyS.two (i := 8) (j := 10) rfl rfl (by kernel_rfl) (by kernel_rfl) (fun K hK => ?_) (fun K hK => ?_)
    · refine want_yes (by kernel_rfl) ?_
      go_simp
      refine ⟨trivial, (callsIn_wide.2 (RB.out _ hg.out.2.1)).mono ?_⟩
      rintro e wb ⟨ba, v, rfl, own⟩
      have hlb := hg.out.2.2.size
      rw [hlo] at hlb
      have A1 := hg.out.1.later ba
      have S1 := hg.out.2.1.later ba
      have BB := hg.out.2.2.trans (ba.mono hlb)
      clear hlb
      rw [rangeC_all] at own
      have sl := slAt_own own
      refine hK _ _ (fun _ => HRS.out _ A1) ?_
      clear hK K own hg ba
      simp only [List.setIfInBounds_toArray, List.set_cons_succ, List.set_cons_zero]
      refine AnyS.next (i := 10) rfl (by kernel_rfl) (by kernel_rfl) fun K hK => ?_
      refine want_yes (by kernel_rfl) ?_
      go_simp
      have nb := (Below.refl wb.heap.size wb).alloc (Nat.le_refl _) (.cells (rowOf [dB]).toArray 33)
      have s2 := new_sl [dB] wb (by simp)
      rw [show (rowOf [dB]).toArray = #[.string ⟨#[98]⟩, .int .i64 1, .string ⟨#[]⟩] from rfl] at nb s2
      have hg := Lib.hid (And.intro A1 (And.intro S1 BB))
      clear A1 S1 BB
      have hlb := hg.out.2.2.size
      rw [hlo] at hlb
      have A1 := hg.out.1.later nb
      have S1 := hg.out.2.1.later nb
      have BB := hg.out.2.2.trans (nb.mono hlb)
      clear hlb
      have sl := sl.later nb
      refine hK _ _ (fun _ => HRS.out _ A1) ?_
      clear hK K nb hg
      generalize wb.alloc _ = wc at *
      generalize wb.heap.size = g at *
      have hg := Lib.hid (And.intro A1 (And.intro S1 BB))
      have hsl := Lib.hid (And.intro sl s2)
      clear A1 S1 BB sl s2
      simp only [List.setIfInBounds_toArray, List.set_cons_succ, List.set_cons_zero]
      refine AnyS.next (i := 11) rfl (by kernel_rfl) (by kernel_rfl) fun K hK => ?_
      refine want_yes (by kernel_rfl) ?_
      have sc := sl_two _ _ _ _ hsl.out.1 _ hsl.out.2 rfl
      have SC := Lib.hid sc
      clear sc
      go_simp
      refine ⟨trivial, (callsIn_wide.2 SC.out).mono ?_⟩
      rintro e we ⟨rfl, bc⟩
      have hlb := hg.out.2.2.size
      rw [hlo] at hlb
      have A1 := hg.out.1.later bc
      have S1 := hg.out.2.1.later bc
      have BB := hg.out.2.2.trans (bc.mono hlb)
      clear hlb
      have hS := HRS.out _ A1
      refine hK _ _ (fun _ => hS) ?_
      clear hK K SC bc hg hsl
      have hg := Lib.hid (And.intro A1 (And.intro S1 BB))
      clear A1 S1 BB
      simp only [List.setIfInBounds_toArray, List.set_cons_succ, List.set_cons_zero]
      refine AnyS.get (i := 12) (some 84) ?_ rfl rfl (by kernel_rfl) (by kernel_rfl) (by kernel_rfl) (by kernel_rfl) (fun _ _ _ h => h) (Reads.yes (by kernel_rfl) ?_ (fun _ => rfl)) hS ?_
      rotate_left
      · intro w' hw'
        go_simp
        with_reducible rfl
      simp only [Act.put, List.setIfInBounds_toArray, List.set_cons_succ, List.set_cons_zero]
      refine AnyS.get (i := 13) (some 85) ?_ rfl rfl (by kernel_rfl) (by kernel_rfl) (by kernel_rfl) (by kernel_rfl) (fun _ _ _ h => h) (Reads.yes (by kernel_rfl) ?_ (fun _ => rfl)) hS ?_
      rotate_left
      · intro w' hw'
        go_simp
        with_reducible rfl
      simp only [Act.put, List.setIfInBounds_toArray, List.set_cons_succ, List.set_cons_zero]
      refine AnyS.get (i := 14) (some 86) ?_ rfl rfl (by kernel_rfl) (by kernel_rfl) (by kernel_rfl) (by kernel_rfl) (fun _ _ _ h => h) (Reads.yes (by kernel_rfl) ?_ (fun _ => rfl)) hS ?_
      rotate_left
      · intro w' hw'
        go_simp
        with_reducible rfl
      simp only [Act.put, List.setIfInBounds_toArray, List.set_cons_succ, List.set_cons_zero]
      refine AnyS.get (i := 15) (some 87) ?_ rfl rfl (by kernel_rfl) (by kernel_rfl) (by kernel_rfl) (by kernel_rfl) (fun _ _ _ h => h) (Reads.yes (by kernel_rfl) ?_ (fun _ => rfl)) hS ?_
      rotate_left
      · intro w' hw'
        go_simp
        with_reducible rfl
      simp only [Act.put, List.setIfInBounds_toArray, List.set_cons_succ, List.set_cons_zero]
      refine AnyS.next (i := 16) rfl (by kernel_rfl) (by kernel_rfl) fun K hK => ?_
      refine want_yes (by kernel_rfl) ?_
      have hlb := hg.out.2.2.size
      rw [hlo] at hlb
      have jc := hg.out.1.join hg.out.2.1 hlb (by simp) (by simpa using fB)
      rw [show putsC [dY, dX] [dB] = [dY, dX, dB] by decide] at jc
      have JC := Lib.hid jc
      clear jc hlb hS
      go_simp
      refine ⟨trivial, (callsIn_wide.2 JC.out).mono ?_⟩
      rintro e wf ⟨pj, rfl, SJ, bj⟩
      have hlb := hg.out.2.2.size
      rw [hlo] at hlb
      have A1 := hg.out.1.later bj
      have S1 := hg.out.2.1.later bj
      have BB := hg.out.2.2.trans (bj.mono hlb)
      clear hlb
      have hS := HRS.out _ A1
      refine hK _ _ (fun _ => hS) ?_
      have lc := SJ.len (by simp)
      have LC := Lib.hid lc
      clear hK K JC bj hg lc SJ hS
      dsimp only [List.length_cons, List.length_nil] at LC
      have hg := Lib.hid (And.intro A1 (And.intro S1 BB))
      clear A1 S1 BB
      simp only [List.setIfInBounds_toArray, List.set_cons_succ, List.set_cons_zero]
      refine AnyS.next (i := 17) rfl (by kernel_rfl) (by kernel_rfl) fun K hK => ?_
      refine want_yes (by kernel_rfl) ?_
      go_simp
      refine ⟨trivial, (callsIn_wide.2 LC.out).mono ?_⟩
      rintro e wh ⟨rfl, bl⟩
      have hlb := hg.out.2.2.size
      rw [hlo] at hlb
      have A1 := hg.out.1.later bl
      have S1 := hg.out.2.1.later bl
      have BB := hg.out.2.2.trans (bl.mono hlb)
      clear hlb
      have hS := HRS.out _ A1
      refine hK _ _ (fun _ => hS) ?_
      clear hK K LC bl hg
      have hg := Lib.hid BB
      clear A1 S1 BB
      simp only [List.setIfInBounds_toArray, List.set_cons_succ, List.set_cons_zero]
      refine AnyS.get (i := 18) (some 90) ?_ rfl rfl (by kernel_rfl) (by kernel_rfl) (by kernel_rfl) (by kernel_rfl) (fun _ _ _ h => h) (Reads.yes (by kernel_rfl) ?_ (fun _ => rfl)) hS ?_
      rotate_left
      · intro w' hw'
        go_simp
        with_reducible rfl
      simp only [Act.put, List.setIfInBounds_toArray, List.set_cons_succ, List.set_cons_zero]
      refine AnyS.get (i := 19) (some 91) ?_ rfl rfl (by kernel_rfl) (by kernel_rfl) (by kernel_rfl) (by kernel_rfl) (fun _ _ _ h => h) (Reads.yes (by kernel_rfl) ?_ (fun _ => rfl)) hS ?_
      rotate_left
      · intro w' hw'
        go_simp
        with_reducible rfl
      simp only [Act.put, List.setIfInBounds_toArray, List.set_cons_succ, List.set_cons_zero]
      refine AnyS.get (i := 20) (some 0) ?_ rfl rfl (by kernel_rfl) (by kernel_rfl) (by kernel_rfl) (by kernel_rfl) (fun _ _ _ h => h) (Reads.yes (by kernel_rfl) ?_ (fun _ => rfl)) hS ?_
      rotate_left
      · intro w' hw'
        go_simp
        with_reducible rfl
      simp only [Act.put, List.setIfInBounds_toArray, List.set_cons_succ, List.set_cons_zero]
      refine AnyS.done (by kernel_rfl) ?_ _
      go_wp2_with fail
      go_ret
      exact ⟨rfl, hlo ▸ hg.out⟩
    · refine want_yes (by kernel_rfl) ?_
      go_simp
      have nb := (Below.refl we.heap.size we).alloc (Nat.le_refl _) (.cells (rowOf [dB]).toArray 33)
      have s2 := new_sl [dB] we (by simp)
      rw [show (rowOf [dB]).toArray = #[.string ⟨#[98]⟩, .int .i64 1, .string ⟨#[]⟩] from rfl] at nb s2
      have hlb := hg.out.2.2.size
      rw [hlo] at hlb
      have A1 := hg.out.1.later nb
      have S1 := hg.out.2.1.later nb
      have BB := hg.out.2.2.trans (nb.mono hlb)
      clear hlb
      refine hK _ _ (fun _ => HRS.out _ A1) ?_
      clear hK K nb hg
      generalize we.alloc _ = wb at *
      generalize we.heap.size = g at *
      have hg := Lib.hid (And.intro A1 (And.intro S1 BB))
      have hs2 := Lib.hid s2
      clear A1 S1 BB s2
      simp only [List.setIfInBounds_toArray, List.set_cons_succ, List.set_cons_zero]
      refine AnyS.next (i := 8) rfl (by kernel_rfl) (by kernel_rfl) fun K hK => ?_
      refine want_yes (by kernel_rfl) ?_
      go_simp
      refine ⟨trivial, (callsIn_wide.2 (RB.out _ hg.out.2.1)).mono ?_⟩
      rintro e wc ⟨ba, v, rfl, own⟩
      have hlb := hg.out.2.2.size
      rw [hlo] at hlb
      have A1 := hg.out.1.later ba
      have S1 := hg.out.2.1.later ba
      have BB := hg.out.2.2.trans (ba.mono hlb)
      clear hlb
      rw [rangeC_all] at own
      have sl := slAt_own own
      have s2 := hs2.out.later ba
      refine hK _ _ (fun _ => HRS.out _ A1) ?_
      clear hK K own hg ba hs2
      have hg := Lib.hid (And.intro A1 (And.intro S1 BB))
      have hsl := Lib.hid (And.intro sl s2)
      clear A1 S1 BB sl s2
      simp only [List.setIfInBounds_toArray, List.set_cons_succ, List.set_cons_zero]
      refine AnyS.next (i := 11) rfl (by kernel_rfl) (by kernel_rfl) fun K hK => ?_
      refine want_yes (by kernel_rfl) ?_
      have sc := sl_two _ _ _ _ hsl.out.1 _ hsl.out.2 rfl
      have SC := Lib.hid sc
      clear sc
      go_simp
      refine ⟨trivial, (callsIn_wide.2 SC.out).mono ?_⟩
      rintro e we ⟨rfl, bc⟩
      have hlb := hg.out.2.2.size
      rw [hlo] at hlb
      have A1 := hg.out.1.later bc
      have S1 := hg.out.2.1.later bc
      have BB := hg.out.2.2.trans (bc.mono hlb)
      clear hlb
      have hS := HRS.out _ A1
      refine hK _ _ (fun _ => hS) ?_
      clear hK K SC bc hg hsl
      have hg := Lib.hid (And.intro A1 (And.intro S1 BB))
      clear A1 S1 BB
      simp only [List.setIfInBounds_toArray, List.set_cons_succ, List.set_cons_zero]
      refine AnyS.get (i := 12) (some 84) ?_ rfl rfl (by kernel_rfl) (by kernel_rfl) (by kernel_rfl) (by kernel_rfl) (fun _ _ _ h => h) (Reads.yes (by kernel_rfl) ?_ (fun _ => rfl)) hS ?_
      rotate_left
      · intro w' hw'
        go_simp
        with_reducible rfl
      simp only [Act.put, List.setIfInBounds_toArray, List.set_cons_succ, List.set_cons_zero]
      refine AnyS.get (i := 13) (some 85) ?_ rfl rfl (by kernel_rfl) (by kernel_rfl) (by kernel_rfl) (by kernel_rfl) (fun _ _ _ h => h) (Reads.yes (by kernel_rfl) ?_ (fun _ => rfl)) hS ?_
      rotate_left
      · intro w' hw'
        go_simp
        with_reducible rfl
      simp only [Act.put, List.setIfInBounds_toArray, List.set_cons_succ, List.set_cons_zero]
      refine AnyS.get (i := 14) (some 86) ?_ rfl rfl (by kernel_rfl) (by kernel_rfl) (by kernel_rfl) (by kernel_rfl) (fun _ _ _ h => h) (Reads.yes (by kernel_rfl) ?_ (fun _ => rfl)) hS ?_
      rotate_left
      · intro w' hw'
        go_simp
        with_reducible rfl
      simp only [Act.put, List.setIfInBounds_toArray, List.set_cons_succ, List.set_cons_zero]
      refine AnyS.get (i := 15) (some 87) ?_ rfl rfl (by kernel_rfl) (by kernel_rfl) (by kernel_rfl) (by kernel_rfl) (fun _ _ _ h => h) (Reads.yes (by kernel_rfl) ?_ (fun _ => rfl)) hS ?_
      rotate_left
      · intro w' hw'
        go_simp
        with_reducible rfl
      simp only [Act.put, List.setIfInBounds_toArray, List.set_cons_succ, List.set_cons_zero]
      refine AnyS.next (i := 16) rfl (by kernel_rfl) (by kernel_rfl) fun K hK => ?_
      refine want_yes (by kernel_rfl) ?_
      have hlb := hg.out.2.2.size
      rw [hlo] at hlb
      have jc := hg.out.1.join hg.out.2.1 hlb (by simp) (by simpa using fB)
      rw [show putsC [dY, dX] [dB] = [dY, dX, dB] by decide] at jc
      have JC := Lib.hid jc
      clear jc hlb hS
      go_simp
      refine ⟨trivial, (callsIn_wide.2 JC.out).mono ?_⟩
      rintro e wf ⟨pj, rfl, SJ, bj⟩
      have hlb := hg.out.2.2.size
      rw [hlo] at hlb
      have A1 := hg.out.1.later bj
      have S1 := hg.out.2.1.later bj
      have BB := hg.out.2.2.trans (bj.mono hlb)
      clear hlb
      have hS := HRS.out _ A1
      refine hK _ _ (fun _ => hS) ?_
      have lc := SJ.len (by simp)
      have LC := Lib.hid lc
      clear hK K JC bj hg lc SJ hS
      dsimp only [List.length_cons, List.length_nil] at LC
      have hg := Lib.hid (And.intro A1 (And.intro S1 BB))
      clear A1 S1 BB
      simp only [List.setIfInBounds_toArray, List.set_cons_succ, List.set_cons_zero]
      refine AnyS.next (i := 17) rfl (by kernel_rfl) (by kernel_rfl) fun K hK => ?_
      refine want_yes (by kernel_rfl) ?_
      go_simp
      refine ⟨trivial, (callsIn_wide.2 LC.out).mono ?_⟩
      rintro e wh ⟨rfl, bl⟩
      have hlb := hg.out.2.2.size
      rw [hlo] at hlb
      have A1 := hg.out.1.later bl
      have S1 := hg.out.2.1.later bl
      have BB := hg.out.2.2.trans (bl.mono hlb)
      clear hlb
      have hS := HRS.out _ A1
      refine hK _ _ (fun _ => hS) ?_
      clear hK K LC bl hg
      have hg := Lib.hid BB
      clear A1 S1 BB
      simp only [List.setIfInBounds_toArray, List.set_cons_succ, List.set_cons_zero]
      refine AnyS.get (i := 18) (some 90) ?_ rfl rfl (by kernel_rfl) (by kernel_rfl) (by kernel_rfl) (by kernel_rfl) (fun _ _ _ h => h) (Reads.yes (by kernel_rfl) ?_ (fun _ => rfl)) hS ?_
      rotate_left
      · intro w' hw'
        go_simp
        with_reducible rfl
      simp only [Act.put, List.setIfInBounds_toArray, List.set_cons_succ, List.set_cons_zero]
      refine AnyS.get (i := 19) (some 91) ?_ rfl rfl (by kernel_rfl) (by kernel_rfl) (by kernel_rfl) (by kernel_rfl) (fun _ _ _ h => h) (Reads.yes (by kernel_rfl) ?_ (fun _ => rfl)) hS ?_
      rotate_left
      · intro w' hw'
        go_simp
        with_reducible rfl
      simp only [Act.put, List.setIfInBounds_toArray, List.set_cons_succ, List.set_cons_zero]
      refine AnyS.get (i := 20) (some 0) ?_ rfl rfl (by kernel_rfl) (by kernel_rfl) (by kernel_rfl) (by kernel_rfl) (fun _ _ _ h => h) (Reads.yes (by kernel_rfl) ?_ (fun _ => rfl)) hS ?_
      rotate_left
      · intro w' hw'
        go_simp
        with_reducible rfl
      simp only [Act.put, List.setIfInBounds_toArray, List.set_cons_succ, List.set_cons_zero]
      refine AnyS.done (by kernel_rfl) ?_ _
      go_wp2_with fail
      go_ret
      exact ⟨rfl, hlo ▸ hg.out⟩
  · refine want_yes (by kernel_rfl) ?_
    go_simp
    have nb := (Below.refl wz.heap.size wz).alloc (Nat.le_refl _) (.cells (rowOf [dY, dX]).toArray 33)
    have s2 := new_sl [dY, dX] wz (by simp)
    rw [show (rowOf [dY, dX]).toArray = #[.string ⟨#[97]⟩, .int .i64 2, .string ⟨#[121]⟩, .string ⟨#[97]⟩, .int .i64 1, .string ⟨#[120]⟩] from rfl] at nb s2
    have hlb := hg.out.2.2.size
    rw [hlo] at hlb
    have A1 := hg.out.1.later nb
    have S1 := hg.out.2.1.later nb
    have BB := hg.out.2.2.trans (nb.mono hlb)
    clear hlb
    refine hK _ _ (fun _ => HRS.out _ A1) ?_
    clear hK K nb hg
    generalize wz.alloc _ = wb at *
    generalize wz.heap.size = g at *
    have hg := Lib.hid (And.intro A1 (And.intro S1 BB))
    have hs2 := Lib.hid s2
    clear A1 S1 BB s2
    simp only [List.setIfInBounds_toArray, List.set_cons_succ, List.set_cons_zero]
    refine AnyS.next (i := 1) rfl (by kernel_rfl) (by kernel_rfl) fun K hK => ?_
    refine want_yes (by kernel_rfl) ?_
    go_simp
    refine ⟨trivial, (callsIn_wide.2 (RA.out _ hg.out.1)).mono ?_⟩
    rintro e wc ⟨ba, v, rfl, own⟩
    have hlb := hg.out.2.2.size
    rw [hlo] at hlb
    have A1 := hg.out.1.later ba
    have S1 := hg.out.2.1.later ba
    have BB := hg.out.2.2.trans (ba.mono hlb)
    clear hlb
    rw [rangeC_all] at own
    have sl := slAt_own own
    have s2 := hs2.out.later ba
    refine hK _ _ (fun _ => HRS.out _ A1) ?_
    clear hK K own hg ba hs2
    have hg := Lib.hid (And.intro A1 (And.intro S1 BB))
    have hsl := Lib.hid (And.intro sl s2)
    clear A1 S1 BB sl s2
    simp only [List.setIfInBounds_toArray, List.set_cons_succ, List.set_cons_zero]
    refine AnyS.next (i := 5) rfl (by kernel_rfl) (by kernel_rfl) fun K hK => ?_
    refine want_yes (by kernel_rfl) ?_
    have sc := sl_two _ _ _ _ hsl.out.1 _ hsl.out.2 rfl
    have SC := Lib.hid sc
    clear sc
    go_simp
    refine ⟨trivial, (callsIn_wide.2 SC.out).mono ?_⟩
    rintro e we ⟨rfl, bc⟩
    have hlb := hg.out.2.2.size
    rw [hlo] at hlb
    have A1 := hg.out.1.later bc
    have S1 := hg.out.2.1.later bc
    have BB := hg.out.2.2.trans (bc.mono hlb)
    clear hlb
    have hS := HRS.out _ A1
    refine hK _ _ (fun _ => hS) ?_
    clear hK K SC bc hg hsl
    have hg := Lib.hid (And.intro A1 (And.intro S1 BB))
    clear A1 S1 BB
    simp only [List.setIfInBounds_toArray, List.set_cons_succ, List.set_cons_zero]
    refine AnyS.get (i := 6) (some 78) ?_ rfl rfl (by kernel_rfl) (by kernel_rfl) (by kernel_rfl) (by kernel_rfl) (fun _ _ _ h => h) (Reads.yes (by kernel_rfl) ?_ (fun _ => rfl)) hS ?_
    rotate_left
    · intro w' hw'
      go_simp
      with_reducible rfl
    simp only [Act.put, List.setIfInBounds_toArray, List.set_cons_succ, List.set_cons_zero]
    refine AnyS.get (i := 7) (some 79) ?_ rfl rfl (by kernel_rfl) (by kernel_rfl) (by kernel_rfl) (by kernel_rfl) (fun _ _ _ h => h) (Reads.yes (by kernel_rfl) ?_ (fun _ => rfl)) hS ?_
    rotate_left
    · intro w' hw'
      go_simp
      with_reducible rfl
    simp only [Act.put, List.setIfInBounds_toArray, List.set_cons_succ, List.set_cons_zero]
    refine AnyS.get (i := 9) (some 81) ?_ rfl rfl (by kernel_rfl) (by kernel_rfl) (by kernel_rfl) (by kernel_rfl) (fun _ _ _ h => h) (Reads.yes (by kernel_rfl) ?_ (fun _ => rfl)) hS ?_
    rotate_left
    · intro w' hw'
      obtain ⟨t1, t3, t4⟩ := hw'; obtain ⟨y0, y1, y2⟩ := t1.cell; unfold dB at y0 y1 y2; dsimp only at y0 y1 y2; clear t1 t3 t4
      go_simp
      with_reducible rfl
    simp only [Act.put, List.setIfInBounds_toArray, List.set_cons_succ, List.set_cons_zero]
    clear hS
    refine AnyS.two (i := 8) (j := 10) rfl rfl (by kernel_rfl) (by kernel_rfl) (fun K hK => ?_) (fun K hK => ?_)
    · refine want_yes (by kernel_rfl) ?_
      go_simp
      refine ⟨trivial, (callsIn_wide.2 (RB.out _ hg.out.2.1)).mono ?_⟩
      rintro e wb ⟨ba, v, rfl, own⟩
      have hlb := hg.out.2.2.size
      rw [hlo] at hlb
      have A1 := hg.out.1.later ba
      have S1 := hg.out.2.1.later ba
      have BB := hg.out.2.2.trans (ba.mono hlb)
      clear hlb
      rw [rangeC_all] at own
      have sl := slAt_own own
      refine hK _ _ (fun _ => HRS.out _ A1) ?_
      clear hK K own hg ba
      simp only [List.setIfInBounds_toArray, List.set_cons_succ, List.set_cons_zero]
      refine AnyS.next (i := 10) rfl (by kernel_rfl) (by kernel_rfl) fun K hK => ?_
      refine want_yes (by kernel_rfl) ?_
      go_simp
      have nb := (Below.refl wb.heap.size wb).alloc (Nat.le_refl _) (.cells (rowOf [dB]).toArray 33)
      have s2 := new_sl [dB] wb (by simp)
      rw [show (rowOf [dB]).toArray = #[.string ⟨#[98]⟩, .int .i64 1, .string ⟨#[]⟩] from rfl] at nb s2
      have hg := Lib.hid (And.intro A1 (And.intro S1 BB))
      clear A1 S1 BB
      have hlb := hg.out.2.2.size
      rw [hlo] at hlb
      have A1 := hg.out.1.later nb
      have S1 := hg.out.2.1.later nb
      have BB := hg.out.2.2.trans (nb.mono hlb)
      clear hlb
      have sl := sl.later nb
      refine hK _ _ (fun _ => HRS.out _ A1) ?_
      clear hK K nb hg
      generalize wb.alloc _ = wc at *
      generalize wb.heap.size = g at *
      have hg := Lib.hid (And.intro A1 (And.intro S1 BB))
      have hsl := Lib.hid (And.intro sl s2)
      clear A1 S1 BB sl s2
      simp only [List.setIfInBounds_toArray, List.set_cons_succ, List.set_cons_zero]
      refine AnyS.next (i := 11) rfl (by kernel_rfl) (by kernel_rfl) fun K hK => ?_
      refine want_yes (by kernel_rfl) ?_
      have sc := sl_two _ _ _ _ hsl.out.1 _ hsl.out.2 rfl
      have SC := Lib.hid sc
      clear sc
      go_simp
      refine ⟨trivial, (callsIn_wide.2 SC.out).mono ?_⟩
      rintro e we ⟨rfl, bc⟩
      have hlb := hg.out.2.2.size
      rw [hlo] at hlb
      have A1 := hg.out.1.later bc
      have S1 := hg.out.2.1.later bc
      have BB := hg.out.2.2.trans (bc.mono hlb)
      clear hlb
      have hS := HRS.out _ A1
      refine hK _ _ (fun _ => hS) ?_
      clear hK K SC bc hg hsl
      have hg := Lib.hid (And.intro A1 (And.intro S1 BB))
      clear A1 S1 BB
      simp only [List.setIfInBounds_toArray, List.set_cons_succ, List.set_cons_zero]
      refine AnyS.get (i := 12) (some 84) ?_ rfl rfl (by kernel_rfl) (by kernel_rfl) (by kernel_rfl) (by kernel_rfl) (fun _ _ _ h => h) (Reads.yes (by kernel_rfl) ?_ (fun _ => rfl)) hS ?_
      rotate_left
      · intro w' hw'
        go_simp
        with_reducible rfl
      simp only [Act.put, List.setIfInBounds_toArray, List.set_cons_succ, List.set_cons_zero]
      refine AnyS.get (i := 13) (some 85) ?_ rfl rfl (by kernel_rfl) (by kernel_rfl) (by kernel_rfl) (by kernel_rfl) (fun _ _ _ h => h) (Reads.yes (by kernel_rfl) ?_ (fun _ => rfl)) hS ?_
      rotate_left
      · intro w' hw'
        go_simp
        with_reducible rfl
      simp only [Act.put, List.setIfInBounds_toArray, List.set_cons_succ, List.set_cons_zero]
      refine AnyS.get (i := 14) (some 86) ?_ rfl rfl (by kernel_rfl) (by kernel_rfl) (by kernel_rfl) (by kernel_rfl) (fun _ _ _ h => h) (Reads.yes (by kernel_rfl) ?_ (fun _ => rfl)) hS ?_
      rotate_left
      · intro w' hw'
        go_simp
        with_reducible rfl
      simp only [Act.put, List.setIfInBounds_toArray, List.set_cons_succ, List.set_cons_zero]
      refine AnyS.get (i := 15) (some 87) ?_ rfl rfl (by kernel_rfl) (by kernel_rfl) (by kernel_rfl) (by kernel_rfl) (fun _ _ _ h => h) (Reads.yes (by kernel_rfl) ?_ (fun _ => rfl)) hS ?_
      rotate_left
      · intro w' hw'
        go_simp
        with_reducible rfl
      simp only [Act.put, List.setIfInBounds_toArray, List.set_cons_succ, List.set_cons_zero]
      refine AnyS.next (i := 16) rfl (by kernel_rfl) (by kernel_rfl) fun K hK => ?_
      refine want_yes (by kernel_rfl) ?_
      have hlb := hg.out.2.2.size
      rw [hlo] at hlb
      have jc := hg.out.1.join hg.out.2.1 hlb (by simp) (by simpa using fB)
      rw [show putsC [dY, dX] [dB] = [dY, dX, dB] by decide] at jc
      have JC := Lib.hid jc
      clear jc hlb hS
      go_simp
      refine ⟨trivial, (callsIn_wide.2 JC.out).mono ?_⟩
      rintro e wf ⟨pj, rfl, SJ, bj⟩
      have hlb := hg.out.2.2.size
      rw [hlo] at hlb
      have A1 := hg.out.1.later bj
      have S1 := hg.out.2.1.later bj
      have BB := hg.out.2.2.trans (bj.mono hlb)
      clear hlb
      have hS := HRS.out _ A1
      refine hK _ _ (fun _ => hS) ?_
      have lc := SJ.len (by simp)
      have LC := Lib.hid lc
      clear hK K JC bj hg lc SJ hS
      dsimp only [List.length_cons, List.length_nil] at LC
      have hg := Lib.hid (And.intro A1 (And.intro S1 BB))
      clear A1 S1 BB
      simp only [List.setIfInBounds_toArray, List.set_cons_succ, List.set_cons_zero]
      refine AnyS.next (i := 17) rfl (by kernel_rfl) (by kernel_rfl) fun K hK => ?_
      refine want_yes (by kernel_rfl) ?_
      go_simp
      refine ⟨trivial, (callsIn_wide.2 LC.out).mono ?_⟩
      rintro e wh ⟨rfl, bl⟩
      have hlb := hg.out.2.2.size
      rw [hlo] at hlb
      have A1 := hg.out.1.later bl
      have S1 := hg.out.2.1.later bl
      have BB := hg.out.2.2.trans (bl.mono hlb)
      clear hlb
      have hS := HRS.out _ A1
      refine hK _ _ (fun _ => hS) ?_
      clear hK K LC bl hg
      have hg := Lib.hid BB
      clear A1 S1 BB
      simp only [List.setIfInBounds_toArray, List.set_cons_succ, List.set_cons_zero]
      refine AnyS.get (i := 18) (some 90) ?_ rfl rfl (by kernel_rfl) (by kernel_rfl) (by kernel_rfl) (by kernel_rfl) (fun _ _ _ h => h) (Reads.yes (by kernel_rfl) ?_ (fun _ => rfl)) hS ?_
      rotate_left
      · intro w' hw'
        go_simp
        with_reducible rfl
      simp only [Act.put, List.setIfInBounds_toArray, List.set_cons_succ, List.set_cons_zero]
      refine AnyS.get (i := 19) (some 91) ?_ rfl rfl (by kernel_rfl) (by kernel_rfl) (by kernel_rfl) (by kernel_rfl) (fun _ _ _ h => h) (Reads.yes (by kernel_rfl) ?_ (fun _ => rfl)) hS ?_
      rotate_left
      · intro w' hw'
        go_simp
        with_reducible rfl
      simp only [Act.put, List.setIfInBounds_toArray, List.set_cons_succ, List.set_cons_zero]
      refine AnyS.get (i := 20) (some 0) ?_ rfl rfl (by kernel_rfl) (by kernel_rfl) (by kernel_rfl) (by kernel_rfl) (fun _ _ _ h => h) (Reads.yes (by kernel_rfl) ?_ (fun _ => rfl)) hS ?_
      rotate_left
      · intro w' hw'
        go_simp
        with_reducible rfl
      simp only [Act.put, List.setIfInBounds_toArray, List.set_cons_succ, List.set_cons_zero]
      refine AnyS.done (by kernel_rfl) ?_ _
      go_wp2_with fail
      go_ret
      exact ⟨rfl, hlo ▸ hg.out⟩
    · refine want_yes (by kernel_rfl) ?_
      go_simp
      have nb := (Below.refl we.heap.size we).alloc (Nat.le_refl _) (.cells (rowOf [dB]).toArray 33)
      have s2 := new_sl [dB] we (by simp)
      rw [show (rowOf [dB]).toArray = #[.string ⟨#[98]⟩, .int .i64 1, .string ⟨#[]⟩] from rfl] at nb s2
      have hlb := hg.out.2.2.size
      rw [hlo] at hlb
      have A1 := hg.out.1.later nb
      have S1 := hg.out.2.1.later nb
      have BB := hg.out.2.2.trans (nb.mono hlb)
      clear hlb
      refine hK _ _ (fun _ => HRS.out _ A1) ?_
      clear hK K nb hg
      generalize we.alloc _ = wb at *
      generalize we.heap.size = g at *
      have hg := Lib.hid (And.intro A1 (And.intro S1 BB))
      have hs2 := Lib.hid s2
      clear A1 S1 BB s2
      simp only [List.setIfInBounds_toArray, List.set_cons_succ, List.set_cons_zero]
      refine AnyS.next (i := 8) rfl (by kernel_rfl) (by kernel_rfl) fun K hK => ?_
      refine want_yes (by kernel_rfl) ?_
      go_simp
      refine ⟨trivial, (callsIn_wide.2 (RB.out _ hg.out.2.1)).mono ?_⟩
      rintro e wc ⟨ba, v, rfl, own⟩
      have hlb := hg.out.2.2.size
      rw [hlo] at hlb
      have A1 := hg.out.1.later ba
      have S1 := hg.out.2.1.later ba
      have BB := hg.out.2.2.trans (ba.mono hlb)
      clear hlb
      rw [rangeC_all] at own
      have sl := slAt_own own
      have s2 := hs2.out.later ba
      refine hK _ _ (fun _ => HRS.out _ A1) ?_
      clear hK K own hg ba hs2
      have hg := Lib.hid (And.intro A1 (And.intro S1 BB))
      have hsl := Lib.hid (And.intro sl s2)
      clear A1 S1 BB sl s2
      simp only [List.setIfInBounds_toArray, List.set_cons_succ, List.set_cons_zero]
      refine AnyS.next (i := 11) rfl (by kernel_rfl) (by kernel_rfl) fun K hK => ?_
      refine want_yes (by kernel_rfl) ?_
      have sc := sl_two _ _ _ _ hsl.out.1 _ hsl.out.2 rfl
      have SC := Lib.hid sc
      clear sc
      go_simp
      refine ⟨trivial, (callsIn_wide.2 SC.out).mono ?_⟩
      rintro e we ⟨rfl, bc⟩
      have hlb := hg.out.2.2.size
      rw [hlo] at hlb
      have A1 := hg.out.1.later bc
      have S1 := hg.out.2.1.later bc
      have BB := hg.out.2.2.trans (bc.mono hlb)
      clear hlb
      have hS := HRS.out _ A1
      refine hK _ _ (fun _ => hS) ?_
      clear hK K SC bc hg hsl
      have hg := Lib.hid (And.intro A1 (And.intro S1 BB))
      clear A1 S1 BB
      simp only [List.setIfInBounds_toArray, List.set_cons_succ, List.set_cons_zero]
      refine AnyS.get (i := 12) (some 84) ?_ rfl rfl (by kernel_rfl) (by kernel_rfl) (by kernel_rfl) (by kernel_rfl) (fun _ _ _ h => h) (Reads.yes (by kernel_rfl) ?_ (fun _ => rfl)) hS ?_
      rotate_left
      · intro w' hw'
        go_simp
        with_reducible rfl
      simp only [Act.put, List.setIfInBounds_toArray, List.set_cons_succ, List.set_cons_zero]
      refine AnyS.get (i := 13) (some 85) ?_ rfl rfl (by kernel_rfl) (by kernel_rfl) (by kernel_rfl) (by kernel_rfl) (fun _ _ _ h => h) (Reads.yes (by kernel_rfl) ?_ (fun _ => rfl)) hS ?_
      rotate_left
      · intro w' hw'
        go_simp
        with_reducible rfl
      simp only [Act.put, List.setIfInBounds_toArray, List.set_cons_succ, List.set_cons_zero]
      refine AnyS.get (i := 14) (some 86) ?_ rfl rfl (by kernel_rfl) (by kernel_rfl) (by kernel_rfl) (by kernel_rfl) (fun _ _ _ h => h) (Reads.yes (by kernel_rfl) ?_ (fun _ => rfl)) hS ?_
      rotate_left
      · intro w' hw'
        go_simp
        with_reducible rfl
      simp only [Act.put, List.setIfInBounds_toArray, List.set_cons_succ, List.set_cons_zero]
      refine AnyS.get (i := 15) (some 87) ?_ rfl rfl (by kernel_rfl) (by kernel_rfl) (by kernel_rfl) (by kernel_rfl) (fun _ _ _ h => h) (Reads.yes (by kernel_rfl) ?_ (fun _ => rfl)) hS ?_
      rotate_left
      · intro w' hw'
        go_simp
        with_reducible rfl
      simp only [Act.put, List.setIfInBounds_toArray, List.set_cons_succ, List.set_cons_zero]
      refine AnyS.next (i := 16) rfl (by kernel_rfl) (by kernel_rfl) fun K hK => ?_
      refine want_yes (by kernel_rfl) ?_
      have hlb := hg.out.2.2.size
      rw [hlo] at hlb
      have jc := hg.out.1.join hg.out.2.1 hlb (by simp) (by simpa using fB)
      rw [show putsC [dY, dX] [dB] = [dY, dX, dB] by decide] at jc
      have JC := Lib.hid jc
      clear jc hlb hS
      go_simp
      refine ⟨trivial, (callsIn_wide.2 JC.out).mono ?_⟩
      rintro e wf ⟨pj, rfl, SJ, bj⟩
      have hlb := hg.out.2.2.size
      rw [hlo] at hlb
      have A1 := hg.out.1.later bj
      have S1 := hg.out.2.1.later bj
      have BB := hg.out.2.2.trans (bj.mono hlb)
      clear hlb
      have hS := HRS.out _ A1
      refine hK _ _ (fun _ => hS) ?_
      have lc := SJ.len (by simp)
      have LC := Lib.hid lc
      clear hK K JC bj hg lc SJ hS
      dsimp only [List.length_cons, List.length_nil] at LC
      have hg := Lib.hid (And.intro A1 (And.intro S1 BB))
      clear A1 S1 BB
      simp only [List.setIfInBounds_toArray, List.set_cons_succ, List.set_cons_zero]
      refine AnyS.next (i := 17) rfl (by kernel_rfl) (by kernel_rfl) fun K hK => ?_
      refine want_yes (by kernel_rfl) ?_
      go_simp
      refine ⟨trivial, (callsIn_wide.2 LC.out).mono ?_⟩
      rintro e wh ⟨rfl, bl⟩
      have hlb := hg.out.2.2.size
      rw [hlo] at hlb
      have A1 := hg.out.1.later bl
      have S1 := hg.out.2.1.later bl
      have BB := hg.out.2.2.trans (bl.mono hlb)
      clear hlb
      have hS := HRS.out _ A1
      refine hK _ _ (fun _ => hS) ?_
      clear hK K LC bl hg
      have hg := Lib.hid BB
      clear A1 S1 BB
      simp only [List.setIfInBounds_toArray, List.set_cons_succ, List.set_cons_zero]
      refine AnyS.get (i := 18) (some 90) ?_ rfl rfl (by kernel_rfl) (by kernel_rfl) (by kernel_rfl) (by kernel_rfl) (fun _ _ _ h => h) (Reads.yes (by kernel_rfl) ?_ (fun _ => rfl)) hS ?_
      rotate_left
      · intro w' hw'
        go_simp
        with_reducible rfl
      simp only [Act.put, List.setIfInBounds_toArray, List.set_cons_succ, List.set_cons_zero]
      refine AnyS.get (i := 19) (some 91) ?_ rfl rfl (by kernel_rfl) (by kernel_rfl) (by kernel_rfl) (by kernel_rfl) (fun _ _ _ h => h) (Reads.yes (by kernel_rfl) ?_ (fun _ => rfl)) hS ?_
      rotate_left
      · intro w' hw'
        go_simp
        with_reducible rfl
      simp only [Act.put, List.setIfInBounds_toArray, List.set_cons_succ, List.set_cons_zero]
      refine AnyS.get (i := 20) (some 0) ?_ rfl rfl (by kernel_rfl) (by kernel_rfl) (by kernel_rfl) (by kernel_rfl) (fun _ _ _ h => h) (Reads.yes (by kernel_rfl) ?_ (fun _ => rfl)) hS ?_
      rotate_left
      · intro w' hw'
        go_simp
        with_reducible rfl
      simp only [Act.put, List.setIfInBounds_toArray, List.set_cons_succ, List.set_cons_zero]
      refine AnyS.done (by kernel_rfl) ?_ _
      go_wp2_with fail
      go_ret
      exact ⟨rfl, hlo ▸ hg.out⟩
end Go.Proofs.Ytpcapifjbhaeeaa
