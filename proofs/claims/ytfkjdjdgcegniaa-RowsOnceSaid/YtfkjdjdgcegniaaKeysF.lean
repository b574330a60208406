/- The walk of the reference's Parse at an index key. -/
import Derived.Test.YtfkjdjdgcegniaaKeysE
namespace Go.Proofs.Ytfkjdjdgcegniaa
set_option maxRecDepth 16000
open Go.RowKit Spoor

def RtAt (b : Nat) (p : KP) (w : World) : Prop := w.heap[b]? = some (.cells #[.int .u8 p.kind, .int .i64 p.tr, .int .i64 p.id, .int .i64 p.st, .string ⟨p.sv.toArray⟩, .string ⟨p.ho.toArray⟩] 68 (0, 0))
theorem RtAt.cell {b : Nat} {p : KP} {w : World} (h : RtAt b p w) : w.cell? ⟨b, 0, none⟩ = some (.int .u8 p.kind) ∧ w.cell? ⟨b, 1, none⟩ = some (.int .i64 p.tr) ∧ w.cell? ⟨b, 2, none⟩ = some (.int .i64 p.id) ∧
    w.cell? ⟨b, 3, none⟩ = some (.int .i64 p.st) ∧ w.cell? ⟨b, 4, none⟩ = some (.string ⟨p.sv.toArray⟩) ∧ w.cell? ⟨b, 5, none⟩ = some (.string ⟨p.ho.toArray⟩) := by
  refine ⟨?_, ?_, ?_, ?_, ?_, ?_⟩ <;> (rw [cell_of_row w b _ _ _ _ h]; rfl)
theorem RtAt.later {B b : Nat} {p : KP} {w w' : World} (h : RtAt b p w) (hb : Below B w w') (hlt : b < B) : RtAt b p w' := by
  unfold RtAt; rw [hb.block b hlt]; exact h
theorem RtAt.lt {b : Nat} {p : KP} {w : World} (h : RtAt b p w) : b < w.heap.size := (Array.getElem?_eq_some_iff.1 h).1
theorem RtAt.free {b : Nat} {p : KP} {w : World} (h : RtAt b p w) (j : Nat) : w.frozen? ⟨b, j, none⟩ = false := frozen_of_row w b j _ _ h
theorem RtAt.frees {b : Nat} {p : KP} {w : World} (h : RtAt b p w) : w.frozen? ⟨b, 0, none⟩ = false ∧ w.frozen? ⟨b, 1, none⟩ = false ∧ w.frozen? ⟨b, 2, none⟩ = false ∧ w.frozen? ⟨b, 3, none⟩ = false ∧ w.frozen? ⟨b, 4, none⟩ = false ∧ w.frozen? ⟨b, 5, none⟩ = false :=
  ⟨h.free 0, h.free 1, h.free 2, h.free 3, h.free 4, h.free 5⟩
def boxR (p : KP) : Obj := .cells #[.int .u8 p.kind, .int .i64 p.tr, .int .i64 p.id, .int .i64 p.st, .string ⟨p.sv.toArray⟩, .string ⟨p.ho.toArray⟩] 68
theorem RtAt.boxed (p : KP) (w : World) : RtAt w.heap.size p (w.alloc (boxR p)) := heap_alloc_new w _
theorem RtAt.alloc' {b : Nat} {p : KP} {w : World} (h : RtAt b p w) (o : Obj) : RtAt b p (w.alloc o) := (Below.heap_alloc w o b h.lt).trans h
theorem like_x (tr id st : Int) (sv ho : List UInt8) : (⟨120, tr, id, st, sv, ho⟩ : KP).like = ⟨tr, id, 0, sv, ho, st, 0, []⟩ := by
  unfold KP.like; rw [if_neg (by simp)]
set_option maxHeartbeats 1000000 in
theorem refParse_x3 (r : List UInt8) (hl : r.length ≤ 140737488351231) (g17 : ((r.length : Int) + 1 == 17) = false) (hz : nz r = false)
    (h2 : nz (cut0 r).2.1 = false) (h24 : (cut0 (cut0 r).2.1).2.1.length = 24) (w : World) :
    Calls Try.prog 38 #[.string ⟨(120 :: r).toArray⟩] w fun e w' => e = .returned (parseV (parseK (120 :: r))) ∧ Below w.heap.size w w' := by
  have hi := index0 120 r
  have c1 := fun W => zero_any ⟨(120 :: r).toArray⟩ 1 W (mk_max (by simp; omega)) (by simp only [ByteArray.size_mk', List.size_toArray, List.length_cons]; omega)
  rw [show (⟨(120 :: r).toArray⟩ : ByteArray).data.toList = 120 :: r from rfl, zero_1, if_neg (by simp [hz])] at c1
  have hlen := len_cut hz
  simp only [List.length_cons] at hlen
  have c2 := fun W => zero_any ⟨(120 :: r).toArray⟩ (1 + (cut0 r).1.length + 1) W (mk_max (by simp; omega)) (by simp only [ByteArray.size_mk', List.size_toArray, List.length_cons]; omega)
  rw [show (⟨(120 :: r).toArray⟩ : ByteArray).data.toList = 120 :: r from rfl] at c2
  unfold zeroAt at c2
  have hd1 := drop_1 hz
  have hsv : ((120 :: r).drop 1).take (1 + (cut0 r).1.length - 1) = (cut0 r).1 := by
    obtain ⟨_, h, _⟩ := cut0_len hz
    rw [show 1 + (cut0 r).1.length - 1 = (cut0 r).1.length from by omega]
    exact h.symm
  rw [hd1, if_neg (by simp [h2]), show (cut0 r).2.1.takeWhile (· != 0) = (cut0 (cut0 r).2.1).1 from rfl] at c2
  have his : (cut0 (cut0 r).2.1).2.2 = true := by simp [cut0] at h2 ⊢; exact h2
  have hp : parseK (120 :: r) = match big3 (cut0 (cut0 r).2.1).2.1 with
      | some (s, t, i) => if (⟨120, t, i, s, (cut0 r).1, (cut0 (cut0 r).2.1).1⟩ : KP).like.ok = true then some ⟨120, t, i, s, (cut0 r).1, (cut0 (cut0 r).2.1).1⟩ else none
      | none => none := by
    rw [parseK, if_neg (by decide), if_pos rfl, if_pos his]
    rfl
  rw [hp]
  obtain ⟨m1, hho, hr2⟩ := cut0_len h2
  obtain ⟨m2, m3⟩ := cut0_le r
  generalize (cut0 r).1 = sv at *
  generalize (cut0 r).2.1 = r1 at *
  generalize (cut0 r1).1 = ho at *
  generalize (cut0 r1).2.1 = r2 at *
  obtain ⟨i, hi2⟩ : ∃ i : Nat, 1 + sv.length = i := ⟨_, rfl⟩
  obtain ⟨k, hk⟩ : ∃ k : Nat, i + 1 + ho.length = k := ⟨_, rfl⟩
  rw [hi2] at c1 c2 hlen hd1 hsv
  rw [hk] at c2
  rw [show ((i + 1 : Nat) : Int) = (i : Int) + 1 from by omega] at c2
  have hk2 : r.length + 1 = k + 25 := by omega
  have hdk : (120 :: r).drop (k + 1) = r2 := by
    rw [hr2, ← hd1, List.drop_drop, ← hk]
    congr 1
  have hdk9 : (120 :: r).drop (k + 9) = r2.drop 8 := by rw [← hdk, List.drop_drop]
  have hdk17 : (120 :: r).drop (k + 17) = r2.drop 16 := by rw [← hdk, List.drop_drop]
  have hsh : ((120 :: r).drop (i + 1)).take (k - (i + 1)) = ho := by
    rw [hd1, show k - (i + 1) = ho.length from by omega]
    exact hho.symm
  obtain ⟨a, A, ha, ha1, ha0⟩ := ofBigV_some (ofBig r2)
  obtain ⟨b, B, hb, hb1, hb0⟩ := ofBigV_some (ofBig (r2.drop 8))
  obtain ⟨c, C, hc, hc1, hc0⟩ := ofBigV_some (ofBig (r2.drop 16))
  have c3 := fun W => refOfBig_list (120 :: r) (k + 1) (by simp; omega) W
  have c4 := fun W => refOfBig_list (120 :: r) (k + 9) (by simp; omega) W
  have c5 := fun W => refOfBig_list (120 :: r) (k + 17) (by simp; omega) W
  rw [hdk, ha, show ((k + 1 : Nat) : Int) = (k : Int) + 1 from by omega] at c3
  rw [hdk9, hb, show ((k + 9 : Nat) : Int) = (k : Int) + 9 from by omega] at c4
  rw [hdk17, hc, show ((k + 17 : Nat) : Int) = (k : Int) + 17 from by omega] at c5
  have c6 := fun W => may_any ⟨b, c, 0, sv, ho, a, 0, []⟩ W ⟨by dsimp only; omega, by dsimp only; omega, by simp⟩
  have hp2 : (match big3 r2 with
      | some (s, t, i) => if (⟨120, t, i, s, sv, ho⟩ : KP).like.ok = true then some (⟨120, t, i, s, sv, ho⟩ : KP) else none
      | none => none) = if (A && B && C && (⟨b, c, 0, sv, ho, a, 0, []⟩ : Sp).ok) = true then some (⟨120, b, c, a, sv, ho⟩ : KP) else none := by
    unfold big3
    rw [if_pos h24]
    cases A with
    | false => rw [ha0 rfl]; rfl
    | true =>
      rw [ha1 rfl]
      cases B with
      | false => rw [hb0 rfl]; rfl
      | true =>
        rw [hb1 rfl]
        cases C with
        | false => rw [hc0 rfl]; rfl
        | true => rw [hc1 rfl]; simp only [like_x]; rfl
  rw [hp2]
  have s1 := slice_at ⟨(120 :: r).toArray⟩ 1 i 1 (i : Int) rfl rfl (by omega) (by simp only [ByteArray.size_mk', List.size_toArray, List.length_cons]; omega)
  have s2 := slice_at ⟨(120 :: r).toArray⟩ (i + 1) k ((i : Int) + 1) (k : Int) (by omega) rfl (by omega) (by simp only [ByteArray.size_mk', List.size_toArray, List.length_cons]; omega)
  rw [show (⟨(120 :: r).toArray⟩ : ByteArray).data.toList = 120 :: r from rfl] at s1 s2
  rw [hsv] at s1
  rw [hsh] at s2
  generalize (⟨b, c, 0, sv, ho, a, 0, []⟩ : Sp).ok = M at *
  have hn2 : (((r.length : Int) + 1) == ((k : Int) + 25)) = true := by rw [beq_iff_eq]; omega
  have hn3 : (((r.length : Int) + 1) != ((k : Int) + 25)) = false := by rw [bne, hn2]; rfl
  have w1 : IntKind.i64.wrap ((i : Int) + 1) = (i : Int) + 1 := IntWalk.i64_in _ (by omega)
  have hk3 : k ≤ r.length := by omega
  have hb3 : i ≤ r.length := by omega
  unfold spVal at c6
  dsimp only at c6
  have C1 := Lib.hid c1
  have C2 := Lib.hid c2
  have C3 := Lib.hid c3
  have C4 := Lib.hid c4
  have C5 := Lib.hid c5
  have C6 := Lib.hid c6
  clear c1 c2 c3 c4 c5 c6 hp hp2 ha ha1 ha0 hb hb1 hb0 hc hc1 hc0 hdk hdk9 hdk17 hsh hsv hho hr2 hd1 hlen hi2 hk hk2 h24 his hz h2 m1 m2 m3
  go_enter Try.func38, Try.ntmps38
  go_wp2_with fail
  refine (C1.out _).mono ?_
  rintro e w1 ⟨rfl, rfl⟩
  go_wp2_with fail
  refine (C2.out _).mono ?_
  rintro e w1 ⟨rfl, rfl⟩
  go_wp2_with fail
  refine (C3.out _).mono ?_
  rintro e w1 ⟨rfl, rfl⟩
  go_wp2_with fail
  refine (C4.out _).mono ?_
  rintro e w1 ⟨rfl, rfl⟩
  go_wp2_with fail
  refine (C5.out _).mono ?_
  rintro e w1 ⟨rfl, rfl⟩
  go_upto_region 18 with fail
  go_region_with fail
  have x1 : RtAt w.heap.size KP.zero (((w.alloc (boxR KP.zero)).alloc (boxS ⟨b, c, 0, sv, ho, a, 0, []⟩)).drew) := (RtAt.boxed KP.zero w).alloc' _
  have x2 : SpAt (w.heap.size + 1) ⟨b, c, 0, sv, ho, a, 0, []⟩ (((w.alloc (boxR KP.zero)).alloc (boxS ⟨b, c, 0, sv, ho, a, 0, []⟩)).drew) := by
    have := SpAt.boxed ⟨b, c, 0, sv, ho, a, 0, []⟩ (w.alloc (boxR KP.zero))
    rw [alloc_size] at this
    exact this
  have x3 : Below w.heap.size w (((w.alloc (boxR KP.zero)).alloc (boxS ⟨b, c, 0, sv, ho, a, 0, []⟩)).drew) := (below_new2' _ _).drew
  unfold boxR boxS KP.zero at x1 x2 x3
  try dsimp only at x1 x2 x3
  generalize World.drew _ = w2 at *
  obtain ⟨d0, d1, d2, d3, d4, d5, d6, d7⟩ := x2.cell
  try dsimp only at d0 d1 d2 d3 d4 d5 d6 d7
  obtain ⟨e0, e1, e2, e3, e4, e5⟩ := x1.cell
  try dsimp only at e0 e1 e2 e3 e4 e5
  obtain ⟨f0, f1, f2, f3, f4, f5⟩ := x1.frees
  have l1 := x1.lt
  have l2 := x2.lt
  cases A with
  | false =>
    go_wp2_with fail
    refine bodyPost_ret (v := parseV none) ?_ rfl ⟨rfl, below_set6 x3 (Nat.le_refl _) _ _ _ _ _ _⟩
    simp [results, parseV, kpVal, KP.zero, Try.results38, go_sem, *]
  | true =>
    cases B with
    | false =>
      go_wp2_with fail
      refine bodyPost_ret (v := parseV none) ?_ rfl ⟨rfl, below_set6 x3 (Nat.le_refl _) _ _ _ _ _ _⟩
      simp [results, parseV, kpVal, KP.zero, Try.results38, go_sem, *]
    | true =>
      cases C with
      | false =>
        go_wp2_with fail
        refine bodyPost_ret (v := parseV none) ?_ rfl ⟨rfl, below_set6 x3 (Nat.le_refl _) _ _ _ _ _ _⟩
        simp [results, parseV, kpVal, KP.zero, Try.results38, go_sem, *]
      | true =>
        cases M with
        | false =>
          go_wp2_with fail
          refine (C6.out _).mono ?_
          rintro e w3 ⟨rfl, b3⟩
          have y1 := x1.later b3 l1
          have y3 := bt x3 b3
          clear d0 d1 d2 d3 d4 d5 d6 d7 e0 e1 e2 e3 e4 e5 f0 f1 f2 f3 f4 f5 x1 x2 x3
          obtain ⟨e0, e1, e2, e3, e4, e5⟩ := y1.cell
          try dsimp only at e0 e1 e2 e3 e4 e5
          obtain ⟨f0, f1, f2, f3, f4, f5⟩ := y1.frees
          go_wp2_with fail
          refine bodyPost_ret (v := parseV none) ?_ rfl ⟨rfl, below_set6 y3 (Nat.le_refl _) _ _ _ _ _ _⟩
          simp [results, parseV, kpVal, KP.zero, Try.results38, go_sem, *]
        | true =>
          go_wp2_with fail
          refine (C6.out _).mono ?_
          rintro e w3 ⟨rfl, b3⟩
          have y1 := x1.later b3 l1
          have y2 := x2.later b3 l2
          have y3 := bt x3 b3
          clear d0 d1 d2 d3 d4 d5 d6 d7 e0 e1 e2 e3 e4 e5 f0 f1 f2 f3 f4 f5 x1 x2 x3
          obtain ⟨e0, e1, e2, e3, e4, e5⟩ := y1.cell
          try dsimp only at e0 e1 e2 e3 e4 e5
          obtain ⟨f0, f1, f2, f3, f4, f5⟩ := y1.frees
          obtain ⟨d0, d1, d2, d3, d4, d5, d6, d7⟩ := y2.cell
          try dsimp only at d0 d1 d2 d3 d4 d5 d6 d7
          go_wp2_with fail
          refine bodyPost_ret (v := parseV (some ⟨120, b, c, a, sv, ho⟩)) ?_ rfl ⟨rfl, below_set6 y3 (Nat.le_refl _) _ _ _ _ _ _⟩
          simp [results, parseV, kpVal, Try.results38, go_sem, *]

theorem refParse_any (l : List UInt8) (hl : l.length ≤ 140737488351232) (w : World) :
    Calls Try.prog 38 #[.string ⟨l.toArray⟩] w fun e w' => e = .returned (parseV (parseK l)) ∧ Below w.heap.size w w' := by
  by_cases h1 : l.length = 17 ∧ l.head? = some 115
  · obtain ⟨r, rfl⟩ := head_cons h1.2
    exact refParse_s r (by simpa using h1.1) w
  · by_cases h2 : l.head? = some 120
    · obtain ⟨r, rfl⟩ := head_cons h2
      simp only [List.length_cons] at hl
      have g17 : ((r.length : Int) + 1 == 17) = false ∨ ((r.length : Int) + 1 == 17) = true := by cases ((r.length : Int) + 1 == 17) <;> simp
      cases hz : nz r with
      | true =>
        have e : parseK (120 :: r) = none := parse_not r (by rw [cut0_false (l := r) (by simp [cut0, hz])]; rfl)
        rw [e]
        exact refParse_x1 r (by omega) g17 hz w
      | false =>
        cases h2' : nz (cut0 r).2.1 with
        | true =>
          have e : parseK (120 :: r) = none := parse_not r (by rw [cut0_false (l := (cut0 r).2.1) (by simp only [cut0, Bool.not_eq_false']; exact h2')])
          rw [e]
          exact refParse_x2 r (by omega) g17 hz (.inl h2') w
        | false =>
          by_cases h24 : (cut0 (cut0 r).2.1).2.1.length = 24
          · have hr : ((r.length : Int) + 1 == 17) = false := by
              obtain ⟨m1, _, _⟩ := cut0_len hz
              obtain ⟨m2, _, _⟩ := cut0_len h2'
              rw [beq_eq_false_iff_ne]
              omega
            exact refParse_x3 r (by omega) hr hz h2' h24 w
          · have e : parseK (120 :: r) = none := by
              rw [parseK, if_neg (by decide), if_pos rfl]
              have : big3 (cut0 (cut0 r).2.1).2.1 = none := by unfold big3; rw [if_neg h24]
              rw [this]
              simp
            rw [e]
            exact refParse_x2 r (by omega) g17 hz (.inr ⟨h2', h24⟩) w
    · have e : parseK l = none := by
        by_cases h3 : l.head? = some 115
        · obtain ⟨r, rfl⟩ := head_cons h3
          rw [parseK, if_pos rfl]
          have : big2 r = none := by
            unfold big2
            rw [if_neg]
            intro h
            exact h1 ⟨by simp [h], rfl⟩
          rw [this]
        · exact parse_other h3 h2
      rw [e]
      exact refParse_short l hl h1 h2 w

end Go.Proofs.Ytfkjdjdgcegniaa
