/- The walk of one cell's reading. -/
import Derived.Test.YtanaoepakllohaaBlocksE
import Derived.Deep.DeepCutAuto
set_option linter.unusedSimpArgs false
set_option linter.unusedVariables false
namespace Go.Proofs.Ytanaoepakllohaa
set_option maxRecDepth 16000
open Go.RowKit Spoor

theorem getAt_nat (l : List UInt8) (n : Nat) : getAt l (n : Int) = getV n (get (l.drop n)) := by
  unfold getAt
  rw [if_neg (by omega), Int.toNat_natCast]
theorem getTextAt_nat (l : List UInt8) (n : Nat) : getTextAt l (n : Int) = getTextV n (getText (l.drop n)) := by
  unfold getTextAt
  rw [if_neg (by omega), Int.toNat_natCast]
theorem getN_any (s : List UInt8) (n : Nat) (W : World) (hs : s.length ≤ 140737488351232) :
    Calls Try.prog 70 #[.string ⟨s.toArray⟩, .int .i64 n] W fun e w' => e = .returned (getV n (get (s.drop n))) ∧ W = w' := by
  have := get_any ⟨s.toArray⟩ (n : Int) W (by rw [size_of]; unfold maxLen; omega)
  simp only [getAt_nat] at this
  exact this
theorem getTextN_any (s : List UInt8) (n : Nat) (W : World) (hs : s.length ≤ 140737488351232) :
    Calls Try.prog 71 #[.string ⟨s.toArray⟩, .int .i64 n] W fun e w' => e = .returned (getTextV n (getText (s.drop n))) ∧ W = w' := by
  have := getText_any ⟨s.toArray⟩ (n : Int) W (by rw [size_of]; unfold maxLen; omega)
  simp only [getTextAt_nat] at this
  exact this
/-- what is left of a cell that none stands for -/
def junkC (s : List UInt8) (at' : Nat) (last : List UInt8) : Ce :=
  match get (s.drop at') with
  | none => Ce.zero
  | some (n, k1) => if last.length < n then Ce.zero else
    match getText (s.drop (at' + k1)) with
    | none => Ce.zero
    | some (rest, k2) => if n < last.length ∧ rest ≠ [] ∧ rest.getD 0 0 = last.getD n 0 then Ce.zero else
      match get (s.drop (at' + k1 + k2)) with
      | none => Ce.zero
      | some (q, _) => ⟨last.take n ++ rest, (q : Int), []⟩
def cellV (s : List UInt8) (at' : Nat) (last : List UInt8) : Value :=
  match cellAt true s at' last with
  | none => .tuple #[ceVal (junkC s at' last), .int .i64 0, .bool false]
  | some (c, nx) => .tuple #[ceVal c, .int .i64 (nx : Nat), .bool true]
theorem strTo (l : List UInt8) (j : Nat) (J : Int) (hJ : J = j) (h2 : j ≤ l.length) (W : World) :
    (Instr.slice 9 (.string ⟨l.toArray⟩) none (some (.int .i64 J)) none).run Try.prog W = .ok (.string ⟨(l.take j).toArray⟩) W := by
  subst hJ
  go_simp
  rw [extract_bytes]
  simp
theorem CeAt.set0 {g : Nat} {c : Ce} {w : World} (h : CeAt g c w) (k : List UInt8) : CeAt g ⟨k, c.q, c.v⟩ (w.setCell ⟨g, 0, none⟩ (.string ⟨k.toArray⟩)) := by
  unfold CeAt at *
  rw [heap_setCell_same w g 0 _ _ _ h]
  rfl
theorem CeAt.set1 {g : Nat} {c : Ce} {w : World} (h : CeAt g c w) (q : Int) : CeAt g ⟨c.k, q, c.v⟩ (w.setCell ⟨g, 1, none⟩ (.int .i64 q)) := by
  unfold CeAt at *
  rw [heap_setCell_same w g 1 _ _ _ h]
  rfl
theorem CeAt.set2 {g : Nat} {c : Ce} {w : World} (h : CeAt g c w) (v : List UInt8) : CeAt g ⟨c.k, c.q, v⟩ (w.setCell ⟨g, 2, none⟩ (.string ⟨v.toArray⟩)) := by
  unfold CeAt at *
  rw [heap_setCell_same w g 2 _ _ _ h]
  rfl
theorem below_set {B g : Nat} {a w : World} (h : Below B a w) (hB : B ≤ g) (i : Nat) (v : Value) : Below B a (w.setCell ⟨g, i, none⟩ v) := h.setCell (p := ⟨g, i, none⟩) hB v
theorem CeAt.all {g : Nat} {c : Ce} {w a : World} {B : Nat} (h : CeAt g c w) (hb : Below B a w) (hB : B ≤ g) (d : Ce) :
    CeAt g d (((w.setCell ⟨g, 0, none⟩ (.string ⟨d.k.toArray⟩)).setCell ⟨g, 1, none⟩ (.int .i64 d.q)).setCell ⟨g, 2, none⟩ (.string ⟨d.v.toArray⟩)) ∧
    Below B a (((w.setCell ⟨g, 0, none⟩ (.string ⟨d.k.toArray⟩)).setCell ⟨g, 1, none⟩ (.int .i64 d.q)).setCell ⟨g, 2, none⟩ (.string ⟨d.v.toArray⟩)) :=
  ⟨((h.set0 d.k).set1 d.q).set2 d.v, below_set (below_set (below_set hb hB 0 _) hB 1 _) hB 2 _⟩
theorem CeAt.two {g : Nat} {c : Ce} {w a : World} {B : Nat} (h : CeAt g c w) (hb : Below B a w) (hB : B ≤ g) (k : List UInt8) (q : Int) :
    CeAt g ⟨k, q, c.v⟩ ((w.setCell ⟨g, 0, none⟩ (.string ⟨k.toArray⟩)).setCell ⟨g, 1, none⟩ (.int .i64 q)) ∧
    Below B a ((w.setCell ⟨g, 0, none⟩ (.string ⟨k.toArray⟩)).setCell ⟨g, 1, none⟩ (.int .i64 q)) :=
  ⟨(h.set0 k).set1 q, below_set (below_set hb hB 0 _) hB 1 _⟩
set_option maxRecDepth 100000 in
set_option maxHeartbeats 16000000 in
theorem cell_any (s : List UInt8) (at' : Nat) (last : List UInt8) (w : World) (hs : s.length ≤ 140737488351232) (hl : last.length ≤ 140737488351232) :
    Calls Try.prog 83 #[.string ⟨s.toArray⟩, .int .i64 at', .string ⟨last.toArray⟩] w fun e w' => e = .returned (cellV s at' last) ∧ Below w.heap.size w w' := by
  have q1 := CeAt.boxed Ce.zero w
  have b0 := (Below.refl w.heap.size w).alloc (Nat.le_refl _) (boxC Ce.zero)
  unfold boxC Ce.zero at *
  try dsimp only at q1 b0
  have cg := fun W => getN_any s at' W hs
  have CG := Lib.hid cg
  clear cg
  have hgs : w.heap.size ≤ w.heap.size := Nat.le_refl _
  unfold cellV cellAt junkC
  cases e1 : get (s.drop at') with
  | none =>
    simp only
    rw [e1] at CG
    unfold getV at CG
    clear e1
    unfold ceVal Ce.zero
    try dsimp only
    go_enter Try.func83, Try.ntmps83
    go_wp2_with fail
    generalize w.alloc _ = w1 at *
    obtain ⟨y0, y1, y2⟩ := q1.cell
    obtain ⟨z0, z1, z2⟩ := q1.frees
    try dsimp only at y0 y1 y2
    go_wp2_with fail
    refine (CG.out _).mono ?_
    rintro e w2 ⟨rfl, rfl⟩
    go_wp2_with fail
    obtain ⟨q2, b2⟩ := q1.all b0 hgs Ce.zero
    unfold Ce.zero at q2 b2
    generalize ((World.setCell _ _ _).setCell _ _).setCell _ _ = w9 at *
    clear y0 y1 y2 z0 z1 z2
    obtain ⟨y0, y1, y2⟩ := q2.cell
    exact bodyPost_ret (v := .tuple #[.agg #[.string ⟨#[]⟩, .int .i64 0, .string ⟨#[]⟩], .int .i64 0, .bool false]) (by simp [results, Try.results83, go_sem, *]) rfl ⟨rfl, b2⟩
  | some r1 =>
    obtain ⟨n, k1⟩ := r1
    obtain ⟨_, _, gk, gn, _⟩ := get_some e1
    rw [List.length_drop] at gk
    rw [e1] at CG
    unfold getV at CG
    simp only
    clear e1
    have ct := fun W => getTextN_any s (at' + k1) W hs
    have CT := Lib.hid ct
    clear ct
    by_cases hn : last.length < n
    · rw [if_pos hn, if_pos hn]
      have hn1 : (last.length : Int) < (n : Int) := by omega
      unfold ceVal Ce.zero
      try dsimp only
      go_enter Try.func83, Try.ntmps83
      go_wp2_with fail
      generalize w.alloc _ = w1 at *
      obtain ⟨y0, y1, y2⟩ := q1.cell
      obtain ⟨z0, z1, z2⟩ := q1.frees
      try dsimp only at y0 y1 y2
      go_wp2_with fail
      refine (CG.out _).mono ?_
      rintro e w2 ⟨rfl, rfl⟩
      go_wp2_with fail
      obtain ⟨q2, b2⟩ := q1.all b0 hgs Ce.zero
      unfold Ce.zero at q2 b2
      generalize ((World.setCell _ _ _).setCell _ _).setCell _ _ = w9 at *
      clear y0 y1 y2 z0 z1 z2
      obtain ⟨y0, y1, y2⟩ := q2.cell
      exact bodyPost_ret (v := .tuple #[.agg #[.string ⟨#[]⟩, .int .i64 0, .string ⟨#[]⟩], .int .i64 0, .bool false]) (by simp [results, Try.results83, go_sem, *]) rfl ⟨rfl, b2⟩
    · rw [if_neg hn, if_neg hn]
      have hn1 : decide ((last.length : Int) < (n : Int)) = false := decide_eq_false (by omega)
      have hn2 : decide (last.length < n) = false := decide_eq_false (by omega)
      cases e2 : getText (s.drop (at' + k1)) with
      | none =>
        simp only
        rw [e2] at CT
        unfold getTextV at CT
        clear e2
        unfold ceVal Ce.zero
        try dsimp only
        go_enter Try.func83, Try.ntmps83
        go_wp2_with fail
        generalize w.alloc _ = w1 at *
        obtain ⟨y0, y1, y2⟩ := q1.cell
        obtain ⟨z0, z1, z2⟩ := q1.frees
        try dsimp only at y0 y1 y2
        go_wp2_with fail
        refine (CG.out _).mono ?_
        rintro e w2 ⟨rfl, rfl⟩
        go_wp2_with fail
        refine (CT.out _).mono ?_
        rintro e w3 ⟨rfl, rfl⟩
        go_wp2_with fail
        go_quiet (fail)
        obtain ⟨w4, hw4⟩ : ∃ w4, w1.drewN nq = w4 := ⟨_, rfl⟩
        have bx : Below w1.heap.size w1 w4 := hw4 ▸ below_drewN (Below.refl _ _) nq
        rw [hw4]
        clear hw4
        have q1 := q1.later bx q1.lt
        have b0 := btB b0 bx
        clear bx y0 y1 y2 z0 z1 z2
        obtain ⟨y0, y1, y2⟩ := q1.cell
        obtain ⟨z0, z1, z2⟩ := q1.frees
        try dsimp only at y0 y1 y2
        go_wp2_with fail
        obtain ⟨q2, b2⟩ := q1.all b0 hgs Ce.zero
        unfold Ce.zero at q2 b2
        generalize ((World.setCell _ _ _).setCell _ _).setCell _ _ = w9 at *
        clear y0 y1 y2 z0 z1 z2
        obtain ⟨y0, y1, y2⟩ := q2.cell
        exact bodyPost_ret (v := .tuple #[.agg #[.string ⟨#[]⟩, .int .i64 0, .string ⟨#[]⟩], .int .i64 0, .bool false]) (by simp [results, Try.results83, go_sem, *]) rfl ⟨rfl, b2⟩
      | some r2 =>
        obtain ⟨rest, k2⟩ := r2
        obtain ⟨gk2, gl2, _⟩ := getText_some e2
        rw [List.length_drop] at gk2
        rw [e2] at CT
        unfold getTextV at CT
        simp only
        clear e2
        have cg2 := fun W => getN_any s (at' + k1 + k2) W hs
        have CG2 := Lib.hid cg2
        clear cg2
        by_cases hc : n < last.length ∧ rest ≠ [] ∧ rest.getD 0 0 = last.getD n 0
        · simp only [eq_self_iff_true, true_and, if_pos hc]
          obtain ⟨h1, h2, h3⟩ := hc
          have hrl : 0 < rest.length := by cases rest with
            | nil => exact absurd rfl h2
            | cons a b => simp
          have i1 := fun W => at_of rest 0 hrl W
          have i2 := fun W => at_of last n h1 W
          rw [h3] at i1
          simp only [Int.natCast_zero] at i1
          have h4 : rest.isEmpty = false := by cases rest with
            | nil => exact absurd rfl h2
            | cons a b => rfl
          have h5 : (rest == []) = false := by cases rest with
            | nil => exact absurd rfl h2
            | cons a b => rfl
          clear h2 h3
          generalize ((last.getD n 0).toNat : Int) = y at *
          unfold ceVal Ce.zero
          try dsimp only
          go_enter Try.func83, Try.ntmps83
          go_wp2_with fail
          generalize w.alloc _ = w1 at *
          obtain ⟨y0, y1, y2⟩ := q1.cell
          obtain ⟨z0, z1, z2⟩ := q1.frees
          try dsimp only at y0 y1 y2
          go_wp2_with fail
          refine (CG.out _).mono ?_
          rintro e w2 ⟨rfl, rfl⟩
          go_wp2_with fail
          refine (CT.out _).mono ?_
          rintro e w3 ⟨rfl, rfl⟩
          go_wp2_with fail
          go_quiet (fail)
          obtain ⟨w4, hw4⟩ : ∃ w4, w1.drewN nq = w4 := ⟨_, rfl⟩
          have bx : Below w1.heap.size w1 w4 := hw4 ▸ below_drewN (Below.refl _ _) nq
          rw [hw4]
          clear hw4
          have q1 := q1.later bx q1.lt
          have b0 := btB b0 bx
          clear bx y0 y1 y2 z0 z1 z2
          obtain ⟨y0, y1, y2⟩ := q1.cell
          obtain ⟨z0, z1, z2⟩ := q1.frees
          try dsimp only at y0 y1 y2
          go_wp2_with fail
          obtain ⟨q2, b2⟩ := q1.all b0 hgs Ce.zero
          unfold Ce.zero at q2 b2
          generalize ((World.setCell _ _ _).setCell _ _).setCell _ _ = w9 at *
          clear y0 y1 y2 z0 z1 z2
          obtain ⟨y0, y1, y2⟩ := q2.cell
          exact bodyPost_ret (v := .tuple #[.agg #[.string ⟨#[]⟩, .int .i64 0, .string ⟨#[]⟩], .int .i64 0, .bool false]) (by simp [results, Try.results83, go_sem, *]) rfl ⟨rfl, b2⟩
        · simp only [eq_self_iff_true, true_and, if_neg hc]
          have HC := Lib.hid hc
          clear hc
          cases e3 : get (s.drop (at' + k1 + k2)) with
          | none =>
            simp only
            rw [e3] at CG2
            unfold getV at CG2
            clear e3
            unfold ceVal Ce.zero
            try dsimp only
            go_enter Try.func83, Try.ntmps83
            go_wp2_with fail
            generalize w.alloc _ = w1 at *
            obtain ⟨y0, y1, y2⟩ := q1.cell
            obtain ⟨z0, z1, z2⟩ := q1.frees
            try dsimp only at y0 y1 y2
            go_wp2_with fail
            refine (CG.out _).mono ?_
            rintro e w2 ⟨rfl, rfl⟩
            go_wp2_with fail
            refine (CT.out _).mono ?_
            rintro e w3 ⟨rfl, rfl⟩
            go_upto_region 5 with fail
            go_cut [53] (fun v wx => v = .bool false ∧ Below w1.heap.size w1 wx)
            case first =>
              by_cases h1 : (n : Int) < (last.length : Int)
              · cases rest with
                | nil =>
                  clear HC
                  go_quiet (fail)
                  go_wp2_with fail
                  go_meet
                  exact ⟨rfl, below_drewN (Below.refl _ _) _⟩
                | cons r0 rs =>
                  have hne : r0 ≠ last.getD n 0 := fun e => HC.out ⟨by omega, by simp, by simpa using e⟩
                  have hneb : ((r0.toNat : Int) == ((last.getD n 0).toNat : Int)) = false := by
                    rw [beq_eq_false_iff_ne]; intro e; exact hne (UInt8.toNat_inj.1 (Int.ofNat.inj e))
                  have i1 := fun W => at_of (r0 :: rs) 0 (by simp) W
                  simp only [List.getD_cons_zero, Int.natCast_zero] at i1
                  have i2 := fun W => at_of last n (by omega) W
                  clear HC hne
                  generalize ((last.getD n 0).toNat : Int) = y at *
                  generalize (r0.toNat : Int) = x at *
                  go_quiet (fail)
                  go_wp2_with fail
                  go_meet
                  exact ⟨rfl, below_drewN (Below.refl _ _) _⟩
              · have e2 := decide_eq_false h1
                have e3 : decide (n < last.length) = false := decide_eq_false (by omega)
                clear HC
                go_quiet (fail)
                go_wp2_with fail
                go_meet
                exact ⟨rfl, below_drewN (Below.refl _ _) _⟩
            case rest =>
              obtain ⟨rfl, bx⟩ := hcut
              have q1 := q1.later bx q1.lt
              have b0 := btB b0 bx
              clear bx y0 y1 y2 z0 z1 z2
              obtain ⟨y0, y1, y2⟩ := q1.cell
              obtain ⟨z0, z1, z2⟩ := q1.frees
              try dsimp only at y0 y1 y2
              have sl := fun W => strTo last n (n : Int) rfl (by omega) W
              go_wp2_with fail
              refine (CG2.out _).mono ?_
              rintro e w5 ⟨rfl, rfl⟩
              go_wp2_with fail
              rw [strAdd]
              obtain ⟨q3, b3⟩ := q1.two b0 hgs (last.take n ++ rest) 0
              generalize (World.setCell wc ⟨w.heap.size, 0, none⟩ _).setCell ⟨w.heap.size, 1, none⟩ _ = w6 at *
              clear q1 b0 y0 y1 y2 z0 z1 z2
              have q1 := q3
              have b0 := b3
              obtain ⟨y0, y1, y2⟩ := q1.cell
              obtain ⟨z0, z1, z2⟩ := q1.frees
              obtain ⟨q2, b2⟩ := q1.all b0 hgs Ce.zero
              unfold Ce.zero at q2 b2
              generalize ((World.setCell _ _ _).setCell _ _).setCell _ _ = w9 at *
              clear y0 y1 y2 z0 z1 z2
              obtain ⟨y0, y1, y2⟩ := q2.cell
              exact bodyPost_ret (v := .tuple #[.agg #[.string ⟨#[]⟩, .int .i64 0, .string ⟨#[]⟩], .int .i64 0, .bool false]) (by simp [results, Try.results83, go_sem, *]) rfl ⟨rfl, b2⟩
          | some r3 =>
            obtain ⟨q, k3⟩ := r3
            obtain ⟨_, _, gk3, gn3, _⟩ := get_some e3
            rw [List.length_drop] at gk3
            rw [e3] at CG2
            unfold getV at CG2
            simp only
            clear e3
            have ct2 := fun W => getTextN_any s (at' + k1 + k2 + k3) W hs
            have CT2 := Lib.hid ct2
            clear ct2
            cases e4 : getText (s.drop (at' + k1 + k2 + k3)) with
            | none =>
              simp only
              rw [e4] at CT2
              unfold getTextV at CT2
              clear e4
              unfold ceVal
              try dsimp only
              go_enter Try.func83, Try.ntmps83
              go_wp2_with fail
              generalize w.alloc _ = w1 at *
              obtain ⟨y0, y1, y2⟩ := q1.cell
              obtain ⟨z0, z1, z2⟩ := q1.frees
              try dsimp only at y0 y1 y2
              go_wp2_with fail
              refine (CG.out _).mono ?_
              rintro e w2 ⟨rfl, rfl⟩
              go_wp2_with fail
              refine (CT.out _).mono ?_
              rintro e w3 ⟨rfl, rfl⟩
              go_upto_region 5 with fail
              go_cut [53] (fun v wx => v = .bool false ∧ Below w1.heap.size w1 wx)
              case first =>
                by_cases h1 : (n : Int) < (last.length : Int)
                · cases rest with
                  | nil =>
                    clear HC
                    go_quiet (fail)
                    go_wp2_with fail
                    go_meet
                    exact ⟨rfl, below_drewN (Below.refl _ _) _⟩
                  | cons r0 rs =>
                    have hne : r0 ≠ last.getD n 0 := fun e => HC.out ⟨by omega, by simp, by simpa using e⟩
                    have hneb : ((r0.toNat : Int) == ((last.getD n 0).toNat : Int)) = false := by
                      rw [beq_eq_false_iff_ne]; intro e; exact hne (UInt8.toNat_inj.1 (Int.ofNat.inj e))
                    have i1 := fun W => at_of (r0 :: rs) 0 (by simp) W
                    simp only [List.getD_cons_zero, Int.natCast_zero] at i1
                    have i2 := fun W => at_of last n (by omega) W
                    clear HC hne
                    generalize ((last.getD n 0).toNat : Int) = y at *
                    generalize (r0.toNat : Int) = x at *
                    go_quiet (fail)
                    go_wp2_with fail
                    go_meet
                    exact ⟨rfl, below_drewN (Below.refl _ _) _⟩
                · have e2 := decide_eq_false h1
                  have e3 : decide (n < last.length) = false := decide_eq_false (by omega)
                  clear HC
                  go_quiet (fail)
                  go_wp2_with fail
                  go_meet
                  exact ⟨rfl, below_drewN (Below.refl _ _) _⟩
              case rest =>
                obtain ⟨rfl, bx⟩ := hcut
                have q1 := q1.later bx q1.lt
                have b0 := btB b0 bx
                clear bx y0 y1 y2 z0 z1 z2
                obtain ⟨y0, y1, y2⟩ := q1.cell
                obtain ⟨z0, z1, z2⟩ := q1.frees
                try dsimp only at y0 y1 y2
                have sl := fun W => strTo last n (n : Int) rfl (by omega) W
                go_wp2_with fail
                refine (CG2.out _).mono ?_
                rintro e w5 ⟨rfl, rfl⟩
                go_wp2_with fail
                refine (CT2.out _).mono ?_
                rintro e w6 ⟨rfl, rfl⟩
                go_wp2_with fail
                try simp only [strAdd]
                obtain ⟨q3, b3⟩ := q1.all b0 hgs ⟨last.take n ++ rest, (q : Int), []⟩
                try dsimp only at q3 b3
                generalize ((World.setCell wc ⟨w.heap.size, 0, none⟩ _).setCell ⟨w.heap.size, 1, none⟩ _).setCell ⟨w.heap.size, 2, none⟩ _ = w7 at *
                obtain ⟨q2, b2⟩ := q3.all b3 hgs ⟨last.take n ++ rest, (q : Int), []⟩
                try dsimp only at q2 b2
                generalize ((World.setCell w7 ⟨w.heap.size, 0, none⟩ _).setCell ⟨w.heap.size, 1, none⟩ _).setCell ⟨w.heap.size, 2, none⟩ _ = w9 at *
                clear y0 y1 y2 z0 z1 z2
                obtain ⟨y0, y1, y2⟩ := q2.cell
                exact bodyPost_ret (v := .tuple #[.agg #[.string ⟨(last.take n ++ rest).toArray⟩, .int .i64 (q : Nat), .string ⟨#[]⟩], .int .i64 0, .bool false]) (by simp [results, Try.results83, go_sem, *]) rfl ⟨rfl, b2⟩
            | some r4 =>
              obtain ⟨v, k4⟩ := r4
              obtain ⟨gk4, gl4, _⟩ := getText_some e4
              rw [List.length_drop] at gk4
              simp only
              rw [e4] at CT2
              unfold getTextV at CT2
              clear e4
              unfold ceVal
              try dsimp only
              go_enter Try.func83, Try.ntmps83
              go_wp2_with fail
              generalize w.alloc _ = w1 at *
              obtain ⟨y0, y1, y2⟩ := q1.cell
              obtain ⟨z0, z1, z2⟩ := q1.frees
              try dsimp only at y0 y1 y2
              go_wp2_with fail
              refine (CG.out _).mono ?_
              rintro e w2 ⟨rfl, rfl⟩
              go_wp2_with fail
              refine (CT.out _).mono ?_
              rintro e w3 ⟨rfl, rfl⟩
              go_upto_region 5 with fail
              go_cut [53] (fun v wx => v = .bool false ∧ Below w1.heap.size w1 wx)
              case first =>
                by_cases h1 : (n : Int) < (last.length : Int)
                · cases rest with
                  | nil =>
                    clear HC
                    go_quiet (fail)
                    go_wp2_with fail
                    go_meet
                    exact ⟨rfl, below_drewN (Below.refl _ _) _⟩
                  | cons r0 rs =>
                    have hne : r0 ≠ last.getD n 0 := fun e => HC.out ⟨by omega, by simp, by simpa using e⟩
                    have hneb : ((r0.toNat : Int) == ((last.getD n 0).toNat : Int)) = false := by
                      rw [beq_eq_false_iff_ne]; intro e; exact hne (UInt8.toNat_inj.1 (Int.ofNat.inj e))
                    have i1 := fun W => at_of (r0 :: rs) 0 (by simp) W
                    simp only [List.getD_cons_zero, Int.natCast_zero] at i1
                    have i2 := fun W => at_of last n (by omega) W
                    clear HC hne
                    generalize ((last.getD n 0).toNat : Int) = y at *
                    generalize (r0.toNat : Int) = x at *
                    go_quiet (fail)
                    go_wp2_with fail
                    go_meet
                    exact ⟨rfl, below_drewN (Below.refl _ _) _⟩
                · have e2 := decide_eq_false h1
                  have e3 : decide (n < last.length) = false := decide_eq_false (by omega)
                  clear HC
                  go_quiet (fail)
                  go_wp2_with fail
                  go_meet
                  exact ⟨rfl, below_drewN (Below.refl _ _) _⟩
              case rest =>
                obtain ⟨rfl, bx⟩ := hcut
                have q1 := q1.later bx q1.lt
                have b0 := btB b0 bx
                clear bx y0 y1 y2 z0 z1 z2
                obtain ⟨y0, y1, y2⟩ := q1.cell
                obtain ⟨z0, z1, z2⟩ := q1.frees
                try dsimp only at y0 y1 y2
                have sl := fun W => strTo last n (n : Int) rfl (by omega) W
                go_wp2_with fail
                refine (CG2.out _).mono ?_
                rintro e w5 ⟨rfl, rfl⟩
                go_wp2_with fail
                refine (CT2.out _).mono ?_
                rintro e w6 ⟨rfl, rfl⟩
                go_wp2_with fail
                try simp only [strAdd]
                obtain ⟨q3, b3⟩ := q1.all b0 hgs ⟨last.take n ++ rest, (q : Int), v⟩
                try dsimp only at q3 b3
                generalize ((World.setCell wc ⟨w.heap.size, 0, none⟩ _).setCell ⟨w.heap.size, 1, none⟩ _).setCell ⟨w.heap.size, 2, none⟩ _ = w7 at *
                obtain ⟨q2, b2⟩ := q3.all b3 hgs ⟨last.take n ++ rest, (q : Int), v⟩
                try dsimp only at q2 b2
                generalize ((World.setCell w7 ⟨w.heap.size, 0, none⟩ _).setCell ⟨w.heap.size, 1, none⟩ _).setCell ⟨w.heap.size, 2, none⟩ _ = w9 at *
                clear y0 y1 y2 z0 z1 z2
                obtain ⟨y0, y1, y2⟩ := q2.cell
                exact bodyPost_ret (v := .tuple #[.agg #[.string ⟨(last.take n ++ rest).toArray⟩, .int .i64 (q : Nat), .string ⟨v.toArray⟩], .int .i64 ((at' + k1 + k2 + k3 + k4 : Nat) : Int), .bool true]) (by simp [results, Try.results83, go_sem, *]) rfl ⟨rfl, b2⟩
end Go.Proofs.Ytanaoepakllohaa
