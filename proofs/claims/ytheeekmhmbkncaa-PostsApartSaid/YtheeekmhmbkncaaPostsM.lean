/- The walk of PostsApart. -/
import Derived.Test.YtheeekmhmbkncaaPostsL
namespace Go.Proofs.Ytheeekmhmbkncaa
open Go.RowKit Spoor
set_option linter.unusedVariables false

def boxL (a b : Ak) : Obj := .cells #[.int .i64 a.ho, .int .i64 a.fi, .int .i64 a.ne, .int .i64 b.ho, .int .i64 b.fi, .int .i64 b.ne] 44
theorem cells6 {w : World} {g : Nat} {a b c d e f : Value} {t : TypeId} (h : w.heap[g]? = some (.cells #[a, b, c, d, e, f] t (0, 0))) : w.cell? ⟨g, 0, none⟩ = some a ∧ w.cell? ⟨g, 1, none⟩ = some b ∧ w.cell? ⟨g, 2, none⟩ = some c ∧ w.cell? ⟨g, 3, none⟩ = some d ∧ w.cell? ⟨g, 4, none⟩ = some e ∧ w.cell? ⟨g, 5, none⟩ = some f := by
  refine ⟨?_, ?_, ?_, ?_, ?_, ?_⟩ <;> (rw [cell_of_row w g _ _ _ _ h]; rfl)
structure ApAt (W : World) (b c : Ba) (x y : Value) (l m : Ak) (wr : World) : Prop where
  ba : BaAt W.heap.size b x wr
  bb : BaAt (W.heap.size + 1) c y wr
  ak : wr.heap[W.heap.size + 2]? = some (.cells #[.int .i64 l.ho, .int .i64 l.fi, .int .i64 l.ne, .int .i64 m.ho, .int .i64 m.fi, .int .i64 m.ne] 44 (0, 0))
  sx : SlS x b.sp wr
  sy : SlS y c.sp wr
  bel : Below W.heap.size W wr
theorem ApAt.later {W : World} {b c : Ba} {x y : Value} {l m : Ak} {wr w' : World} (h : ApAt W b c x y l m wr) (hb : Below wr.heap.size wr w') : ApAt W b c x y l m w' :=
  ⟨h.ba.later hb, h.bb.later hb, blk_later h.ak hb, h.sx.later hb, h.sy.later hb, btP h.bel hb⟩
theorem ApAt.start {W : World} {b c : Ba} {x y : Value} {l m : Ak} (hx : SlS x b.sp W) (hy : SlS y c.sp W) : ApAt W b c x y l m (((W.alloc (boxB b x)).alloc (boxB c y)).alloc (boxL l m)) := by
  obtain ⟨k1, k2, k3⟩ := two_boxesB b c x y W
  have b2 := (Below.refl ((W.alloc (boxB b x)).alloc (boxB c y)).heap.size ((W.alloc (boxB b x)).alloc (boxB c y))).alloc (Nat.le_refl _) (boxL l m)
  have b3 := btP k3 b2
  refine ⟨k1.later b2, k2.later b2, ?_, hx.later b3, hy.later b3, b3⟩
  have k3 := heap_alloc_new ((W.alloc (boxB b x)).alloc (boxB c y)) (boxL l m)
  rw [alloc_size, alloc_size] at k3
  exact k3
theorem ApAt.cells {W : World} {b c : Ba} {x y : Value} {l m : Ak} {wr : World} (h : ApAt W b c x y l m wr) :
    (wr.cell? ⟨W.heap.size, 0, none⟩ = some (.int .i64 b.ho) ∧ wr.cell? ⟨W.heap.size, 1, none⟩ = some (.int .i64 b.fi) ∧ wr.cell? ⟨W.heap.size, 2, none⟩ = some x) ∧
    (wr.cell? ⟨W.heap.size + 1, 0, none⟩ = some (.int .i64 c.ho) ∧ wr.cell? ⟨W.heap.size + 1, 1, none⟩ = some (.int .i64 c.fi) ∧ wr.cell? ⟨W.heap.size + 1, 2, none⟩ = some y) ∧
    wr.cell? ⟨W.heap.size + 2, 0, none⟩ = some (.int .i64 l.ho) ∧ wr.cell? ⟨W.heap.size + 2, 1, none⟩ = some (.int .i64 l.fi) ∧ wr.cell? ⟨W.heap.size + 2, 2, none⟩ = some (.int .i64 l.ne) ∧
    wr.cell? ⟨W.heap.size + 2, 3, none⟩ = some (.int .i64 m.ho) ∧ wr.cell? ⟨W.heap.size + 2, 4, none⟩ = some (.int .i64 m.fi) ∧ wr.cell? ⟨W.heap.size + 2, 5, none⟩ = some (.int .i64 m.ne) :=
  ⟨h.ba.cell, h.bb.cell, cells6 h.ak⟩
theorem encBa_form (b : Ba) : ∃ (S : List UInt8) (E : Int), encBaV b = .tuple #[.string ⟨S.toArray⟩, .int .i64 E] ∧ ((b.ok = true ∧ E = 0 ∧ S = b.bytes) ∨ (b.ok = false ∧ E = 2 ∧ S = [])) := by
  cases h : b.ok with
  | true => exact ⟨b.bytes, 0, encBa_yes h, .inl ⟨rfl, rfl, rfl⟩⟩
  | false => exact ⟨[], 2, encBa_no h, .inr ⟨rfl, rfl, rfl⟩⟩
theorem encAk_form (b : Ak) : ∃ (S : List UInt8) (E : Int), encAkV b = .tuple #[.string ⟨S.toArray⟩, .int .i64 E] ∧ ((b.ok = true ∧ E = 0 ∧ S = b.bytes) ∨ (b.ok = false ∧ E = 2 ∧ S = [])) := by
  cases h : b.ok with
  | true => exact ⟨b.bytes, 0, encAk_yes h, .inl ⟨rfl, rfl, rfl⟩⟩
  | false => exact ⟨[], 2, encAk_no h, .inr ⟨rfl, rfl, rfl⟩⟩
theorem eql_ak (x y : Ak) (W : World) : (binOp .eql 26 (.agg #[.int .i64 x.ho, .int .i64 x.fi, .int .i64 x.ne]) (.agg #[.int .i64 y.ho, .int .i64 y.fi, .int .i64 y.ne])).run Try.prog W = .ok (.bool (decide (x = y))) W := by
  go_simp
  obtain ⟨a1, a2, a3⟩ := x
  obtain ⟨b1, b2, b3⟩ := y
  simp only [Ak.mk.injEq]
  by_cases h1 : a1 = b1 <;> by_cases h2 : a2 = b2 <;> by_cases h3 : a3 = b3 <;> simp [*]
theorem neq_ak (x y : Ak) (W : World) : (binOp .neq 26 (.agg #[.int .i64 x.ho, .int .i64 x.fi, .int .i64 x.ne]) (.agg #[.int .i64 y.ho, .int .i64 y.fi, .int .i64 y.ne])).run Try.prog W = .ok (.bool (!decide (x = y))) W := by
  go_simp
  obtain ⟨a1, a2, a3⟩ := x
  obtain ⟨b1, b2, b3⟩ := y
  simp only [Ak.mk.injEq]
  by_cases h1 : a1 = b1 <;> by_cases h2 : a2 = b2 <;> by_cases h3 : a3 = b3 <;> simp [*]
/-- what is asked of two batches' bytes -/
inductive TwoB (b c : Ba) (S T : List UInt8) (E F : Int) (R : Bool) : Prop
  | no1 : E = 2 → TwoB b c S T E F R
  | no2 : E = 0 → F = 2 → TwoB b c S T E F R
  | same : E = 0 → F = 0 → T = S → R = true → TwoB b c S T E F R
  | unlike : E = 0 → F = 0 → S ≠ T → R = false → TwoB b c S T E F R
theorem two_ba {b c : Ba} {S T : List UInt8} {E F : Int} (h : (b.ok = true ∧ E = 0 ∧ S = b.bytes) ∨ (b.ok = false ∧ E = 2 ∧ S = [])) (k : (c.ok = true ∧ F = 0 ∧ T = c.bytes) ∨ (c.ok = false ∧ F = 2 ∧ T = [])) : TwoB b c S T E F (decide (b = c)) := by
  rcases h with ⟨h1, rfl, rfl⟩ | ⟨h1, rfl, rfl⟩
  · rcases k with ⟨k1, rfl, rfl⟩ | ⟨k1, rfl, rfl⟩
    · by_cases e : b = c
      · exact .same rfl rfl (by rw [e]) (decide_eq_true e)
      · exact .unlike rfl rfl (fun h => e ((ba_bytes_inj h1 k1).1 h)) (decide_eq_false e)
    · exact .no2 rfl rfl
  · exact .no1 rfl
inductive TwoA (b c : Ak) (S T : List UInt8) (E F : Int) (R : Bool) : Prop
  | no1 : E = 2 → TwoA b c S T E F R
  | no2 : E = 0 → F = 2 → TwoA b c S T E F R
  | same : E = 0 → F = 0 → T = S → R = true → TwoA b c S T E F R
  | unlike : E = 0 → F = 0 → S ≠ T → R = false → TwoA b c S T E F R
theorem two_ak {b c : Ak} {S T : List UInt8} {E F : Int} (h : (b.ok = true ∧ E = 0 ∧ S = b.bytes) ∨ (b.ok = false ∧ E = 2 ∧ S = [])) (k : (c.ok = true ∧ F = 0 ∧ T = c.bytes) ∨ (c.ok = false ∧ F = 2 ∧ T = [])) : TwoA b c S T E F (decide (b = c)) := by
  rcases h with ⟨h1, rfl, rfl⟩ | ⟨h1, rfl, rfl⟩
  · rcases k with ⟨k1, rfl, rfl⟩ | ⟨k1, rfl, rfl⟩
    · by_cases e : b = c
      · exact .same rfl rfl (by rw [e]) (decide_eq_true e)
      · exact .unlike rfl rfl (fun h => e ((ak_bytes_inj h1 k1).1 h)) (decide_eq_false e)
    · exact .no2 rfl rfl
  · exact .no1 rfl
set_option maxRecDepth 100000 in
set_option maxHeartbeats 16000000 in
theorem postsApart_law (W : World) (b : Ba) (x : Value) (c : Ba) (y : Value) (l m : Ak) (hx : SlS x b.sp W) (hnx : x = .slice none 0 0 ∨ ∃ ad n c, x = .slice (some ad) n c) (hwx : WfB b) (hy : SlS y c.sp W) (hny : y = .slice none 0 0 ∨ ∃ ad n c, y = .slice (some ad) n c) (hwy : WfB c) (fl : WfA l) (fm : WfA m) :
    Calls Try.prog 8 #[baVal b x, baVal c y, ak2Val l m] W fun e w' => e = .returned (.bool true) ∧ Below W.heap.size W w' := by
  have M0 := ApAt.start (l := l) (m := m) hx hy
  have CDO := Lib.hid does12_true
  have cg := fun W (h : SlS x b.sp W) => great12_any b x W h hwx
  have cgy := fun W (h : SlS y c.sp W) => great12_any c y W h hwy
  obtain ⟨G, hG⟩ : ∃ G, greatBa b.sp = G := ⟨_, rfl⟩
  obtain ⟨K, hK⟩ : ∃ K, greatBa c.sp = K := ⟨_, rfl⟩
  rw [hG] at cg
  rw [hK] at cgy
  have CG := Lib.hid cg
  have CK := Lib.hid cgy
  have CE : Hid (G = false → ∀ W, SlS x b.sp W → Calls Try.prog 10 #[baVal b x] W fun e w' => e = .returned (encBaV b) ∧ Below W.heap.size W w') := Lib.hid (fun g W h => by
    rw [g] at hG
    exact encodeBatch_any b x W h (greatBa_fits hG) (by have := (greatBa_no hG).1; omega))
  have CF : Hid (K = false → ∀ W, SlS y c.sp W → Calls Try.prog 10 #[baVal c y] W fun e w' => e = .returned (encBaV c) ∧ Below W.heap.size W w') := Lib.hid (fun g W h => by
    rw [g] at hK
    exact encodeBatch_any c y W h (greatBa_fits hK) (by have := (greatBa_no hK).1; omega))
  have ca := fun W => encodeAck_any l W fl.2.2
  have cb := fun W => encodeAck_any m W fm.2.2
  obtain ⟨S, E, hS, fS⟩ := encBa_form b
  obtain ⟨T, F, hT, fT⟩ := encBa_form c
  obtain ⟨U, I, hU, fU⟩ := encAk_form l
  obtain ⟨V, J, hV, fV⟩ := encAk_form m
  have two1 := two_ba fS fT
  have two2 := two_ak fU fV
  have cs := fun W (h1 : SlS x b.sp W) (h2 : SlS y c.sp W) => sameBatch_any b c x y W h1 h2
  have el := fun W => eql_ak l m W
  obtain ⟨R, hR⟩ : ∃ R, decide (b = c) = R := ⟨_, rfl⟩
  obtain ⟨Q, hQ⟩ : ∃ Q, decide (l = m) = Q := ⟨_, rfl⟩
  rw [hR] at two1 cs
  rw [hQ] at two2 el
  rw [hS] at CE
  rw [hT] at CF
  rw [hU] at ca
  rw [hV] at cb
  have CA := Lib.hid ca
  have CB := Lib.hid cb
  have CS := Lib.hid cs
  have W1 := Lib.hid two1
  have W2 := Lib.hid two2
  have M := Lib.hid M0
  have EL := Lib.hid el
  obtain ⟨⟨y0, y1, y2⟩, ⟨z0, z1, z2⟩, _⟩ := M0.cells
  clear hG hK hS hT hU hV hR hQ fS fT fU fV two1 two2 cs el ca cb cg cgy M0 hx hy hnx hny hwx hwy fl fm
  unfold boxB boxL at *
  unfold baVal akVal at *
  unfold ak2Val
  go_enter Try.func8, Try.ntmps8
  go_upto_region 1 with fail
  generalize World.alloc _ _ = w2 at *
  cases G with
  | true =>
    go_wp2_with fail
    refine (CG.out _ M.out.sx).mono ?_
    rintro e w3 ⟨rfl, b3⟩
    go_wp2_with fail
    go_ret
    exact ⟨rfl, btP M.out.bel b3⟩
  | false =>
    go_wp2_with fail
    refine (CG.out _ M.out.sx).mono ?_
    rintro e w3 ⟨rfl, b3⟩
    have M := Lib.hid (M.out.later b3)
    clear b3 y0 y1 y2 z0 z1 z2
    obtain ⟨⟨y0, y1, y2⟩, ⟨z0, z1, z2⟩, _⟩ := M.out.cells
    cases K with
    | true =>
      go_wp2_with fail
      refine (CK.out _ M.out.sy).mono ?_
      rintro e w4 ⟨rfl, b4⟩
      go_wp2_with fail
      go_ret
      exact ⟨rfl, btP M.out.bel b4⟩
    | false =>
      have CE2 := CE.out (by trivial)
      have CF2 := CF.out (by trivial)
      have CE3 := Lib.hid CE2
      have CF3 := Lib.hid CF2
      clear CE2 CF2 CE CF
      go_wp2_with fail
      refine (CK.out _ M.out.sy).mono ?_
      rintro e w4 ⟨rfl, b4⟩
      have M := Lib.hid (M.out.later b4)
      clear b4 y0 y1 y2 z0 z1 z2
      obtain ⟨⟨y0, y1, y2⟩, ⟨z0, z1, z2⟩, _⟩ := M.out.cells
      go_wp2_with fail
      refine (CE3.out _ M.out.sx).mono ?_
      rintro e w5 ⟨rfl, b5⟩
      have M := Lib.hid (M.out.later b5)
      clear b5 y0 y1 y2 z0 z1 z2
      obtain ⟨⟨y0, y1, y2⟩, ⟨z0, z1, z2⟩, _⟩ := M.out.cells
      go_wp2_with fail
      refine (CF3.out _ M.out.sy).mono ?_
      rintro e w6 ⟨rfl, b6⟩
      have M := Lib.hid (M.out.later b6)
      clear b6 y0 y1 y2 z0 z1 z2
      obtain ⟨_, _, v0, v1, v2, v3, v4, v5⟩ := M.out.cells
      go_wp2_with fail
      refine (CA.out _).mono ?_
      rintro e w7 ⟨rfl, b7⟩
      have M := Lib.hid (M.out.later b7)
      clear b7 v0 v1 v2 v3 v4 v5
      obtain ⟨_, _, v0, v1, v2, v3, v4, v5⟩ := M.out.cells
      go_wp2_with fail
      refine (CB.out _).mono ?_
      rintro e w8 ⟨rfl, b8⟩
      have M := Lib.hid (M.out.later b8)
      clear b8 v0 v1 v2 v3 v4 v5 CA CB CE3 CF3 CG CK
      obtain ⟨⟨y0, y1, y2⟩, ⟨z0, z1, z2⟩, v0, v1, v2, v3, v4, v5⟩ := M.out.cells
      go_upto_region 7 with fail
      rcases W1.out with ⟨rfl⟩ | ⟨rfl, rfl⟩ | ⟨rfl, rfl, rfl, rfl⟩ | ⟨rfl, rfl, hn1, rfl⟩
      · skip
        rcases W2.out with ⟨rfl⟩ | ⟨rfl, rfl⟩ | ⟨rfl, rfl, rfl, rfl⟩ | ⟨rfl, rfl, hn2, rfl⟩
        · skip
          go_wp2_with fail
          refine (CDO.out _).mono ?_
          rintro e w10 ⟨rfl, b10⟩
          go_wp2_with fail
          go_ret
          exact ⟨rfl, btP M.out.bel b10⟩
        · skip
          go_wp2_with fail
          refine (CDO.out _).mono ?_
          rintro e w10 ⟨rfl, b10⟩
          go_wp2_with fail
          go_ret
          exact ⟨rfl, btP M.out.bel b10⟩
        · skip
          have el := EL.out
          go_wp2_with fail
          refine (CDO.out _).mono ?_
          rintro e w10 ⟨rfl, b10⟩
          go_wp2_with fail
          go_ret
          exact ⟨rfl, btP M.out.bel b10⟩
        · have hm2 : (U == V) = false := beq_eq_false_iff_ne.2 hn2
          have el := EL.out
          go_wp2_with fail
          refine (CDO.out _).mono ?_
          rintro e w10 ⟨rfl, b10⟩
          go_wp2_with fail
          go_ret
          exact ⟨rfl, btP M.out.bel b10⟩
      · skip
        rcases W2.out with ⟨rfl⟩ | ⟨rfl, rfl⟩ | ⟨rfl, rfl, rfl, rfl⟩ | ⟨rfl, rfl, hn2, rfl⟩
        · skip
          go_wp2_with fail
          refine (CDO.out _).mono ?_
          rintro e w10 ⟨rfl, b10⟩
          go_wp2_with fail
          go_ret
          exact ⟨rfl, btP M.out.bel b10⟩
        · skip
          go_wp2_with fail
          refine (CDO.out _).mono ?_
          rintro e w10 ⟨rfl, b10⟩
          go_wp2_with fail
          go_ret
          exact ⟨rfl, btP M.out.bel b10⟩
        · skip
          have el := EL.out
          go_wp2_with fail
          refine (CDO.out _).mono ?_
          rintro e w10 ⟨rfl, b10⟩
          go_wp2_with fail
          go_ret
          exact ⟨rfl, btP M.out.bel b10⟩
        · have hm2 : (U == V) = false := beq_eq_false_iff_ne.2 hn2
          have el := EL.out
          go_wp2_with fail
          refine (CDO.out _).mono ?_
          rintro e w10 ⟨rfl, b10⟩
          go_wp2_with fail
          go_ret
          exact ⟨rfl, btP M.out.bel b10⟩
      · skip
        rcases W2.out with ⟨rfl⟩ | ⟨rfl, rfl⟩ | ⟨rfl, rfl, rfl, rfl⟩ | ⟨rfl, rfl, hn2, rfl⟩
        · skip
          go_wp2_with fail
          refine (CS.out _ M.out.sx M.out.sy).mono ?_
          rintro e w9 ⟨rfl, b9⟩
          have M := Lib.hid (M.out.later b9)
          clear b9 y0 y1 y2 z0 z1 z2 v0 v1 v2 v3 v4 v5
          obtain ⟨⟨y0, y1, y2⟩, ⟨z0, z1, z2⟩, v0, v1, v2, v3, v4, v5⟩ := M.out.cells
          go_wp2_with fail
          refine (CDO.out _).mono ?_
          rintro e w10 ⟨rfl, b10⟩
          go_wp2_with fail
          go_ret
          exact ⟨rfl, btP M.out.bel b10⟩
        · skip
          go_wp2_with fail
          refine (CS.out _ M.out.sx M.out.sy).mono ?_
          rintro e w9 ⟨rfl, b9⟩
          have M := Lib.hid (M.out.later b9)
          clear b9 y0 y1 y2 z0 z1 z2 v0 v1 v2 v3 v4 v5
          obtain ⟨⟨y0, y1, y2⟩, ⟨z0, z1, z2⟩, v0, v1, v2, v3, v4, v5⟩ := M.out.cells
          go_wp2_with fail
          refine (CDO.out _).mono ?_
          rintro e w10 ⟨rfl, b10⟩
          go_wp2_with fail
          go_ret
          exact ⟨rfl, btP M.out.bel b10⟩
        · skip
          have el := EL.out
          go_wp2_with fail
          refine (CS.out _ M.out.sx M.out.sy).mono ?_
          rintro e w9 ⟨rfl, b9⟩
          have M := Lib.hid (M.out.later b9)
          clear b9 y0 y1 y2 z0 z1 z2 v0 v1 v2 v3 v4 v5
          obtain ⟨⟨y0, y1, y2⟩, ⟨z0, z1, z2⟩, v0, v1, v2, v3, v4, v5⟩ := M.out.cells
          go_wp2_with fail
          refine (CDO.out _).mono ?_
          rintro e w10 ⟨rfl, b10⟩
          go_wp2_with fail
          go_ret
          exact ⟨rfl, btP M.out.bel b10⟩
        · have hm2 : (U == V) = false := beq_eq_false_iff_ne.2 hn2
          have el := EL.out
          go_wp2_with fail
          refine (CS.out _ M.out.sx M.out.sy).mono ?_
          rintro e w9 ⟨rfl, b9⟩
          have M := Lib.hid (M.out.later b9)
          clear b9 y0 y1 y2 z0 z1 z2 v0 v1 v2 v3 v4 v5
          obtain ⟨⟨y0, y1, y2⟩, ⟨z0, z1, z2⟩, v0, v1, v2, v3, v4, v5⟩ := M.out.cells
          go_wp2_with fail
          refine (CDO.out _).mono ?_
          rintro e w10 ⟨rfl, b10⟩
          go_wp2_with fail
          go_ret
          exact ⟨rfl, btP M.out.bel b10⟩
      · have hm1 : (S == T) = false := beq_eq_false_iff_ne.2 hn1
        rcases W2.out with ⟨rfl⟩ | ⟨rfl, rfl⟩ | ⟨rfl, rfl, rfl, rfl⟩ | ⟨rfl, rfl, hn2, rfl⟩
        · skip
          go_wp2_with fail
          refine (CS.out _ M.out.sx M.out.sy).mono ?_
          rintro e w9 ⟨rfl, b9⟩
          have M := Lib.hid (M.out.later b9)
          clear b9 y0 y1 y2 z0 z1 z2 v0 v1 v2 v3 v4 v5
          obtain ⟨⟨y0, y1, y2⟩, ⟨z0, z1, z2⟩, v0, v1, v2, v3, v4, v5⟩ := M.out.cells
          go_wp2_with fail
          refine (CDO.out _).mono ?_
          rintro e w10 ⟨rfl, b10⟩
          go_wp2_with fail
          go_ret
          exact ⟨rfl, btP M.out.bel b10⟩
        · skip
          go_wp2_with fail
          refine (CS.out _ M.out.sx M.out.sy).mono ?_
          rintro e w9 ⟨rfl, b9⟩
          have M := Lib.hid (M.out.later b9)
          clear b9 y0 y1 y2 z0 z1 z2 v0 v1 v2 v3 v4 v5
          obtain ⟨⟨y0, y1, y2⟩, ⟨z0, z1, z2⟩, v0, v1, v2, v3, v4, v5⟩ := M.out.cells
          go_wp2_with fail
          refine (CDO.out _).mono ?_
          rintro e w10 ⟨rfl, b10⟩
          go_wp2_with fail
          go_ret
          exact ⟨rfl, btP M.out.bel b10⟩
        · skip
          have el := EL.out
          go_wp2_with fail
          refine (CS.out _ M.out.sx M.out.sy).mono ?_
          rintro e w9 ⟨rfl, b9⟩
          have M := Lib.hid (M.out.later b9)
          clear b9 y0 y1 y2 z0 z1 z2 v0 v1 v2 v3 v4 v5
          obtain ⟨⟨y0, y1, y2⟩, ⟨z0, z1, z2⟩, v0, v1, v2, v3, v4, v5⟩ := M.out.cells
          go_wp2_with fail
          refine (CDO.out _).mono ?_
          rintro e w10 ⟨rfl, b10⟩
          go_wp2_with fail
          go_ret
          exact ⟨rfl, btP M.out.bel b10⟩
        · have hm2 : (U == V) = false := beq_eq_false_iff_ne.2 hn2
          have el := EL.out
          go_wp2_with fail
          refine (CS.out _ M.out.sx M.out.sy).mono ?_
          rintro e w9 ⟨rfl, b9⟩
          have M := Lib.hid (M.out.later b9)
          clear b9 y0 y1 y2 z0 z1 z2 v0 v1 v2 v3 v4 v5
          obtain ⟨⟨y0, y1, y2⟩, ⟨z0, z1, z2⟩, v0, v1, v2, v3, v4, v5⟩ := M.out.cells
          go_wp2_with fail
          refine (CDO.out _).mono ?_
          rintro e w10 ⟨rfl, b10⟩
          go_wp2_with fail
          go_ret
          exact ⟨rfl, btP M.out.bel b10⟩
end Go.Proofs.Ytheeekmhmbkncaa
