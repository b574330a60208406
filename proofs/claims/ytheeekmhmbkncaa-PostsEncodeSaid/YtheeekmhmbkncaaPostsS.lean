/- The walk of PostsEncode. -/
import Derived.Test.YtheeekmhmbkncaaPostsR
import Derived.Deep.RegionHeld3
import Derived.Deep.AppendLies
import Derived.Deep.DeepAppendRoom
import Derived.Deep.CutRange
namespace Go.Proofs.Ytheeekmhmbkncaa
open Go.RowKit Spoor

section
variable {P : Program} {ops : Array Oper} {o : Oper} {a : Act} {w : World} {K : Act → World → Prop} {Q : Exit → Act → World → Prop} {E : Prop}
/-- make, as one step of a region that draws -/
theorem step_make (hg : o.guard = none) (l c : Operand) (t : TypeId) (hop : o.op = Op.makeSlice t l c)
    (base : Nat) (e : TypeId) (i : TypeInfo) (z : Value) (size : Nat) (h1 : P.underlying t = some (.slice e)) (h2 : P.info? e = some i) (h3 : i.zero = some z) (h4 : i.size = size)
    (kl kc : IntKind) (C : Int) (n : Nat) (hl : a.eval l = .int kl 0) (hc : a.eval c = .int kc C) (hC : C = (n : Int)) (b2 : i.bytes * n ≤ 281474976710656) (b3 : n ≤ maxLen) (b4 : base ≤ w.heap.size)
    (hK : ∀ w', w'.ownsRow base e size (.slice (some ⟨w.heap.size, 0, none⟩) 0 n) 0 [] → w.grownBy w' none → K (a.put o.dst (.slice (some ⟨w.heap.size, 0, none⟩) 0 n)) w') :
    if Region.wanted o (yielded ops a.tmps) = true then Oper.wp P o a w K Q else E := by
  have hw : Region.wanted o (yielded ops a.tmps) = true := by simp [Region.wanted, hg]
  rw [if_pos hw]
  obtain ⟨w', hrun, r1, r2⟩ := run_make_own (P := P) w base t e i z size h1 h2 h3 h4 kl kc n b2 b3 b4
  subst hC
  unfold Oper.wp
  simp [execOp, hop, hl, hc, hrun, Result.andThen]
  exact hK w' r1 r2
/-- append where there is room, as one step of a region that draws -/
theorem step_append_spare (hgd : o.guard = none) (s x : Operand) (t : TypeId)
    (ho : o.op = .call { callee := .builtin .append, args := #[s, x], argTypes := #[t, t] })
    (base : Nat) (e : TypeId) (i : TypeInfo) (size : Nat) (ht : P.underlying t = some (.slice e)) (hi : P.info? e = some i) (hsize : i.size = size)
    (g n cap : Nat) (xs : List Value) (hs : a.eval s = .slice (some ⟨g, 0, none⟩) n cap) (hown : w.ownsRow base e size (.slice (some ⟨g, 0, none⟩) n cap) n xs)
    (ad : Addr) (m c : Nat) (news : List Value) (hx : a.eval x = .slice (some ad) m c) (hl : news.length = m * size) (hnews : ∀ j u, news[j]? = some u → w.cell? (ad.add j) = some u) (h1 : ∀ u ∈ news, u.oneCell' = true)
    (hroom : n + m ≤ cap)
    (h : ∀ w', w'.ownsRow base e size (.slice (some ⟨g, 0, none⟩) (n + m) cap) (n + m) (xs ++ news) → w.grownBy w' (some g) → K (a.put o.dst (.slice (some ⟨g, 0, none⟩) (n + m) cap)) w') :
    if Region.wanted o (yielded ops a.tmps) = true then Oper.wp P o a w K Q else E := by
  have hw : Region.wanted o (yielded ops a.tmps) = true := by simp [Region.wanted, hgd]
  rw [if_pos hw]
  exact wp_append_own_spare w s x t ho base e i size ht hi hsize g n cap xs hs hown ad m c news hx hl hnews h1 hroom h
theorem step_append_nil (hgd : o.guard = none) (s x : Operand) (t : TypeId)
    (ho : o.op = .call { callee := .builtin .append, args := #[s, x], argTypes := #[t, t] })
    (base : Nat) (e : TypeId) (i : TypeInfo) (size : Nat) (ht : P.underlying t = some (.slice e)) (hi : P.info? e = some i)
    (v : Value) (n : Nat) (xs : List Value) (hs : a.eval s = v) (hown : w.ownsRow base e size v n xs) (hx : a.eval x = .slice none 0 0)
    (h : K (a.put o.dst v) w) : if Region.wanted o (yielded ops a.tmps) = true then Oper.wp P o a w K Q else E := by
  have hw : Region.wanted o (yielded ops a.tmps) = true := by simp [Region.wanted, hgd]
  rw [if_pos hw]
  have hrun := run_append_owned_none (P := P) (w := w) base t o.type e i size ht hi v n xs hown
  unfold Oper.wp
  simp [execOp, ho, resolve, invoke, builtin, hs, hx, hrun, Result.andThen]
  exact h
end
theorem rowS_one (l : List Sp) : ∀ u ∈ rowS l, u.oneCell' = true := by
  intro u hu
  unfold rowS at hu
  obtain ⟨c, _, hc⟩ := List.mem_flatMap.1 hu
  exact spRow_one c u hc
theorem sl_cells {ad : Addr} {n c : Nat} {l : List Sp} {w : World} (h : SlS (.slice (some ad) n c) l w) : ∀ j u, (rowS l)[j]? = some u → w.cell? (ad.add j) = some u := by
  intro j u hj
  have hjl : j < l.length * 8 := by
    have := (List.getElem?_eq_some_iff.1 hj).1
    rwa [rowS_length] at this
  obtain ⟨A, cap, he, _, _, hrow⟩ := h
  obtain ⟨b, o, hab, hrow⟩ := hrow (by omega)
  injection he with he _ _
  rw [← he] at hab
  simp only [Option.some.injEq] at hab
  subst hab
  have h1 : j = (j / 8) * 8 + j % 8 := by omega
  rw [Addr.add_mid]
  have hr := rowS_at l (j / 8) (j % 8) (by omega) (by omega)
  rw [← h1, hj] at hr
  have := hrow.2 (j / 8) (by omega) (j % 8) u hr.symm
  rwa [show o + j / 8 * 8 + j % 8 = o + j by omega] at this
/-- the appended row: nil or not -/
theorem step_append_sl {ops : Array Oper} {o : Oper} {a : Act} {w : World} {K : Act → World → Prop} {Q : Exit → Act → World → Prop} {E : Prop} (hgd : o.guard = none) (s x : Operand)
    (ho : o.op = .call { callee := .builtin .append, args := #[s, x], argTypes := #[22, 22] })
    (base g cap : Nat) (l : List Sp) (A : Option Addr) (n c : Nat) (hs : a.eval s = .slice (some ⟨g, 0, none⟩) 0 cap) (hown : w.ownsRow base 29 8 (.slice (some ⟨g, 0, none⟩) 0 cap) 0 [])
    (hx : a.eval x = .slice A n c) (hnil : A = none → n = 0 ∧ c = 0) (hsl : SlS (.slice A n c) l w) (hn : l.length = n) (hroom : n ≤ cap)
    (h : ∀ w', w'.ownsRow base 29 8 (.slice (some ⟨g, 0, none⟩) n cap) n (rowS l) → w.grownBy w' (some g) → K (a.put o.dst (.slice (some ⟨g, 0, none⟩) n cap)) w') :
    if Region.wanted o (yielded ops a.tmps) = true then Oper.wp Try.prog o a w K Q else E := by
  obtain ⟨i0, hi, hz0, hz1, hz2⟩ := info_parts info_sp
  cases A with
  | none =>
    obtain ⟨rfl, rfl⟩ := hnil rfl
    obtain rfl : l = [] := List.eq_nil_of_length_eq_zero hn
    refine step_append_nil hgd s x _ ho base 29 i0 8 Try.underlying22 hi _ 0 [] hs hown hx ?_
    exact h w hown ⟨rfl, rfl, rfl, Nat.le_refl _, fun _ _ _ => rfl⟩
  | some ad =>
    have e : rowS l = [] ++ rowS l := rfl
    refine step_append_spare hgd s x _ ho base 29 i0 8 Try.underlying22 hi hz1 g 0 cap [] hs hown ad n c (rowS l) hx (by rw [rowS_length, hn]) (sl_cells hsl) (rowS_one l) (by omega) ?_
    intro w' h1 h2
    simp only [Nat.zero_add, List.nil_append] at h1 ⊢
    exact h w' h1 h2
def junkS : Sp := ⟨0, -70, 0, [], [], 0, 0, []⟩
def junkCells : Array Value := #[.int .i64 0, .int .i64 (-70), .int .i64 0, .string ⟨#[]⟩, .string ⟨#[]⟩, .int .i64 0, .int .i64 0, .string ⟨#[]⟩]
theorem junk_news {w : World} {B : Nat} (h : w.heap[B]? = some (.cells junkCells 29 (0, 0))) : ∀ j u, (spRow junkS)[j]? = some u → w.cell? ((⟨B, 0, none⟩ : Addr).add j) = some u :=
  World.news_of_block h
theorem own_row {w : World} {base g n cap : Nat} {l : List Sp} (h : w.ownsRow base 29 8 (.slice (some ⟨g, 0, none⟩) n cap) n (rowS l)) (hn : l.length = n) (hp : 0 < n) : RowS g 0 l w := by
  rw [← hn] at h
  obtain ⟨A, cap2, h1, _, _, h4⟩ := slS_own h
  injection h1 with h1 _ _
  obtain ⟨b, o, h5, h6⟩ := h4 (by omega)
  rw [← h1] at h5
  simp only [Option.some.injEq, Addr.mk.injEq, and_true] at h5
  obtain ⟨rfl, rfl⟩ := h5
  exact h6
theorem RowS.head {b o : Nat} {l m : List Sp} {w : World} (h : RowS b o (l ++ m) w) : RowS b o l w :=
  ⟨h.1, fun i hi => by
    have := h.2 i (by rw [List.length_append]; omega)
    rwa [show (l ++ m).getD i Sp.zero = l.getD i Sp.zero by simp [List.getD, List.getElem?_append_left hi]] at this⟩
theorem RowS.setS {b o : Nat} {l : List Sp} {w : World} (h : RowS b o l w) (g i : Nat) (x : Value) (hne : b ≠ g) : RowS b o l (w.setCell ⟨g, i, none⟩ x) :=
  ⟨by have := h.1; simpa [World.setCell] using this, fun k hk j u hj => by
    have := h.2 k hk j u hj
    rw [World.cell?_of_block (w := w) (Below.heap_setCell w _ _ _ hne)]
    exact this⟩
/-- what stands behind the twin's making -/
structure EnAt (W : World) (b : Ba) (x : Value) (a : Ak) (p5 g n : Nat) (wr : World) : Prop where
  cu : CuAt W b x a wr
  bt : BaAt p5 b (.slice (some ⟨g, 0, none⟩) n (n + 1)) wr
  row : RowS g 0 (b.sp ++ [junkS]) wr
theorem EnAt.later {W : World} {b : Ba} {x : Value} {a : Ak} {p5 g n : Nat} {wr w' : World} (h : EnAt W b x a p5 g n wr) (hb : Below wr.heap.size wr w') : EnAt W b x a p5 g n w' :=
  ⟨h.cu.later hb, h.bt.later hb, h.row.later hb h.row.1⟩
theorem EnAt.sl {W : World} {b : Ba} {x : Value} {a : Ak} {p5 g n : Nat} {wr : World} (h : EnAt W b x a p5 g n wr) (hn : b.sp.length = n) (hm : n + 1 ≤ maxLen) : SlS (.slice (some ⟨g, 0, none⟩) n (n + 1)) b.sp wr :=
  ⟨some ⟨g, 0, none⟩, n + 1, by rw [hn], by omega, hm, fun _ => ⟨g, 0, rfl, h.row.head⟩⟩
theorem EnAt.junk {W : World} {b : Ba} {x : Value} {a : Ak} {p5 g n : Nat} {wr : World} (h : EnAt W b x a p5 g n wr) (hn : b.sp.length = n) : wr.cell? ⟨g, n * 8 + 1, none⟩ = some (.int .i64 (-70)) := by
  have := h.row.2 n (by simp [hn]) 1 (.int .i64 (-70)) (by
    rw [show (b.sp ++ [junkS]).getD n Sp.zero = junkS by simp [List.getD, ← hn]]
    rfl)
  rwa [Nat.zero_add] at this
/-- the end of the making -/
theorem en_end {W : World} {b : Ba} {a : Ak} {A : Option Addr} {n cap p5 g : Nat} {w4 we : World} {base : Nat} (hs0 : SlS (.slice A n cap) b.sp W) (hcu : CuAt W b (.slice A n cap) a w4) (hbt : BaAt p5 b (.slice A n cap) w4) (hn : b.sp.length = n)
    (hb : Below w4.heap.size w4 we) (own : we.ownsRow base 29 8 (.slice (some ⟨g, 0, none⟩) (n + 1) (n + 1)) (n + 1) (rowS b.sp ++ spRow junkS)) (hbase : w4.heap.size ≤ base) (hp : W.heap.size + 1 < p5) :
    EnAt W b (.slice A n cap) a p5 g n (we.setCell ⟨p5, 2, none⟩ (.slice (some ⟨g, 0, none⟩) n (n + 1))) := by
  have hl5 := hbt.lt
  have hg := (own.lt g rfl).1
  rw [← rowS_snoc] at own
  have row := own_row own (by simp [hn]) (by omega)
  have c1 := hcu.later hb
  have b1 := hbt.later hb
  have hne : W.heap.size ≠ p5 := by omega
  have hne1 : W.heap.size + 1 ≠ p5 := by omega
  have bs := c1.bel.setCell (p := ⟨p5, 2, none⟩) (by show W.heap.size ≤ p5; omega) (.slice (some ⟨g, 0, none⟩) n (n + 1))
  refine ⟨⟨blk_other c1.ba ⟨p5, 2, none⟩ hne _, blk_other c1.ak ⟨p5, 2, none⟩ hne1 _, hs0.later bs, bs⟩, ?_, row.setS p5 2 _ (by omega)⟩
  · unfold BaAt at *
    rw [heap_setCell_same we p5 2 _ _ _ b1]
    rfl

set_option maxRecDepth 100000 in
set_option maxHeartbeats 16000000 in
theorem postsEncode_law (W : World) (b : Ba) (x : Value) (a : Ak) (hx : SlS x b.sp W) (hnx : x = .slice none 0 0 ∨ ∃ ad n c, x = .slice (some ad) n c) (hwx : WfB b) (fa : WfA a) :
    Calls Try.prog 3 #[baVal b x, akVal a] W fun e w' => e = .returned (.bool true) ∧ Below W.heap.size W w' := by
  have M0 := CuAt.start a hx
  have CDO := Lib.hid does12_true
  have cg := fun W (h : SlS x b.sp W) => great12_any b x W h hwx
  have M := Lib.hid M0
  cases hG : greatBa b.sp with
  | true =>
    rw [hG] at cg
    have CG := Lib.hid cg
    obtain ⟨y0, y1, y2⟩ := M0.ba.cell
    clear hG cg M0 hx hnx hwx fa
    unfold boxB boxA at *
    unfold baVal akVal at *
    go_enter Try.func3, Try.ntmps3
    go_wp2_with fail
    refine (CG.out _ M.out.sl).mono ?_
    rintro e w3 ⟨rfl, b3⟩
    go_wp2_with fail
    go_ret
    exact ⟨rfl, btP M.out.bel b3⟩
  | false =>
    rw [hG] at cg
    obtain ⟨n, hn⟩ : ∃ n, b.sp.length = n := ⟨_, rfl⟩
    have hl50 := (greatBa_no hG).1
    rw [hn] at hl50
    obtain ⟨A, cap, rfl⟩ : ∃ A cap, x = .slice A n cap := by
      obtain ⟨A, cap, h, _⟩ := hx
      exact ⟨A, cap, by rw [h, hn]⟩
    have hnil : A = none → n = 0 ∧ cap = 0 := by
      intro h
      subst h
      rcases hnx with h | ⟨ad, n', c', h⟩
      · injection h with _ h1 h2
        exact ⟨h1, h2⟩
      · injection h with h1 _ _
        cases h1
    have CG := Lib.hid cg
    have ce := fun v W (h : SlS v b.sp W) => encodeBatch_any b v W h (greatBa_fits hG) (by omega)
    have cr := fun v W (h : SlS v b.sp W) => refEncodeBatch_any b v W h (greatBa_fits hG) (by omega)
    have ca := fun W => encodeAck_any a W fa.2.2
    have cq := fun W => refEncodeAck_any a W
    have cs := fun v v' W (h1 : SlS v b.sp W) (h2 : SlS v' b.sp W) => sameBatch_any b b v v' W h1 h2
    rw [decide_eq_true (rfl : b = b)] at cs
    obtain ⟨S, E, hS, _⟩ := encBa_form b
    obtain ⟨T, I, hT, _⟩ := encAk_form a
    rw [hS] at ce cr
    rw [hT] at ca cq
    have CE := Lib.hid ce
    have CR := Lib.hid cr
    have CA := Lib.hid ca
    have CQ := Lib.hid cq
    have CS := Lib.hid cs
    have HN := Lib.hid hn
    have HX := Lib.hid hx
    have HL := Lib.hid hl50
    have HNIL := Lib.hid hnil
    have HC : Hid (n ≤ cap ∧ cap ≤ maxLen) := Lib.hid (by
      obtain ⟨A2, c2, hxe, hcap, hcm, _⟩ := sl_row hx
      injection hxe with _ _ hxe
      subst hxe
      rw [hn] at hcap
      exact ⟨hcap, hcm⟩)
    clear hG cg ce cr ca cq cs hS hT hn M0 hnx hwx fa hnil hx
    obtain ⟨y0, y1, y2⟩ := M.out.ba.cell
    unfold boxB boxA at *
    unfold baVal akVal at *
    go_enter Try.func3, Try.ntmps3
    go_wp2_with fail
    refine (CG.out _ M.out.sl).mono ?_
    rintro e w3 ⟨rfl, b3⟩
    have M := Lib.hid (M.out.later b3)
    clear b3 y0 y1 y2 CG
    obtain ⟨y0, y1, y2⟩ := M.out.ba.cell
    have q5 := heap_alloc_new w3 (.cells #[.int .i64 b.ho, .int .i64 b.fi, .slice A n cap] 24)
    have e5 := (Below.refl w3.heap.size w3).alloc (Nat.le_refl _) (.cells #[.int .i64 b.ho, .int .i64 b.fi, .slice A n cap] 24)
    have hps : W.heap.size + 1 < w3.heap.size := (Array.getElem?_eq_some_iff.1 M.out.ak).1
    have M4 := M.out.later e5
    go_upto_region 4 with fail
    obtain ⟨w4, hw4⟩ : ∃ w4, w3.alloc (.cells #[.int .i64 b.ho, .int .i64 b.fi, .slice A n cap] 24) = w4 := ⟨_, rfl⟩
    obtain ⟨p5, hp5⟩ : ∃ p5, w3.heap.size = p5 := ⟨_, rfl⟩
    rw [hw4] at q5 M4 ⊢
    rw [hp5] at q5 hps ⊢
    obtain ⟨v0, v1, v2⟩ := M4.ba.cell
    obtain ⟨t0, t1, t2⟩ := cells3 q5
    have M := Lib.hid M4
    have BT : Hid (BaAt p5 b (.slice A n cap) w4) := Lib.hid q5
    have hl5 : p5 < w4.heap.size := BT.out.lt
    have hl0 : W.heap.size < w4.heap.size := M4.ba.lt
    have HPS := Lib.hid hps
    obtain ⟨p, hp⟩ : ∃ p, W.heap.size = p := ⟨_, rfl⟩
    have HP := Lib.hid hp
    rw [hp] at v0 v1 v2 hl0 ⊢
    clear hw4 hp5 e5 M4 q5 y0 y1 y2 hps hp
    go_cut [5] (fun v wx => v = .pointer (some ⟨p5, 0, none⟩) ∧ ∃ g, Hid (EnAt W b (.slice A n cap) a p5 g n wx))
    case first =>
      have hS0 : w4.drew.cell? ⟨p, 2, none⟩ = some (.slice A n cap) := v2
      have D4 : Below w4.heap.size w4 w4.drew := _root_.Go.below_drewN (Below.refl _ _) _
      have hHL := HL.out
      have hHC := HC.out
      unfold maxLen at hHC
      have hnp : p ≠ p5 := by have := HPS.out; have := HP.out; omega
      obtain ⟨i0, hi, hz0, hz1, hz2⟩ := info_parts info_sp
      refine wp_region_noPanic ?_
      refine wp_region_held_drew (S := fun W => W.cell? ⟨p, 2, none⟩ = some (.slice A n cap)) (by kernel_rfl) hS0 (fun hHeld => ?_)
      refine' wpAnyH_take (i := 0) ?i0_1 ?s0_1 ?f0_1 ?r0_1 ?q0_1 ?y0_1 ?z0_1 ?t0_1
      case i0_1 => (simp only [List.getElem?_toArray, List.getElem?_cons_zero] <;> rfl)
      case s0_1 => kernel_rfl
      case f0_1 => kernel_rfl
      case r0_1 => kernel_rfl
      case q0_1 => exact (fun _ _ _ h => h)
      case z0_1 => assumption
      case y0_1 => refine Or.inl ⟨by rfl, ?_⟩; intro w hSw; (try dsimp only at hSw); go_simp; (try with_reducible rfl)
      try simp only [Act.put, List.setIfInBounds_toArray, List.set_cons_zero, List.set_cons_succ]
      refine' wpAnyH_take (i := 1) ?i1_2 ?s1_2 ?f1_2 ?r1_2 ?q1_2 ?y1_2 ?z1_2 ?t1_2
      case i1_2 => (simp only [List.getElem?_toArray, List.getElem?_cons_zero, List.getElem?_cons_succ] <;> rfl)
      case s1_2 => kernel_rfl
      case f1_2 => kernel_rfl
      case r1_2 => kernel_rfl
      case q1_2 => exact (fun _ _ _ h => h)
      case z1_2 => assumption
      case y1_2 => refine Or.inl ⟨by rfl, ?_⟩; intro w hSw; (try dsimp only at hSw); go_simp; (try with_reducible rfl)
      try simp only [Act.put, List.setIfInBounds_toArray, List.set_cons_zero, List.set_cons_succ]
      refine' wpAnyH_take (i := 2) ?i2_3 ?s2_3 ?f2_3 ?r2_3 ?q2_3 ?y2_3 ?z2_3 ?t2_3
      case i2_3 => (simp only [List.getElem?_toArray, List.getElem?_cons_zero, List.getElem?_cons_succ] <;> rfl)
      case s2_3 => kernel_rfl
      case f2_3 => kernel_rfl
      case r2_3 => kernel_rfl
      case q2_3 => exact (fun _ _ _ h => h)
      case z2_3 => assumption
      case y2_3 => refine Or.inl ⟨by rfl, ?_⟩; intro w hSw; (try dsimp only at hSw); go_simp; (try with_reducible rfl)
      try simp only [Act.put, List.setIfInBounds_toArray, List.set_cons_zero, List.set_cons_succ]
      refine' wpAnyH_take (i := 3) ?i3_4 ?s3_4 ?f3_4 ?r3_4 ?q3_4 ?y3_4 ?z3_4 ?t3_4
      case i3_4 => (simp only [List.getElem?_toArray, List.getElem?_cons_zero, List.getElem?_cons_succ] <;> rfl)
      case s3_4 => kernel_rfl
      case f3_4 => kernel_rfl
      case r3_4 => kernel_rfl
      case q3_4 => exact (fun _ _ _ h => h)
      case z3_4 => assumption
      case y3_4 => refine Or.inl ⟨by rfl, ?_⟩; intro w hSw; (try dsimp only at hSw); go_simp; (try with_reducible rfl)
      try simp only [Act.put, List.setIfInBounds_toArray, List.set_cons_zero, List.set_cons_succ]
      refine' wpAnyH_take (i := 5) ?i5_5 ?s5_5 ?f5_5 ?r5_5 ?q5_5 ?y5_5 ?z5_5 ?t5_5
      case i5_5 => (simp only [List.getElem?_toArray, List.getElem?_cons_zero, List.getElem?_cons_succ] <;> rfl)
      case s5_5 => kernel_rfl
      case f5_5 => kernel_rfl
      case r5_5 => kernel_rfl
      case q5_5 => exact (fun _ _ _ h => h)
      case z5_5 => assumption
      case y5_5 => refine Or.inl ⟨by rfl, ?_⟩; intro w hSw; (try dsimp only at hSw); go_simp; (try with_reducible rfl)
      try simp only [Act.put, List.setIfInBounds_toArray, List.set_cons_zero, List.set_cons_succ]
      refine' wpAnyH_take (i := 6) ?i6_6 ?s6_6 ?f6_6 ?r6_6 ?q6_6 ?y6_6 ?z6_6 ?t6_6
      case i6_6 => (simp only [List.getElem?_toArray, List.getElem?_cons_zero, List.getElem?_cons_succ] <;> rfl)
      case s6_6 => kernel_rfl
      case f6_6 => kernel_rfl
      case r6_6 => kernel_rfl
      case q6_6 => exact (fun _ _ _ h => h)
      case z6_6 => assumption
      case y6_6 => refine Or.inl ⟨by rfl, ?_⟩; intro w hSw; (try dsimp only at hSw); go_simp; (try with_reducible rfl)
      try simp only [Act.put, List.setIfInBounds_toArray, List.set_cons_zero, List.set_cons_succ]
      refine' wpAnyH_take (i := 8) ?i8_7 ?s8_7 ?f8_7 ?r8_7 ?q8_7 ?y8_7 ?z8_7 ?t8_7
      case i8_7 => (simp only [List.getElem?_toArray, List.getElem?_cons_zero, List.getElem?_cons_succ] <;> rfl)
      case s8_7 => kernel_rfl
      case f8_7 => kernel_rfl
      case r8_7 => kernel_rfl
      case q8_7 => exact (fun _ _ _ h => h)
      case z8_7 => assumption
      case y8_7 => refine Or.inl ⟨by rfl, ?_⟩; intro w hSw; (try dsimp only at hSw); go_simp; (try with_reducible rfl)
      try simp only [Act.put, List.setIfInBounds_toArray, List.set_cons_zero, List.set_cons_succ]
      refine' wpAnyH_take (i := 11) ?i11_8 ?s11_8 ?f11_8 ?r11_8 ?q11_8 ?y11_8 ?z11_8 ?t11_8
      case i11_8 => (simp only [List.getElem?_toArray, List.getElem?_cons_zero, List.getElem?_cons_succ] <;> rfl)
      case s11_8 => kernel_rfl
      case f11_8 => kernel_rfl
      case r11_8 => kernel_rfl
      case q11_8 => exact (fun _ _ _ h => h)
      case z11_8 => assumption
      case y11_8 => refine Or.inl ⟨by rfl, ?_⟩; intro w hSw; (try dsimp only at hSw); go_simp; (try with_reducible rfl)
      try simp only [Act.put, List.setIfInBounds_toArray, List.set_cons_zero, List.set_cons_succ]
      refine' wpAnyH_take (i := 12) ?i12_9 ?s12_9 ?f12_9 ?r12_9 ?q12_9 ?y12_9 ?z12_9 ?t12_9
      case i12_9 => (simp only [List.getElem?_toArray, List.getElem?_cons_zero, List.getElem?_cons_succ] <;> rfl)
      case s12_9 => kernel_rfl
      case f12_9 => kernel_rfl
      case r12_9 => kernel_rfl
      case q12_9 => exact (fun _ _ _ h => h)
      case z12_9 => assumption
      case y12_9 => refine Or.inl ⟨by rfl, ?_⟩; intro w hSw; (try dsimp only at hSw); go_simp; (try with_reducible rfl)
      try simp only [Act.put, List.setIfInBounds_toArray, List.set_cons_zero, List.set_cons_succ]
      refine' wpAnyH_take (i := 13) ?i13_10 ?s13_10 ?f13_10 ?r13_10 ?q13_10 ?y13_10 ?z13_10 ?t13_10
      case i13_10 => (simp only [List.getElem?_toArray, List.getElem?_cons_zero, List.getElem?_cons_succ] <;> rfl)
      case s13_10 => kernel_rfl
      case f13_10 => kernel_rfl
      case r13_10 => kernel_rfl
      case q13_10 => exact (fun _ _ _ h => h)
      case z13_10 => assumption
      case y13_10 => refine Or.inl ⟨by rfl, ?_⟩; intro w hSw; (try dsimp only at hSw); go_simp; (try with_reducible rfl)
      try simp only [Act.put, List.setIfInBounds_toArray, List.set_cons_zero, List.set_cons_succ]
      refine wpAnyH_ready (rs := [4, 9]) (by kernel_rfl) (by simp) ?_
      refine' AllReadyH.cons ?i4_11 (fun K hK => ?b4_11) (AllReadyH.cons ?i9_11 (fun K hK => ?b9_11) AllReadyH.nil)
      case i4_11 => (simp only [List.getElem?_toArray, List.getElem?_cons_zero, List.getElem?_cons_succ] <;> rfl)
      case i9_11 => (simp only [List.getElem?_toArray, List.getElem?_cons_zero, List.getElem?_cons_succ] <;> rfl)
      case b4_11 =>
        refine step_make rfl _ _ 22 rfl w4.heap.size 29 i0 (.agg #[.int .i64 0, .int .i64 0, .int .i64 0, .string ⟨#[]⟩, .string ⟨#[]⟩, .int .i64 0, .int .i64 0, .string ⟨#[]⟩]) 8 Try.underlying22 hi hz0 hz1 .i64 .i64 _ (n + 1) rfl rfl (by rw [IntKind.wrap_i64]; omega) (by rw [hz2]; omega) (by unfold maxLen; omega) (D4.size) ?_
        intro wm own1 gr
        have wmb := D4.grown gr (D4.size) (fun k h => by cases h)
        refine hK.out _ _ ((wmb.cell (p := ⟨p, 2, none⟩) hl0).trans v2) (fun hH1 => ?_)
        clear hK K
        try simp only [Act.put, List.setIfInBounds_toArray, List.set_cons_zero, List.set_cons_succ]
        refine wpAnyH_ready (rs := [7, 9]) (by kernel_rfl) (by simp) ?_
        refine' AllReadyH.cons ?i7_12 (fun K hK => ?b7_12) (AllReadyH.cons ?i9_12 (fun K hK => ?b9_12) AllReadyH.nil)
        case i7_12 => (simp only [List.getElem?_toArray, List.getElem?_cons_zero, List.getElem?_cons_succ] <;> rfl)
        case i9_12 => (simp only [List.getElem?_toArray, List.getElem?_cons_zero, List.getElem?_cons_succ] <;> rfl)
        case b7_12 =>
          refine step_append_sl rfl _ _ rfl w4.heap.size _ (n + 1) b.sp A n cap rfl own1 rfl HNIL.out ((M.out.later wmb).sl) HN.out (by omega) ?_
          intro wa own2 gr
          have wab := wmb.grown gr (wmb.size) (fun k hk => (own1.lt k hk).1)
          refine hK.out _ _ ((wab.cell (p := ⟨p, 2, none⟩) hl0).trans v2) (fun hH2 => ?_)
          clear hK K
          try simp only [Act.put, List.setIfInBounds_toArray, List.set_cons_zero, List.set_cons_succ]
          refine wpAnyH_ready (rs := [9]) (by kernel_rfl) (by simp) ?_
          refine' AllReadyH.cons ?i9_13 (fun K hK => ?b9_13) AllReadyH.nil
          case i9_13 => (simp only [List.getElem?_toArray, List.getElem?_cons_zero, List.getElem?_cons_succ] <;> rfl)
          case b9_13 =>
            go_simp
            have bk := heap_alloc_new wa (.cells junkCells 29)
            have wbb := wab.alloc wab.size (.cells junkCells 29)
            have own3 := own2.alloc (.cells junkCells 29)
            unfold junkCells at bk wbb own3
            refine hK.out _ _ ((wbb.cell (p := ⟨p, 2, none⟩) hl0).trans v2) (fun hH3 => ?_)
            clear hK K
            try simp only [Act.put, List.setIfInBounds_toArray, List.set_cons_zero, List.set_cons_succ]
            refine wpAnyH_ready (rs := [10]) (by kernel_rfl) (by simp) ?_
            refine' AllReadyH.cons ?i10_14 (fun K hK => ?b10_14) AllReadyH.nil
            case i10_14 => (simp only [List.getElem?_toArray, List.getElem?_cons_zero, List.getElem?_cons_succ] <;> rfl)
            case b10_14 =>
              refine step_append_spare rfl _ _ 22 rfl w4.heap.size 29 i0 8 Try.underlying22 hi hz1 _ n (n + 1) (rowS b.sp) rfl own3 ⟨wa.heap.size, 0, none⟩ 1 1 (spRow junkS) rfl rfl (junk_news bk) (spRow_one junkS) (Nat.le_refl _) ?_
              intro we ownE gr
              have Be := wbb.grown gr (wbb.size) (fun k hk => (own3.lt k hk).1)
              refine hK.out _ _ ((Be.cell (p := ⟨p, 2, none⟩) hl0).trans v2) (fun hH5 => ?_)
              clear hK K
              try simp only [Act.put, List.setIfInBounds_toArray, List.set_cons_zero, List.set_cons_succ]
              have en := fun g (h : we.ownsRow w4.heap.size 29 8 (.slice (some ⟨g, 0, none⟩) (n + 1) (n + 1)) (n + 1) (rowS b.sp ++ spRow junkS)) => en_end (a := a) HX.out M.out BT.out HN.out Be h (Nat.le_refl _) HPS.out
              have en1 := en _ ownE
              have EN := Lib.hid en1
              have BTe := BT.out.later Be
              obtain ⟨s0, s1, s2⟩ := BTe.cell
              obtain ⟨f0, f1, f2⟩ := BTe.frees
              clear en en1 BTe ownE gr
              have hn1 : ¬ ((n : Int) + 1 < (n : Int)) := by omega
              have hn2 : ¬ ((n : Int) < 0) := by omega
              have hn3 : (n : Int) ≤ (n : Int) + 1 := by omega
              have hn4 : (0 : Int) ≤ (n : Int) := by omega
              refine' wpAnyH_take (i := 14) ?i14_15 ?s14_15 ?f14_15 ?r14_15 ?q14_15 ?y14_15 ?z14_15 ?t14_15
              case i14_15 => (simp only [List.getElem?_toArray, List.getElem?_cons_zero, List.getElem?_cons_succ] <;> rfl)
              case s14_15 => kernel_rfl
              case f14_15 => kernel_rfl
              case r14_15 => kernel_rfl
              case q14_15 => exact (fun _ _ _ h => h)
              case z14_15 => assumption
              case y14_15 => refine Or.inl ⟨by rfl, ?_⟩; intro w hSw; (try dsimp only at hSw); go_simp; (try with_reducible rfl)
              try simp only [Act.put, List.setIfInBounds_toArray, List.set_cons_zero, List.set_cons_succ]
              refine' wpAnyH_take (i := 15) ?i15_16 ?s15_16 ?f15_16 ?r15_16 ?q15_16 ?y15_16 ?z15_16 ?t15_16
              case i15_16 => (simp only [List.getElem?_toArray, List.getElem?_cons_zero, List.getElem?_cons_succ] <;> rfl)
              case s15_16 => kernel_rfl
              case f15_16 => kernel_rfl
              case r15_16 => kernel_rfl
              case q15_16 => exact (fun _ _ _ h => h)
              case z15_16 => assumption
              case y15_16 => refine Or.inl ⟨by rfl, ?_⟩; intro w hSw; (try dsimp only at hSw); go_simp; (try with_reducible rfl)
              try simp only [Act.put, List.setIfInBounds_toArray, List.set_cons_zero, List.set_cons_succ]
              refine wpAnyH_ready (rs := [16]) (by kernel_rfl) (by simp) ?_
              refine' AllReadyH.cons ?i16_17 (fun K hK => ?b16_17) AllReadyH.nil
              case i16_17 => (simp only [List.getElem?_toArray, List.getElem?_cons_zero, List.getElem?_cons_succ] <;> rfl)
              case b16_17 =>
                go_simp
                refine hK.out _ _ ?_ (fun hH6 => ?_)
                · exact (World.cell?_of_block (w := we) (Below.heap_setCell we _ _ _ hnp)).trans hH5
                clear hK K
                try simp only [Act.put, List.setIfInBounds_toArray, List.set_cons_zero, List.set_cons_succ]
                refine wpAnyH_done (by kernel_rfl) ?_ _
                refine NoPanic.normal ?_
                go_wp2_with fail
                go_meet
                exact ⟨rfl, _, EN⟩
        case b9_12 =>
          go_simp
          have bk := heap_alloc_new wm (.cells junkCells 29)
          have wbb := wmb.alloc wmb.size (.cells junkCells 29)
          have own2 := own1.alloc (.cells junkCells 29)
          have hne : wm.heap.size ≠ w4.drew.heap.size := (Nat.ne_of_lt (own1.lt _ rfl).2).symm
          unfold junkCells at bk wbb own2
          refine hK.out _ _ ((wbb.cell (p := ⟨p, 2, none⟩) hl0).trans v2) (fun hH2 => ?_)
          clear hK K
          try simp only [Act.put, List.setIfInBounds_toArray, List.set_cons_zero, List.set_cons_succ]
          refine wpAnyH_ready (rs := [7]) (by kernel_rfl) (by simp) ?_
          refine' AllReadyH.cons ?i7_18 (fun K hK => ?b7_18) AllReadyH.nil
          case i7_18 => (simp only [List.getElem?_toArray, List.getElem?_cons_zero, List.getElem?_cons_succ] <;> rfl)
          case b7_18 =>
            refine step_append_sl rfl _ _ rfl w4.heap.size _ (n + 1) b.sp A n cap rfl own2 rfl HNIL.out ((M.out.later wbb).sl) HN.out (by omega) ?_
            intro wa own3 gr
            have wab := wbb.grown gr (wbb.size) (fun k hk => (own2.lt k hk).1)
            have bk2 := (gr.block wm.heap.size (by simp) (fun e => hne (by simpa using e))).trans bk
            refine hK.out _ _ ((wab.cell (p := ⟨p, 2, none⟩) hl0).trans v2) (fun hH3 => ?_)
            clear hK K
            try simp only [Act.put, List.setIfInBounds_toArray, List.set_cons_zero, List.set_cons_succ]
            refine wpAnyH_ready (rs := [10]) (by kernel_rfl) (by simp) ?_
            refine' AllReadyH.cons ?i10_19 (fun K hK => ?b10_19) AllReadyH.nil
            case i10_19 => (simp only [List.getElem?_toArray, List.getElem?_cons_zero, List.getElem?_cons_succ] <;> rfl)
            case b10_19 =>
              refine step_append_spare rfl _ _ 22 rfl w4.heap.size 29 i0 8 Try.underlying22 hi hz1 _ n (n + 1) (rowS b.sp) rfl own3 ⟨wm.heap.size, 0, none⟩ 1 1 (spRow junkS) rfl rfl (junk_news bk2) (spRow_one junkS) (Nat.le_refl _) ?_
              intro we ownE gr
              have Be := wab.grown gr (wab.size) (fun k hk => (own3.lt k hk).1)
              refine hK.out _ _ ((Be.cell (p := ⟨p, 2, none⟩) hl0).trans v2) (fun hH5 => ?_)
              clear hK K
              try simp only [Act.put, List.setIfInBounds_toArray, List.set_cons_zero, List.set_cons_succ]
              have en := fun g (h : we.ownsRow w4.heap.size 29 8 (.slice (some ⟨g, 0, none⟩) (n + 1) (n + 1)) (n + 1) (rowS b.sp ++ spRow junkS)) => en_end (a := a) HX.out M.out BT.out HN.out Be h (Nat.le_refl _) HPS.out
              have en1 := en _ ownE
              have EN := Lib.hid en1
              have BTe := BT.out.later Be
              obtain ⟨s0, s1, s2⟩ := BTe.cell
              obtain ⟨f0, f1, f2⟩ := BTe.frees
              clear en en1 BTe ownE gr
              have hn1 : ¬ ((n : Int) + 1 < (n : Int)) := by omega
              have hn2 : ¬ ((n : Int) < 0) := by omega
              have hn3 : (n : Int) ≤ (n : Int) + 1 := by omega
              have hn4 : (0 : Int) ≤ (n : Int) := by omega
              refine' wpAnyH_take (i := 14) ?i14_20 ?s14_20 ?f14_20 ?r14_20 ?q14_20 ?y14_20 ?z14_20 ?t14_20
              case i14_20 => (simp only [List.getElem?_toArray, List.getElem?_cons_zero, List.getElem?_cons_succ] <;> rfl)
              case s14_20 => kernel_rfl
              case f14_20 => kernel_rfl
              case r14_20 => kernel_rfl
              case q14_20 => exact (fun _ _ _ h => h)
              case z14_20 => assumption
              case y14_20 => refine Or.inl ⟨by rfl, ?_⟩; intro w hSw; (try dsimp only at hSw); go_simp; (try with_reducible rfl)
              try simp only [Act.put, List.setIfInBounds_toArray, List.set_cons_zero, List.set_cons_succ]
              refine' wpAnyH_take (i := 15) ?i15_21 ?s15_21 ?f15_21 ?r15_21 ?q15_21 ?y15_21 ?z15_21 ?t15_21
              case i15_21 => (simp only [List.getElem?_toArray, List.getElem?_cons_zero, List.getElem?_cons_succ] <;> rfl)
              case s15_21 => kernel_rfl
              case f15_21 => kernel_rfl
              case r15_21 => kernel_rfl
              case q15_21 => exact (fun _ _ _ h => h)
              case z15_21 => assumption
              case y15_21 => refine Or.inl ⟨by rfl, ?_⟩; intro w hSw; (try dsimp only at hSw); go_simp; (try with_reducible rfl)
              try simp only [Act.put, List.setIfInBounds_toArray, List.set_cons_zero, List.set_cons_succ]
              refine wpAnyH_ready (rs := [16]) (by kernel_rfl) (by simp) ?_
              refine' AllReadyH.cons ?i16_22 (fun K hK => ?b16_22) AllReadyH.nil
              case i16_22 => (simp only [List.getElem?_toArray, List.getElem?_cons_zero, List.getElem?_cons_succ] <;> rfl)
              case b16_22 =>
                go_simp
                refine hK.out _ _ ?_ (fun hH6 => ?_)
                · exact (World.cell?_of_block (w := we) (Below.heap_setCell we _ _ _ hnp)).trans hH5
                clear hK K
                try simp only [Act.put, List.setIfInBounds_toArray, List.set_cons_zero, List.set_cons_succ]
                refine wpAnyH_done (by kernel_rfl) ?_ _
                refine NoPanic.normal ?_
                go_wp2_with fail
                go_meet
                exact ⟨rfl, _, EN⟩
      case b9_11 =>
        go_simp
        have bk := heap_alloc_new w4.drew (.cells junkCells 29)
        have wbb := D4.alloc D4.size (.cells junkCells 29)
        unfold junkCells at bk wbb
        refine hK.out _ _ ((wbb.cell (p := ⟨p, 2, none⟩) hl0).trans v2) (fun hH1 => ?_)
        clear hK K
        try simp only [Act.put, List.setIfInBounds_toArray, List.set_cons_zero, List.set_cons_succ]
        refine wpAnyH_ready (rs := [4]) (by kernel_rfl) (by simp) ?_
        refine' AllReadyH.cons ?i4_23 (fun K hK => ?b4_23) AllReadyH.nil
        case i4_23 => (simp only [List.getElem?_toArray, List.getElem?_cons_zero, List.getElem?_cons_succ] <;> rfl)
        case b4_23 =>
          refine step_make rfl _ _ 22 rfl w4.heap.size 29 i0 (.agg #[.int .i64 0, .int .i64 0, .int .i64 0, .string ⟨#[]⟩, .string ⟨#[]⟩, .int .i64 0, .int .i64 0, .string ⟨#[]⟩]) 8 Try.underlying22 hi hz0 hz1 .i64 .i64 _ (n + 1) rfl rfl (by rw [IntKind.wrap_i64]; omega) (by rw [hz2]; omega) (by unfold maxLen; omega) (wbb.size) ?_
          intro wm own1 gr
          have wmb := wbb.grown gr (wbb.size) (fun k h => by cases h)
          have bk1 := (gr.block w4.drew.heap.size (by simp) (by simp)).trans bk
          have hlk : w4.heap.size + 1 ≤ wm.heap.size := by have h := gr.size; simp at h; exact h
          refine hK.out _ _ ((wmb.cell (p := ⟨p, 2, none⟩) hl0).trans v2) (fun hH2 => ?_)
          clear hK K
          try simp only [Act.put, List.setIfInBounds_toArray, List.set_cons_zero, List.set_cons_succ]
          refine wpAnyH_ready (rs := [7]) (by kernel_rfl) (by simp) ?_
          refine' AllReadyH.cons ?i7_24 (fun K hK => ?b7_24) AllReadyH.nil
          case i7_24 => (simp only [List.getElem?_toArray, List.getElem?_cons_zero, List.getElem?_cons_succ] <;> rfl)
          case b7_24 =>
            refine step_append_sl rfl _ _ rfl w4.heap.size _ (n + 1) b.sp A n cap rfl own1 rfl HNIL.out ((M.out.later wmb).sl) HN.out (by omega) ?_
            intro wa own2 gr
            have wab := wmb.grown gr (wmb.size) (fun k hk => (own1.lt k hk).1)
            have bk2 := (gr.block w4.drew.heap.size (by show w4.heap.size < wm.heap.size; omega) (fun e => by simp at e)).trans bk1
            refine hK.out _ _ ((wab.cell (p := ⟨p, 2, none⟩) hl0).trans v2) (fun hH3 => ?_)
            clear hK K
            try simp only [Act.put, List.setIfInBounds_toArray, List.set_cons_zero, List.set_cons_succ]
            refine wpAnyH_ready (rs := [10]) (by kernel_rfl) (by simp) ?_
            refine' AllReadyH.cons ?i10_25 (fun K hK => ?b10_25) AllReadyH.nil
            case i10_25 => (simp only [List.getElem?_toArray, List.getElem?_cons_zero, List.getElem?_cons_succ] <;> rfl)
            case b10_25 =>
              refine step_append_spare rfl _ _ 22 rfl w4.heap.size 29 i0 8 Try.underlying22 hi hz1 _ n (n + 1) (rowS b.sp) rfl own2 ⟨w4.drew.heap.size, 0, none⟩ 1 1 (spRow junkS) rfl rfl (junk_news bk2) (spRow_one junkS) (Nat.le_refl _) ?_
              intro we ownE gr
              have Be := wab.grown gr (wab.size) (fun k hk => (own2.lt k hk).1)
              refine hK.out _ _ ((Be.cell (p := ⟨p, 2, none⟩) hl0).trans v2) (fun hH5 => ?_)
              clear hK K
              try simp only [Act.put, List.setIfInBounds_toArray, List.set_cons_zero, List.set_cons_succ]
              have en := fun g (h : we.ownsRow w4.heap.size 29 8 (.slice (some ⟨g, 0, none⟩) (n + 1) (n + 1)) (n + 1) (rowS b.sp ++ spRow junkS)) => en_end (a := a) HX.out M.out BT.out HN.out Be h (Nat.le_refl _) HPS.out
              have en1 := en _ ownE
              have EN := Lib.hid en1
              have BTe := BT.out.later Be
              obtain ⟨s0, s1, s2⟩ := BTe.cell
              obtain ⟨f0, f1, f2⟩ := BTe.frees
              clear en en1 BTe ownE gr
              have hn1 : ¬ ((n : Int) + 1 < (n : Int)) := by omega
              have hn2 : ¬ ((n : Int) < 0) := by omega
              have hn3 : (n : Int) ≤ (n : Int) + 1 := by omega
              have hn4 : (0 : Int) ≤ (n : Int) := by omega
              refine' wpAnyH_take (i := 14) ?i14_26 ?s14_26 ?f14_26 ?r14_26 ?q14_26 ?y14_26 ?z14_26 ?t14_26
              case i14_26 => (simp only [List.getElem?_toArray, List.getElem?_cons_zero, List.getElem?_cons_succ] <;> rfl)
              case s14_26 => kernel_rfl
              case f14_26 => kernel_rfl
              case r14_26 => kernel_rfl
              case q14_26 => exact (fun _ _ _ h => h)
              case z14_26 => assumption
              case y14_26 => refine Or.inl ⟨by rfl, ?_⟩; intro w hSw; (try dsimp only at hSw); go_simp; (try with_reducible rfl)
              try simp only [Act.put, List.setIfInBounds_toArray, List.set_cons_zero, List.set_cons_succ]
              refine' wpAnyH_take (i := 15) ?i15_27 ?s15_27 ?f15_27 ?r15_27 ?q15_27 ?y15_27 ?z15_27 ?t15_27
              case i15_27 => (simp only [List.getElem?_toArray, List.getElem?_cons_zero, List.getElem?_cons_succ] <;> rfl)
              case s15_27 => kernel_rfl
              case f15_27 => kernel_rfl
              case r15_27 => kernel_rfl
              case q15_27 => exact (fun _ _ _ h => h)
              case z15_27 => assumption
              case y15_27 => refine Or.inl ⟨by rfl, ?_⟩; intro w hSw; (try dsimp only at hSw); go_simp; (try with_reducible rfl)
              try simp only [Act.put, List.setIfInBounds_toArray, List.set_cons_zero, List.set_cons_succ]
              refine wpAnyH_ready (rs := [16]) (by kernel_rfl) (by simp) ?_
              refine' AllReadyH.cons ?i16_28 (fun K hK => ?b16_28) AllReadyH.nil
              case i16_28 => (simp only [List.getElem?_toArray, List.getElem?_cons_zero, List.getElem?_cons_succ] <;> rfl)
              case b16_28 =>
                go_simp
                refine hK.out _ _ ?_ (fun hH6 => ?_)
                · exact (World.cell?_of_block (w := we) (Below.heap_setCell we _ _ _ hnp)).trans hH5
                clear hK K
                try simp only [Act.put, List.setIfInBounds_toArray, List.set_cons_zero, List.set_cons_succ]
                refine wpAnyH_done (by kernel_rfl) ?_ _
                refine NoPanic.normal ?_
                go_wp2_with fail
                go_meet
                exact ⟨rfl, _, Lib.hid (by have h := EN.out; simp only [World.size_drew, alloc_size] at h; exact h)⟩
    case rest =>
      obtain ⟨rfl, g, M⟩ := hcut
      have hHL := HL.out
      clear v0 v1 v2 t0 t1 t2 hl5 hl0 BT
      obtain ⟨t0, t1, t2⟩ := M.out.bt.cell
      go_wp2_with fail
      refine (CE.out _ _ (M.out.sl HN.out (by unfold maxLen; omega))).mono ?_
      rintro e w5 ⟨rfl, b5⟩
      have M := Lib.hid (M.out.later b5)
      clear b5 t0 t1 t2
      have hz := M.out.cu.ba.cell
      rw [HP.out] at hz
      obtain ⟨v0, v1, v2⟩ := hz
      go_wp2_with fail
      refine (CR.out _ _ M.out.cu.sl).mono ?_
      rintro e w6 ⟨rfl, b6⟩
      have M := Lib.hid (M.out.later b6)
      clear b6 v0 v1 v2
      have hz := cells3 M.out.cu.ak
      rw [HP.out] at hz
      obtain ⟨z0, z1, z2⟩ := hz
      go_wp2_with fail
      refine (CA.out _).mono ?_
      rintro e w7 ⟨rfl, b7⟩
      have M := Lib.hid (M.out.later b7)
      clear b7 z0 z1 z2
      have hz := cells3 M.out.cu.ak
      rw [HP.out] at hz
      obtain ⟨z0, z1, z2⟩ := hz
      go_wp2_with fail
      refine (CQ.out _).mono ?_
      rintro e w8 ⟨rfl, b8⟩
      have M := Lib.hid (M.out.later b8)
      clear b8 z0 z1 z2 CE CR CA CQ
      have hz := M.out.cu.ba.cell
      rw [HP.out] at hz
      obtain ⟨v0, v1, v2⟩ := hz
      obtain ⟨t0, t1, t2⟩ := M.out.bt.cell
      have hj := M.out.junk HN.out
      have SLT := Lib.hid (M.out.sl HN.out (by unfold maxLen; omega))
      have SLX := Lib.hid M.out.cu.sl
      have hl5 : p5 < w8.heap.size := M.out.bt.lt
      have hl0 : p < w8.heap.size := by have := M.out.cu.ba.lt; rwa [HP.out] at this
      have hlg : g < w8.heap.size := M.out.row.1
      have B := Lib.hid M.out.cu.bel
      have e1 : (S == S) = true := by simp
      have e2 : (E == E) = true := by simp
      have e3 : (T == T) = true := by simp
      have e4 : (I == I) = true := by simp
      have hn1 : (n : Int) ≤ (n : Int) + 1 := by omega
      have hn2 : (n : Int) < (n : Int) + 1 := by omega
      have hn3 : (0 : Int) ≤ (n : Int) + 1 := by omega
      have hn4 : ¬ ((n : Int) + 1 < 0) := by omega
      have hwr : IntKind.i64.wrap ((n : Int) + 1) = (n : Int) + 1 := by rw [IntKind.wrap_i64]; omega
      clear M
      go_upto_region 9 with fail
      go_region_held3 (fun W => W.cell? ⟨p, 0, none⟩ = some (.int .i64 b.ho) ∧ W.cell? ⟨p, 1, none⟩ = some (.int .i64 b.fi) ∧ W.cell? ⟨p, 2, none⟩ = some (.slice A n cap) ∧ W.cell? ⟨p5, 0, none⟩ = some (.int .i64 b.ho) ∧ W.cell? ⟨p5, 1, none⟩ = some (.int .i64 b.fi) ∧ W.cell? ⟨p5, 2, none⟩ = some (.slice (some ⟨g, 0, none⟩) n (n + 1)) ∧ W.cell? ⟨g, n * 8 + 1, none⟩ = some (.int .i64 (-70))) (go_keep)
        (first
          | (go_at_call 14; refine (CS.out _ _ _ (SLT.out.later (_root_.Go.below_drewN (Below.refl _ _) _)) (SLX.out.later (_root_.Go.below_drewN (Below.refl _ _) _))).mono ?_; rintro e w9 ⟨rfl, b9⟩; have BB := btP (_root_.Go.below_drewN B.out _) b9; have u0 := (b9.cell (p := ⟨p, 0, none⟩) (by assumption)).trans (by assumption); have u1 := (b9.cell (p := ⟨p, 1, none⟩) (by assumption)).trans (by assumption); have u2 := (b9.cell (p := ⟨p, 2, none⟩) (by assumption)).trans (by assumption); have u3 := (b9.cell (p := ⟨p5, 0, none⟩) (by assumption)).trans (by assumption); have u4 := (b9.cell (p := ⟨p5, 1, none⟩) (by assumption)).trans (by assumption); have u5 := (b9.cell (p := ⟨p5, 2, none⟩) (by assumption)).trans (by assumption); have u6 := (b9.cell (p := ⟨g, n * 8 + 1, none⟩) (by assumption)).trans (by assumption); have hl5 := Nat.lt_of_lt_of_le (by assumption : p5 < _) b9.size; have hl0 := Nat.lt_of_lt_of_le (by assumption : p < _) b9.size; have hlg := Nat.lt_of_lt_of_le (by assumption : g < _) b9.size)
          | (go_at_call 15; refine (CDO.out _).mono ?_; rintro e w10 ⟨rfl, b10⟩; have BB := btP BB b10; have u0 := (b10.cell (p := ⟨p, 0, none⟩) (by assumption)).trans (by assumption); have u1 := (b10.cell (p := ⟨p, 1, none⟩) (by assumption)).trans (by assumption); have u2 := (b10.cell (p := ⟨p, 2, none⟩) (by assumption)).trans (by assumption); have u3 := (b10.cell (p := ⟨p5, 0, none⟩) (by assumption)).trans (by assumption); have u4 := (b10.cell (p := ⟨p5, 1, none⟩) (by assumption)).trans (by assumption); have u5 := (b10.cell (p := ⟨p5, 2, none⟩) (by assumption)).trans (by assumption); have u6 := (b10.cell (p := ⟨g, n * 8 + 1, none⟩) (by assumption)).trans (by assumption)))
      go_wp2_with fail
      go_ret
      exact ⟨rfl, by have h := BB; rwa [HP.out] at h⟩
end Go.Proofs.Ytheeekmhmbkncaa
