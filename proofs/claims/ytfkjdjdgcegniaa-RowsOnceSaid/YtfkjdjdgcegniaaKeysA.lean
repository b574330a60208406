/- The walks of keys: the keys of spans' cells, stretches. -/
import Derived.Test.YtfkjdjdgcegniaaIntsG
import Derived.Test.YtfkjdjdgcegniaaSpansK
import Derived.Test.YtfkjdjdgcegniaaKeys0
import Derived.Deep.RegionHeld3
import Derived.Deep.DeepCutAuto
namespace Go.Proofs.Ytfkjdjdgcegniaa
set_option maxRecDepth 16000
open Go.RowKit Spoor

/-- numbers, put big, one behind the other -/
def bigs (ns : List Nat) : List UInt8 := (ns.map big).flatten
theorem bigs_snoc (ns : List Nat) (n : Nat) : bigs (ns ++ [n]) = bigs ns ++ big n := by simp [bigs]
theorem bigs_length (ns : List Nat) : (bigs ns).length = 8 * ns.length := by
  induction ns with
  | nil => rfl
  | cons n ns ih =>
    have : bigs (n :: ns) = big n ++ bigs ns := by simp [bigs]
    rw [this, List.length_append, big_length, ih, List.length_cons]
    omega
theorem bigs_take (ns : List Nat) (k : Nat) (h : k < ns.length) : bigs (ns.take (k + 1)) = bigs (ns.take k) ++ big (ns.getD k 0) := by
  rw [List.take_succ_eq_append_getElem h, bigs_snoc]
  simp [List.getD, h]

theorem big_ints (g : Nat) (ns : List Nat) (n : Nat) (w : World) (hl : ns.length = n) (hl3 : n ≤ 3) (hn : ∀ i, i < n → ns.getD i 0 ≤ 9223372036854775807) (hg : g < w.heap.size)
    (hc : ∀ i, i < n → w.cell? ⟨g, i, none⟩ = some (.int .i64 ((ns.getD i 0 : Nat) : Int))) :
    Calls Try.prog 67 #[.slice (some ⟨g, 0, none⟩) n n] w fun e w' => e = .returned (.string ⟨(bigs ns).toArray⟩) ∧ Below w.heap.size w w' := by
  have HL := Lib.hid hl
  have HC := Lib.hid hc
  have HN := Lib.hid hn
  clear hl hc hn
  go_enter Try.func67, Try.ntmps67
  go_wp2_with fail
  go_loopw [3, 5, 8] (fun s x i wr => ∃ k : Nat, k ≤ n ∧ i = .int .i64 k ∧ s = .string ⟨(bigs (ns.take k)).toArray⟩ ∧ Below w.heap.size w wr) (fun _ _ i _ => n - (intOf i).toNat)
  case atStart => exact ⟨0, by omega, rfl, rfl, Below.refl _ _⟩
  case round =>
    obtain ⟨k, hk, rfl, rfl, hb⟩ := hrel
    by_cases hlt : k < n
    · have hck := (hb.cell (p := ⟨g, k, none⟩) hg).trans (HC.out k hlt)
      have h63 := HN.out k hlt
      have hcb := fun W => big_nat (ns.getD k 0) W h63
      have HB := Lib.hid hcb
      have hlen : (bigs (ns.take k)).length ≤ 24 := by rw [bigs_length, List.length_take]; omega
      have hlen2 : (big (ns.getD k 0)).length ≤ 8 := by rw [big_length]; omega
      have HT := Lib.hid (bigs_take ns k (by rw [HL.out]; exact hlt))
      clear hcb h63
      generalize ns.getD k 0 = d at *
      generalize bigs (ns.take k) = A at *
      go_wp2_with fail
      refine (HB.out _).mono ?_
      rintro e w1 ⟨rfl, b1⟩
      go_wp2_with fail
      go_roundw
      case rel => exact ⟨k + 1, by omega, by go_num, by rw [HT.out, str_add], bt hb b1⟩
      case measure => simp [intOf]; omega
    · obtain rfl : k = n := by omega
      go_wp2_with fail
      go_ret
      exact ⟨by rw [List.take_of_length_le (by rw [HL.out]; exact Nat.le_refl _)]; rfl, hb⟩

theorem str_add_cons (c : UInt8) (l : List UInt8) : (⟨(c :: l).toArray⟩ : ByteArray) = ⟨#[c]⟩ ++ ⟨l.toArray⟩ := (ByteArray.mk_append_mk [c] l).symm
theorem new_cell {W : World} {cs : Array Value} {t : TypeId} {i g : Nat} {v : Value} (hg : g = W.heap.size) (h : cs[i]? = some v) : (W.alloc (.cells cs t)).cell? ⟨g, i, none⟩ = some v := by
  subst hg
  rw [cell_of_row _ _ _ _ _ _ (heap_alloc_new W _)]
  exact h
theorem big_le (n : Nat) : (big n).length ≤ 8 := by rw [big_length]; omega
theorem bcell {W w1 : World} (hb : Below W.heap.size W w1) : (∀ b o, b < W.heap.size → w1.cell? ⟨b, o, none⟩ = W.cell? ⟨b, o, none⟩) ∧ (∀ b o, b < W.heap.size → w1.frozen? ⟨b, o, none⟩ = W.frozen? ⟨b, o, none⟩) :=
  ⟨fun b o h => hb.cell (p := ⟨b, o, none⟩) h, fun b o h => hb.frozen (p := ⟨b, o, none⟩) h⟩
theorem add_str (a b : List UInt8) (h : a.length + b.length ≤ 9223372036854775807) (W : World) : (binOp .add 9 (.string ⟨a.toArray⟩) (.string ⟨b.toArray⟩)).run Try.prog W = .ok (.string ⟨(a ++ b).toArray⟩) W := by
  rw [← str_add]
  go_simp
theorem toNat_i {a : Int} (h : 0 ≤ a) : ((a.toNat : Nat) : Int) = a := by omega
theorem big_one (g : Nat) (a : Int) (w : World) (ha : 0 ≤ a) (ha' : a ≤ 9223372036854775807) (hg : g < w.heap.size) (h0 : w.cell? ⟨g, 0, none⟩ = some (.int .i64 a)) :
    Calls Try.prog 67 #[.slice (some ⟨g, 0, none⟩) 1 1] w fun e w' => e = .returned (.string ⟨(big a.toNat).toArray⟩) ∧ Below w.heap.size w w' := by
  have h := big_ints g [a.toNat] 1 w rfl (by omega) (fun i hi => by match i, hi with | 0, _ => simp; omega) hg (fun i hi => by match i, hi with | 0, _ => simp only [List.getD_cons_zero]; rw [h0, toNat_i ha])
  simpa [bigs] using h
theorem big_two (g : Nat) (a b : Int) (w : World) (ha : 0 ≤ a) (ha' : a ≤ 9223372036854775807) (hb : 0 ≤ b) (hb' : b ≤ 9223372036854775807) (hg : g < w.heap.size) (h0 : w.cell? ⟨g, 0, none⟩ = some (.int .i64 a)) (h1 : w.cell? ⟨g, 1, none⟩ = some (.int .i64 b)) :
    Calls Try.prog 67 #[.slice (some ⟨g, 0, none⟩) 2 2] w fun e w' => e = .returned (.string ⟨(big a.toNat ++ big b.toNat).toArray⟩) ∧ Below w.heap.size w w' := by
  have h := big_ints g [a.toNat, b.toNat] 2 w rfl (by omega) (fun i hi => by match i, hi with | 0, _ => simp; omega | 1, _ => simp; omega) hg (fun i hi => by match i, hi with | 0, _ => simp only [List.getD_cons_zero]; rw [h0, toNat_i ha] | 1, _ => simp only [List.getD_cons_succ, List.getD_cons_zero]; rw [h1, toNat_i hb])
  simpa [bigs] using h
theorem big_three (g : Nat) (a b c : Int) (w : World) (ha : 0 ≤ a) (ha' : a ≤ 9223372036854775807) (hb : 0 ≤ b) (hb' : b ≤ 9223372036854775807) (hc : 0 ≤ c) (hc' : c ≤ 9223372036854775807) (hg : g < w.heap.size) (h0 : w.cell? ⟨g, 0, none⟩ = some (.int .i64 a)) (h1 : w.cell? ⟨g, 1, none⟩ = some (.int .i64 b)) (h2 : w.cell? ⟨g, 2, none⟩ = some (.int .i64 c)) :
    Calls Try.prog 67 #[.slice (some ⟨g, 0, none⟩) 3 3] w fun e w' => e = .returned (.string ⟨(big a.toNat ++ (big b.toNat ++ big c.toNat)).toArray⟩) ∧ Below w.heap.size w w' := by
  have h := big_ints g [a.toNat, b.toNat, c.toNat] 3 w rfl (by omega) (fun i hi => by match i, hi with | 0, _ => simp; omega | 1, _ => simp; omega | 2, _ => simp; omega) hg (fun i hi => by match i, hi with | 0, _ => simp only [List.getD_cons_zero]; rw [h0, toNat_i ha] | 1, _ => simp only [List.getD_cons_succ, List.getD_cons_zero]; rw [h1, toNat_i hb] | 2, _ => simp only [List.getD_cons_succ, List.getD_cons_zero]; rw [h2, toNat_i hc])
  simpa [bigs] using h
/-- parts as a value -/
def kpVal (p : KP) : Value := .agg #[.int .u8 p.kind, .int .i64 p.tr, .int .i64 p.id, .int .i64 p.st, .string ⟨p.sv.toArray⟩, .string ⟨p.ho.toArray⟩]
def likeOf (p : KP) : Sp := ⟨p.tr, p.id, 0, p.sv, p.ho, p.st, 0, []⟩
theorem like_any (p : KP) (w : World) :
    Calls Try.prog 66 #[kpVal p] w fun e w' => e = .returned (spVal (likeOf p)) ∧ Below w.heap.size w w' := by
  unfold kpVal spVal likeOf
  go_enter Try.func66, Try.ntmps66
  go_wp2_with fail
  exact bodyPost_ret (v := spVal (likeOf p)) (by simp [results, spVal, likeOf, Try.results66, go_sem]) rfl ⟨rfl, below_new2' _ _⟩

/-- parts lie in a block -/
def PtAt (b : Nat) (p : KP) (w : World) : Prop := w.heap[b]? = some (.cells #[.int .u8 p.kind, .int .i64 p.tr, .int .i64 p.id, .int .i64 p.st, .string ⟨p.sv.toArray⟩, .string ⟨p.ho.toArray⟩] 65 (0, 0))
theorem PtAt.cell {b : Nat} {p : KP} {w : World} (h : PtAt b p w) : w.cell? ⟨b, 0, none⟩ = some (.int .u8 p.kind) ∧ w.cell? ⟨b, 1, none⟩ = some (.int .i64 p.tr) ∧ w.cell? ⟨b, 2, none⟩ = some (.int .i64 p.id) ∧
    w.cell? ⟨b, 3, none⟩ = some (.int .i64 p.st) ∧ w.cell? ⟨b, 4, none⟩ = some (.string ⟨p.sv.toArray⟩) ∧ w.cell? ⟨b, 5, none⟩ = some (.string ⟨p.ho.toArray⟩) := by
  refine ⟨?_, ?_, ?_, ?_, ?_, ?_⟩ <;> (rw [cell_of_row w b _ _ _ _ h]; rfl)
theorem PtAt.later {B b : Nat} {p : KP} {w w' : World} (h : PtAt b p w) (hb : Below B w w') (hlt : b < B) : PtAt b p w' := by
  unfold PtAt; rw [hb.block b hlt]; exact h
theorem PtAt.lt {b : Nat} {p : KP} {w : World} (h : PtAt b p w) : b < w.heap.size := (Array.getElem?_eq_some_iff.1 h).1
def boxK (p : KP) : Obj := .cells #[.int .u8 p.kind, .int .i64 p.tr, .int .i64 p.id, .int .i64 p.st, .string ⟨p.sv.toArray⟩, .string ⟨p.ho.toArray⟩] 65
theorem PtAt.boxed (p : KP) (w : World) : PtAt w.heap.size p (w.alloc (boxK p)) := heap_alloc_new w _
theorem PtAt.alloc' {b : Nat} {p : KP} {w : World} (h : PtAt b p w) (o : Obj) : PtAt b p (w.alloc o) := (Below.heap_alloc w o b h.lt).trans h
def FitsK (p : KP) : Prop := p.sv.length ≤ 140737488351232 ∧ p.ho.length ≤ 140737488351232
/-- what key tells -/
def keyV : Option (List UInt8) → Value
  | none => .tuple #[.string ⟨#[]⟩, .bool false]
  | some l => .tuple #[.string ⟨l.toArray⟩, .bool true]
def boxS (x : Sp) : Obj := .cells #[.int .i64 x.tr, .int .i64 x.id, .int .i64 x.pa, .string ⟨x.sv.toArray⟩, .string ⟨x.ho.toArray⟩, .int .i64 x.st, .int .i64 x.du, .string ⟨x.no.toArray⟩] 23
theorem SpAt.names {b : Nat} {x : Sp} {w : World} (h : SpAt b x w) (u v : List UInt8) : SpAt b ⟨x.tr, x.id, x.pa, u, v, x.st, x.du, x.no⟩ ((w.setCell ⟨b, 3, none⟩ (.string ⟨u.toArray⟩)).setCell ⟨b, 4, none⟩ (.string ⟨v.toArray⟩)) := by
  have h1 := heap_setCell_same w b 3 _ _ (.string ⟨u.toArray⟩) h
  have h2 := heap_setCell_same _ b 4 _ _ (.string ⟨v.toArray⟩) h1
  unfold SpAt
  rw [h2]
  rfl
theorem key_s (p : KP) (w : World) (hk : p.kind = 115) :
    Calls Try.prog 48 #[kpVal p] w fun e w' => e = .returned (keyV p.key) ∧ Below w.heap.size w w' := by
  have cl := fun W => like_any p W
  have ck := fun W => check_any ⟨p.tr, p.id, 0, [115], [115], p.st, 0, []⟩ W ⟨by simp, by simp, by simp⟩
  have q1 := PtAt.boxed p w
  have b1 := (Below.refl w.heap.size w).alloc (Nat.le_refl _) (boxK p)
  have hkb : ((p.kind : Int) == 115) = true := by rw [hk]; rfl
  have hix : ∀ W, (Instr.index 9 (.string ⟨#[115]⟩) (.int .i64 0)).run Try.prog W = .ok (.int .u8 115) W := fun _ => by kernel_rfl
  have hkey : p.key = if (⟨p.tr, p.id, 0, [115], [115], p.st, 0, []⟩ : Sp).ok = true then some (sKey p.tr p.id) else none := by
    unfold KP.key KP.like
    simp only [hk, if_true]
  have hb : (⟨p.tr, p.id, 0, [115], [115], p.st, 0, []⟩ : Sp).ok = true → (1 ≤ p.tr ∧ p.tr ≤ 2147483647) ∧ (1 ≤ p.id ∧ p.id ≤ 2147483647) := fun h => ⟨(ok_of h).1, (ok_of h).2.1⟩
  unfold checkV at ck
  generalize (⟨p.tr, p.id, 0, [115], [115], p.st, 0, []⟩ : Sp).ok = B at *
  unfold likeOf at cl
  try dsimp only at cl
  unfold kpVal boxK spVal at *
  try dsimp only at cl ck
  have CL := Lib.hid cl
  have CK := Lib.hid ck
  have HK := Lib.hid hkey
  have HB := Lib.hid hb
  clear hk cl ck hkey hb
  go_enter Try.func48, Try.ntmps48
  go_wp2_with fail
  generalize w.alloc _ = w1 at *
  have l1 := q1.lt
  obtain ⟨a0, a1, a2, a3, a4, a5⟩ := q1.cell
  go_wp2_with fail
  refine (CL.out _).mono ?_
  rintro e w2 ⟨rfl, b2⟩
  have q1 := (q1.later b2 l1).alloc' (boxS ⟨p.tr, p.id, 0, p.sv, p.ho, p.st, 0, []⟩)
  have q2 := SpAt.boxed ⟨p.tr, p.id, 0, p.sv, p.ho, p.st, 0, []⟩ w2
  have b3 := (bt b1 b2).alloc (bt b1 b2).size (boxS ⟨p.tr, p.id, 0, p.sv, p.ho, p.st, 0, []⟩)
  have ls := (bt b1 b2).size
  unfold boxS at q1 b3
  try dsimp only at q1 q2 b3
  clear a0 a1 a2 a3 a4 a5
  have hne : w.heap.size ≠ w2.heap.size := fun e => by have := b2.size; rw [e] at l1; omega
  go_upto_region 2 with fail
  generalize w2.heap.size = sp at *
  generalize w2.alloc _ = w3 at *
  obtain ⟨a0, a1, a2, a3, a4, a5⟩ := q1.cell
  obtain ⟨d0, d1, d2, d3, d4, d5, d6, d7⟩ := q2.cell
  obtain ⟨f0, f1, f2, f3, f4, f5, f6, f7⟩ := q2.frees
  try dsimp only at d0 d1 d2 d3 d4 d5 d6 d7
  go_quiet (fail)
  go_upto_region 4 with fail
  have q3 := q2.names (w := w3.drewN nq) [115] [115]
  have b4 := ((_root_.Go.below_drewN b3 nq).setCell (p := ⟨sp, 3, none⟩) ls (.string ⟨[115].toArray⟩)).setCell (p := ⟨sp, 4, none⟩) ls (.string ⟨[115].toArray⟩)
  have q4 : PtAt w.heap.size p (((w3.drewN nq).setCell ⟨sp, 3, none⟩ (.string ⟨[115].toArray⟩)).setCell ⟨sp, 4, none⟩ (.string ⟨[115].toArray⟩)) := block_set (block_set q1 hne) hne
  try dsimp only at q3
  clear a0 a1 a2 a3 a4 a5 d0 d1 d2 d3 d4 d5 d6 d7 f0 f1 f2 f3 f4 f5 f6 f7
  generalize World.setCell (World.setCell _ _ _) _ _ = w4 at *
  obtain ⟨a0, a1, a2, a3, a4, a5⟩ := q4.cell
  obtain ⟨d0, d1, d2, d3, d4, d5, d6, d7⟩ := q3.cell
  have l4 := q4.lt
  try dsimp only at d0 d1 d2 d3 d4 d5 d6 d7
  cases B with
  | false =>
    go_wp2_with fail
    refine (CK.out _).mono ?_
    rintro e w5 ⟨rfl, b5⟩
    go_wp2_with fail
    go_ret2
    exact ⟨ret1 (by rw [HK.out]; rfl), bt b4 b5⟩
  | true =>
    go_wp2_with fail
    refine (CK.out _).mono ?_
    rintro e w5 ⟨rfl, b5⟩
    have q5 := q4.later b5 l4
    have b6 := bt b4 b5
    obtain ⟨⟨g1, g2⟩, g3, g4⟩ := HB.out (by first | rfl | trivial)
    clear a0 a1 a2 a3 a4 a5 d0 d1 d2 d3 d4 d5 d6 d7
    obtain ⟨a0, a1, a2, a3, a4, a5⟩ := q5.cell
    go_upto_region 6 with fail
    go_quiet (fail)
    go_wp2_with fail
    refine (big_two _ p.tr p.id _ (by omega) (by omega) (by omega) (by omega) (by simp) (new_cell rfl rfl) (new_cell rfl rfl)).mono ?_
    rintro e w6 ⟨rfl, b7⟩
    have l8 := big_le p.tr.toNat
    have l9 := big_le p.id.toNat
    have b8 := bt ((_root_.Go.below_drewN b6 nq).alloc (_root_.Go.below_drewN b6 nq).size _) b7
    go_wp2_with fail
    go_ret2
    exact ⟨ret1 (by have h := HK.out; simp only [if_true] at h; rw [h, keyV, sKey, str_add_cons]; rfl), b8⟩

theorem xKey_bytes (sv ho : List UInt8) (st tr id : Int) : (⟨(xKey sv ho st tr id).toArray⟩ : ByteArray) = ⟨#[120]⟩ ++ ⟨sv.toArray⟩ ++ ⟨#[0]⟩ ++ ⟨ho.toArray⟩ ++ ⟨#[0]⟩ ++ ⟨(big st.toNat ++ (big tr.toNat ++ big id.toNat)).toArray⟩ := by
  rw [str_add [120] sv, str_add _ [0], str_add _ ho, str_add _ [0], str_add]
  simp [xKey]
theorem key_x (p : KP) (w : World) (hk : p.kind ≠ 115) (hf : FitsK p) :
    Calls Try.prog 48 #[kpVal p] w fun e w' => e = .returned (keyV p.key) ∧ Below w.heap.size w w' := by
  have cl := fun W => like_any p W
  have ck := fun W => check_any ⟨p.tr, p.id, 0, p.sv, p.ho, p.st, 0, []⟩ W ⟨hf.1, hf.2, by simp⟩
  have q1 := PtAt.boxed p w
  have b1 := (Below.refl w.heap.size w).alloc (Nat.le_refl _) (boxK p)
  have hkb : ((p.kind : Int) == 115) = false := by rw [beq_eq_false_iff_ne]; omega
  have hix : ∀ W, (Instr.index 9 (.string ⟨#[115]⟩) (.int .i64 0)).run Try.prog W = .ok (.int .u8 115) W := fun _ => by kernel_rfl
  have hkey : p.key = if (⟨p.tr, p.id, 0, p.sv, p.ho, p.st, 0, []⟩ : Sp).ok = true then some (xKey p.sv p.ho p.st p.tr p.id) else none := by
    unfold KP.key KP.like
    simp only [hk, if_false]
  have hb : (⟨p.tr, p.id, 0, p.sv, p.ho, p.st, 0, []⟩ : Sp).ok = true → (1 ≤ p.tr ∧ p.tr ≤ 2147483647) ∧ (1 ≤ p.id ∧ p.id ≤ 2147483647) ∧ (0 ≤ p.st ∧ p.st ≤ 1073741824) ∧ p.sv.length ≤ 12 ∧ p.ho.length ≤ 12 := fun h => ⟨(ok_of h).1, (ok_of h).2.1, (ok_of h).2.2.2.1, (nameOk_of (ok_of h).2.2.2.2.2.1).2, (nameOk_of (ok_of h).2.2.2.2.2.2.1).2⟩
  unfold checkV at ck
  generalize (⟨p.tr, p.id, 0, p.sv, p.ho, p.st, 0, []⟩ : Sp).ok = B at *
  unfold likeOf at cl
  try dsimp only at cl
  unfold kpVal boxK spVal at *
  try dsimp only at cl ck
  have CL := Lib.hid cl
  have CK := Lib.hid ck
  have HK := Lib.hid hkey
  have HB := Lib.hid hb
  clear hk cl ck hkey hb hf
  go_enter Try.func48, Try.ntmps48
  go_wp2_with fail
  generalize w.alloc _ = w1 at *
  have l1 := q1.lt
  obtain ⟨a0, a1, a2, a3, a4, a5⟩ := q1.cell
  go_wp2_with fail
  refine (CL.out _).mono ?_
  rintro e w2 ⟨rfl, b2⟩
  have q1 := (q1.later b2 l1).alloc' (boxS ⟨p.tr, p.id, 0, p.sv, p.ho, p.st, 0, []⟩)
  have q2 := SpAt.boxed ⟨p.tr, p.id, 0, p.sv, p.ho, p.st, 0, []⟩ w2
  have b3 := (bt b1 b2).alloc (bt b1 b2).size (boxS ⟨p.tr, p.id, 0, p.sv, p.ho, p.st, 0, []⟩)
  unfold boxS at q1 b3
  try dsimp only at q1 q2 b3
  clear a0 a1 a2 a3 a4 a5
  go_upto_region 2 with fail
  generalize w2.heap.size = sp at *
  generalize w2.alloc _ = w3 at *
  have l3 := q1.lt
  obtain ⟨a0, a1, a2, a3, a4, a5⟩ := q1.cell
  obtain ⟨d0, d1, d2, d3, d4, d5, d6, d7⟩ := q2.cell
  try dsimp only at d0 d1 d2 d3 d4 d5 d6 d7
  go_quiet (fail)
  go_upto_region 4 with fail
  cases B with
  | false =>
    go_wp2_with fail
    refine (CK.out _).mono ?_
    rintro e w5 ⟨rfl, b5⟩
    go_wp2_with fail
    go_ret2
    exact ⟨ret1 (by rw [HK.out]; rfl), bt (_root_.Go.below_drewN b3 _) b5⟩
  | true =>
    go_wp2_with fail
    refine (CK.out _).mono ?_
    rintro e w5 ⟨rfl, b5⟩
    have q5 : PtAt w.heap.size p w5 := q1.later (w' := w5) (B := w3.heap.size) (by exact ((_root_.Go.below_drewN (Below.refl _ _) _).trans b5)) l3
    have b6 := bt (_root_.Go.below_drewN b3 nq) b5
    obtain ⟨⟨g1, g2⟩, ⟨g3, g4⟩, ⟨g5, g6⟩, g7, g8⟩ := HB.out (by first | rfl | trivial)
    clear a0 a1 a2 a3 a4 a5 d0 d1 d2 d3 d4 d5 d6 d7
    obtain ⟨a0, a1, a2, a3, a4, a5⟩ := q5.cell
    have l5 := q5.lt
    go_upto_region 6 with fail
    go_quiet (fail)
    have l7 := big_le p.st.toNat
    have l8 := big_le p.tr.toNat
    have l9 := big_le p.id.toNat
    have l10 : w.heap.size < w5.heap.size + 1 := by omega
    have s1 : ¬ 9223372036854775807 < 1 + p.sv.length := by omega
    have s2 : ¬ 9223372036854775807 < 1 + p.sv.length + 1 := by omega
    have s3 : ¬ 9223372036854775807 < 1 + p.sv.length + 1 + p.ho.length := by omega
    have s4 : ¬ 9223372036854775807 < 1 + p.sv.length + 1 + p.ho.length + 1 := by omega
    have s5 : ¬ 9223372036854775807 < 1 + p.sv.length + 1 + p.ho.length + 1 + ((big p.st.toNat).length + ((big p.tr.toNat).length + (big p.id.toNat).length)) := by omega
    go_upto_region 8 with fail
    go_region_held3 (fun W => W.cell? ⟨w.heap.size, 1, none⟩ = some (.int .i64 p.tr) ∧ W.cell? ⟨w.heap.size, 2, none⟩ = some (.int .i64 p.id) ∧ W.cell? ⟨w.heap.size, 3, none⟩ = some (.int .i64 p.st) ∧ W.cell? ⟨w.heap.size, 4, none⟩ = some (.string ⟨p.sv.toArray⟩) ∧ W.cell? ⟨w.heap.size, 5, none⟩ = some (.string ⟨p.ho.toArray⟩)) (go_keep)
      (first | (go_at_call 67; refine (big_three _ p.st p.tr p.id _ (by omega) (by omega) (by omega) (by omega) (by omega) (by omega) (by simp) (new_cell rfl rfl) (new_cell rfl rfl) (new_cell rfl rfl)).mono ?_; rintro e w6 ⟨rfl, b7⟩; obtain ⟨hcl, hfr⟩ := bcell b7))
    have b8 := bt ((_root_.Go.below_drewN b6 _).alloc (_root_.Go.below_drewN b6 _).size _) b7
    go_wp2_with fail
    go_ret2
    refine ⟨ret1 ?_, b8⟩
    have h := HK.out
    simp only [if_true] at h
    rw [h, keyV, xKey_bytes]
    rfl
end Go.Proofs.Ytfkjdjdgcegniaa
