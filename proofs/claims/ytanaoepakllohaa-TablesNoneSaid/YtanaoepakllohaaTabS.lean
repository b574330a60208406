/- does: some of the chapter's examples. -/
import Derived.Test.YtanaoepakllohaaTabR
namespace Go.Proofs.Ytanaoepakllohaa
set_option maxRecDepth 16000
open Go.RowKit Spoor
set_option linter.unusedVariables false

theorem openT_some {text : List UInt8} {gs : List (List Ce)} (h : openT text = some gs) (w : World) (hl : text.length ≤ 1000000) : Calls Try.prog 17 #[.string ⟨text.toArray⟩] w fun e w' => Below w.heap.size w w' ∧ ∃ t, e = .returned (.tuple #[.pointer (some ⟨t, 0, none⟩), .int .i64 0]) ∧ TabAt t gs w' :=
  (openT_any text w hl).mono fun e w' ⟨hb, hh⟩ => by
    rcases hh with ⟨h1, -⟩ | ⟨gs', t, h1, rfl, ht⟩
    · rw [h] at h1; cases h1
    · rw [h] at h1; cases h1
      exact ⟨hb, t, rfl, ht⟩
theorem openT_none {text : List UInt8} (h : openT text = none) (w : World) (hl : text.length ≤ 1000000) : Calls Try.prog 17 #[.string ⟨text.toArray⟩] w fun e w' => e = .returned (.tuple #[.pointer none, .int .i64 30]) ∧ Below w.heap.size w w' :=
  (openT_any text w hl).mono fun e w' ⟨hb, hh⟩ => by
    rcases hh with ⟨-, rfl⟩ | ⟨gs', t, h1, -, -⟩
    · exact ⟨rfl, hb⟩
    · rw [h] at h1; cases h1
/-- the examples' cells -/
def tri : List Ce := [⟨[97], 2, []⟩, ⟨[97], 1, []⟩, ⟨[98], 5, []⟩]
theorem tri_sorted : sortedB tri = true := by decide
theorem tri_fits : ∀ c ∈ tri, FitsC c := by
  intro c hc
  simp only [tri, List.mem_cons, List.not_mem_nil, or_false] at hc
  rcases hc with rfl | rfl | rfl <;> exact ⟨by simp, by simp, by simp⟩
theorem tri_q : ∀ c ∈ tri, c.q ≤ 9223372036854775807 := by
  intro c hc
  simp only [tri, List.mem_cons, List.not_mem_nil, or_false] at hc
  rcases hc with rfl | rfl | rfl <;> simp
theorem tri_fours : fours tri = [tri] := by rfl
theorem tri_rise : Rise [tri].flatten := (sorted_rise.1 tri_sorted).1
theorem tri_open : openT (tableB tri) = some [tri] := by rw [open_build tri_sorted (by simp [tri]) tri_q, tri_fours]
theorem tri_len : (tableB tri).length ≤ 1000000 := by
  have := (table_len tri_sorted tri_q (by simp [tri])).2.2
  have e : tri.length = 3 := rfl
  rw [e] at this
  omega
theorem nil_sorted : sortedB [] = true := by decide
def noneS : List UInt8 := [0, 0, 1, 0, 1, 0, 0, 0, 0, 0, 0, 0, 0, 0, 0, 0, 0, 0, 0, 0, 0, 115, 112, 111, 111, 114]
theorem none_table : tableB [] = noneS := by
  have e : indexG (fours []) = [0] := by
    show put 0 ++ [] = [0]
    rw [put_small 0 (by omega)]
    rfl
  unfold tableB tableG
  rw [e]
  rfl
theorem none_build : buildV [] = .tuple #[.string ⟨noneS.toArray⟩, .int .i64 0] := by
  unfold buildV
  rw [if_pos nil_sorted, if_neg (by simp), none_table]
theorem tri_build : buildV tri = .tuple #[.string ⟨(tableB tri).toArray⟩, .int .i64 0] := by
  unfold buildV
  rw [if_pos tri_sorted, if_neg (by simp [tri])]
theorem none_cut : openT (noneS.take 25) = none := by
  rw [← none_table]
  exact torn_cut nil_sorted (by simp) (by simp) (by rw [none_table]; decide)
def TriAt (g : Nat) (w : World) : Prop := w.heap[g]? = some (.cells #[.string ⟨#[97]⟩, .int .i64 2, .string ⟨#[]⟩, .string ⟨#[97]⟩, .int .i64 1, .string ⟨#[]⟩, .string ⟨#[98]⟩, .int .i64 5, .string ⟨#[]⟩] 36 (0, 0))
theorem TriAt.row {g : Nat} {w : World} (h : TriAt g w) : RowAt g 0 tri w := by
  refine ⟨(Array.getElem?_eq_some_iff.1 h).1, fun i hi j v hv => ?_⟩
  rw [cell_of_row w g _ _ _ _ h]
  have hi' : i < 3 := hi
  have hj : j < 3 := by
    have := (List.getElem?_eq_some_iff.1 hv).1
    simpa [ceRow] using this
  rcases (by omega : i = 0 ∨ i = 1 ∨ i = 2) with rfl | rfl | rfl <;> rcases (by omega : j = 0 ∨ j = 1 ∨ j = 2) with rfl | rfl | rfl <;> simpa [tri, ceRow] using hv
theorem TriAt.later {g : Nat} {w w' : World} (h : TriAt g w) (hb : Below w.heap.size w w') : TriAt g w' := (hb.block g (Array.getElem?_eq_some_iff.1 h).1).trans h
theorem TriAt.cell {g : Nat} {w : World} (h : TriAt g w) : w.cell? ⟨g, 0, none⟩ = some (.string ⟨#[97]⟩) ∧ w.cell? ⟨g, 1, none⟩ = some (.int .i64 2) ∧ w.cell? ⟨g, 2, none⟩ = some (.string ⟨#[]⟩) := by
  refine ⟨?_, ?_, ?_⟩ <;> (rw [cell_of_row w g _ _ _ _ h]; rfl)
theorem TriAt.sl {g : Nat} {w : World} (h : TriAt g w) : SlAt (.slice (some ⟨g, 0, none⟩) 3 3) tri w := h.row.sl rfl (by omega) (by unfold maxLen; omega)
theorem MonoR.sl (l : List Ce) : MonoR (fun v w => SlAt v l w) := fun _ _ _ hb h => h.later hb
theorem slAt_nil (w : World) : SlAt (.slice none 0 0) [] w := ⟨none, 0, rfl, by simp, by unfold maxLen; omega, fun h => by simp at h⟩
def zeros16 : Obj := .cells #[.int .u8 0, .int .u8 0, .int .u8 0, .int .u8 0, .int .u8 0, .int .u8 0, .int .u8 0, .int .u8 0, .int .u8 0, .int .u8 0, .int .u8 0, .int .u8 0, .int .u8 0, .int .u8 0, .int .u8 0, .int .u8 0] 5
theorem make16 (W : World) : (Instr.makeSlice 60 (.int .i64 16) (.int .i64 16)).run Try.prog W = .ok (.slice (some ⟨W.heap.size, 0, none⟩) 16 16) (W.alloc zeros16) := by
  obtain ⟨i0, hi, hz0, hz1, hz2⟩ := info_parts info_u8
  have h := run_make W 60 5 i0 (.int .u8 0) Try.underlying60 hi hz0 .i64 .i64 16 16 (by omega) (by omega) (by rw [hz2]; decide) (by omega)
  rw [hz1] at h
  exact h.trans (by kernel_rfl)
theorem conv16 (W : World) : (convert 60 9 (.slice (some ⟨W.heap.size, 0, none⟩) 16 16)).run Try.prog (W.alloc zeros16) = .ok (.string ⟨#[0, 0, 0, 0, 0, 0, 0, 0, 0, 0, 0, 0, 0, 0, 0, 0]⟩) (W.alloc zeros16) :=
  run_convert_bytes_arg (P := Try.prog) (W.alloc zeros16) _ _ Try.underlying60 Try.underlying5 W.heap.size 0 16 16 [0, 0, 0, 0, 0, 0, 0, 0, 0, 0, 0, 0, 0, 0, 0, 0] rfl (fun i hi => by
    have e : (W.alloc zeros16).heap[W.heap.size]? = some zeros16 := heap_alloc_new W _
    simp only [World.cell?, e, Nat.zero_add]
    rcases (by omega : i = 0 ∨ i = 1 ∨ i = 2 ∨ i = 3 ∨ i = 4 ∨ i = 5 ∨ i = 6 ∨ i = 7 ∨ i = 8 ∨ i = 9 ∨ i = 10 ∨ i = 11 ∨ i = 12 ∨ i = 13 ∨ i = 14 ∨ i = 15) with rfl | rfl | rfl | rfl | rfl | rfl | rfl | rfl | rfl | rfl | rfl | rfl | rfl | rfl | rfl | rfl <;> rfl) _ Try.underlying9
set_option maxRecDepth 100000 in
set_option maxHeartbeats 16000000 in
theorem tdoes_true (w : World) : Calls Try.prog 16 #[] w fun e w' => e = .returned (.bool true) ∧ Below w.heap.size w w' := by
  have c0 := fun W => buildT_any (.slice none 0 0) [] W (slAt_nil W) (by simp) (by simp)
  rw [none_build] at c0
  have c1 := fun W g (h : TriAt g W) => buildT_any (.slice (some ⟨g, 0, none⟩) 3 3) tri W h.sl tri_fits (by simp [tri])
  rw [tri_build] at c1
  have c2 := fun W => openT_some tri_open W tri_len
  obtain ⟨S3, hS3⟩ : ∃ S3, tableB tri = S3 := ⟨_, rfl⟩
  rw [hS3] at c1 c2
  have c3 := fun W => openT_none none_cut W (by simp [noneS])
  have c4 := fun t W (h : TabAt t [tri] W) => getT_any t [tri] [97] W h tri_rise (by simp [tri]) (by simp) (by simp [tri]) (by simp)
  rw [show ceV (findC [tri].flatten [97]) = .tuple #[.agg #[.string ⟨#[97]⟩, .int .i64 2, .string ⟨#[]⟩], .bool true] from rfl] at c4
  have rg := fun x y t W (h : TabAt t [tri] W) => (rangeT_any t [tri] x y W h tri_rise (by simp [tri]) (by simp) (by simp [tri])).mono (R' := fun e w' => Below W.heap.size W w' ∧ ∃ v, e = .returned v ∧ SlAt v (rangeC [tri].flatten x y) w') fun e w' ⟨hb, v, hv, own⟩ => ⟨hb, v, hv, slAt_own own⟩
  have c5 := rg [97] [98]
  have c6 := rg [98] []
  have c7 := rg [98] [97]
  rw [show rangeC [tri].flatten [97] [98] = tri.take 2 from rfl] at c5
  rw [show rangeC [tri].flatten [98] [] = tri.drop 2 from rfl] at c6
  rw [show rangeC [tri].flatten [98] [97] = [] from rfl] at c7
  have c8 := fun t W (h : TabAt t [tri] W) => lenT_any t [tri] W h (by simp) (by simp [tri])
  rw [show [tri].flatten.length = 3 from rfl] at c8
  have c9 := fun v W g (h : TriAt g W) (k : SlAt v (tri.take 2) W) => sameCells_any v (.slice (some ⟨g, 0, none⟩) 2 3) _ _ W k (h.row.takeSl (K := 2) (by simp [tri]) (by simp [tri]) (by unfold maxLen; omega))
  have c10 := fun v W g (h : TriAt g W) (k : SlAt v (tri.drop 2) W) => sameCells_any v (.slice (some ⟨g, 0 + 2 * 3, none⟩) (3 - 2) (3 - 2)) _ _ W k (h.row.dropSl (K := 2) (n := 3) (by simp [tri]) (by simp [tri]) (by unfold maxLen; omega) rfl)
  rw [decide_eq_true rfl] at c9 c10
  have C0 := Lib.hid c0
  have C1 := Lib.hid c1
  have C2 := Lib.hid c2
  have C3 := Lib.hid c3
  have C4 := Lib.hid c4
  have C5 := Lib.hid c5
  have C6 := Lib.hid c6
  have C7 := Lib.hid c7
  have C8 := Lib.hid c8
  have C9 := Lib.hid c9
  have C10 := Lib.hid c10
  clear c0 c1 c2 c3 c4 c5 c6 c7 c8 c9 c10 rg hS3
  have hcat : (⟨#[0, 0, 1, 0, 1]⟩ : ByteArray) ++ ⟨#[0, 0, 0, 0, 0, 0, 0, 0, 0, 0, 0, 0, 0, 0, 0, 0]⟩ ++ ⟨#[115, 112, 111, 111, 114]⟩ = ⟨noneS.toArray⟩ := by rfl
  have mk := make16
  have cv := conv16
  go_enter Try.func16, Try.ntmps16
  go_wp2_with fail
  refine (C0.out _).mono ?_
  rintro e w1 ⟨rfl, b1⟩
  go_wp2_with fail
  have TR := Lib.hid (show TriAt w1.heap.size _ from heap_alloc_new w1 (.cells #[.string ⟨#[97]⟩, .int .i64 2, .string ⟨#[]⟩, .string ⟨#[97]⟩, .int .i64 1, .string ⟨#[]⟩, .string ⟨#[98]⟩, .int .i64 5, .string ⟨#[]⟩] 36))
  have HB := Lib.hid (b1.alloc b1.size (.cells #[.string ⟨#[97]⟩, .int .i64 2, .string ⟨#[]⟩, .string ⟨#[97]⟩, .int .i64 1, .string ⟨#[]⟩, .string ⟨#[98]⟩, .int .i64 5, .string ⟨#[]⟩] 36))
  obtain ⟨g, hg⟩ : ∃ g, w1.heap.size = g := ⟨_, rfl⟩
  rw [hg] at TR ⊢
  obtain ⟨w2, hw2⟩ : ∃ w2, w1.alloc (.cells #[.string ⟨#[97]⟩, .int .i64 2, .string ⟨#[]⟩, .string ⟨#[97]⟩, .int .i64 1, .string ⟨#[]⟩, .string ⟨#[98]⟩, .int .i64 5, .string ⟨#[]⟩] 36) = w2 := ⟨_, rfl⟩
  rw [hw2] at TR HB ⊢
  clear b1 hg hw2 C0
  refine (C1.out _ _ TR.out).mono ?_
  rintro e w3 ⟨rfl, b3⟩
  have HB := Lib.hid (btB HB.out b3)
  have TR := Lib.hid (TR.out.later b3)
  clear b3 C1
  go_wp2_with fail
  refine (C2.out _).mono ?_
  rintro e w4 ⟨b4, t, rfl, ht⟩
  have HB := Lib.hid (btB HB.out b4)
  have TR := Lib.hid (TR.out.later b4)
  have HT := Lib.hid ht
  clear b4 C2 ht
  have b5 := (Below.refl w4.heap.size w4).alloc (Nat.le_refl _) zeros16
  have n0 : (noneS != noneS) = false := by simp
  go_wp2_with fail
  have HT5 := HT.out.later b5
  have TR5 := TR.out.later b5
  have HB5 := btB HB.out b5
  obtain ⟨w5, hw5⟩ : ∃ w5, w4.alloc zeros16 = w5 := ⟨_, rfl⟩
  rw [hw5] at HT5 TR5 HB5 ⊢
  refine (C4.out _ _ HT5).mono ?_
  rintro e w6 ⟨rfl, b6⟩
  have HB6 := Lib.hid (btB HB5 b6)
  have TR6 := Lib.hid (TR5.later b6)
  have HT6 := Lib.hid (HT5.later b6)
  have b7 := (Below.refl w6.heap.size w6).alloc (Nat.le_refl _) (boxC Ce.zero)
  have q7 := CeAt.boxed Ce.zero w6
  obtain ⟨c8, hc8⟩ : ∃ c8, w6.heap.size = c8 := ⟨_, rfl⟩
  have hc8' : w6.heap.size ≤ c8 := by omega
  rw [hc8] at q7
  obtain ⟨w7, hw7⟩ : ∃ w7, w6.alloc (boxC Ce.zero) = w7 := ⟨_, rfl⟩
  have hw7' : w6.alloc (.cells #[.string ⟨#[]⟩, .int .i64 0, .string ⟨#[]⟩] 36) = w7 := hw7
  rw [hw7] at b7 q7
  obtain ⟨y0, y1, y2⟩ := q7.cell
  obtain ⟨z0, z1, z2⟩ := q7.frees
  unfold Ce.zero at y0 y1 y2
  dsimp only at y0 y1 y2
  have HQ7 := Lib.hid (q7.all b7 hc8' ⟨[97], 2, []⟩)
  have hlt7 := q7.lt
  have hs0 : ∀ W, (Instr.slice 9 (.string ⟨noneS.toArray⟩) none (some (.int .i64 25)) none).run Try.prog W = .ok (.string ⟨(noneS.take 25).toArray⟩) W := fun W => by
    have hh := slice_at ⟨noneS.toArray⟩ 0 25 (0 : Int) (25 : Int) rfl rfl (Nat.zero_le _) (by decide) W
    exact hh
  have hsz : (⟨noneS.toArray⟩ : ByteArray).size = 26 := by rfl
  clear b5 mk cv n0 hw5 HT5 TR5 HB5 b6 b7 C4 HT TR HB hcat hw7 q7
  go_wp2_with fail
  have ⟨q8, b8⟩ := HQ7.out
  try dsimp only at q8 b8
  obtain ⟨w8, hw8⟩ : ∃ w8, ((w7.setCell ⟨c8, 0, none⟩ (.string ⟨[97].toArray⟩)).setCell ⟨c8, 1, none⟩ (.int .i64 2)).setCell ⟨c8, 2, none⟩ (.string ⟨[].toArray⟩) = w8 := ⟨_, rfl⟩
  have hw8' : ((w7.setCell ⟨c8, 0, none⟩ (.string ⟨#[97]⟩)).setCell ⟨c8, 1, none⟩ (.int .i64 2)).setCell ⟨c8, 2, none⟩ (.string ⟨#[]⟩) = w8 := hw8
  rw [hw8] at q8 b8
  try rw [hw8']
  have HB8 := Lib.hid (btB HB6.out b8)
  have TR8 := TR6.out.later b8
  have HT8 := HT6.out.later b8
  clear HB6 TR6 HT6 HQ7 b8 hw8 hw8' y0 y1 y2 z0 z1 z2 hs0 hsz
  refine (C3.out _).mono ?_
  rintro e w9 ⟨rfl, b9⟩
  have HB9 := Lib.hid (btB HB8.out b9)
  have TR9 := TR8.later b9
  have HT9 := HT8.later b9
  have q9 := q8.later b9 q8.lt
  clear HB8 TR8 HT8 q8 b9 C3
  go_wp2_with fail
  have tot := fun (W : World) (hb : Below w9.drew.heap.size w9.drew W) => (Below.drew (Below.refl w9.heap.size w9)).trans hb
  have HF := Lib.hid (fun (W : World) (hb : Below w9.drew.heap.size w9.drew W) => And.intro (q9.later (tot W hb) q9.lt).cell (TR9.later (tot W hb)).cell)
  have HTT := Lib.hid (fun (W : World) (hb : Below w9.drew.heap.size w9.drew W) => HT9.later (tot W hb))
  have HTR := Lib.hid (fun (W : World) (hb : Below w9.drew.heap.size w9.drew W) => TR9.later (tot W hb))
  have HBD := Lib.hid (fun (W : World) (hb : Below w9.drew.heap.size w9.drew W) => btB HB9.out (tot W hb))
  clear tot q9 TR9 HT9 HB9
  refine (wpIn_wide (n := 5)).1 ?_
  refine wpIn_region_rel [[], [(0, some 66)], [(1, some 67)], [(1, some 67)], [(1, some 67), (3, some 69)], [(1, some 67), (4, some 70)], [(1, some 67), (2, some 68), (5, some 71)], [(1, some 67), (6, some 72)], [(7, some 73)], [(8, some 74)], [(8, some 74), (9, some 75)], [(8, some 74), (10, some 76)], [(8, some 74), (11, some 77)], [(12, some 78)], [(13, some 79)], [(13, some 79), (14, some 80)], [(13, some 79)], [(13, some 79), (16, some 82)], [(13, some 79), (15, some 81), (17, some 83)], [(13, some 79), (18, some 84)], [(19, some 85)], [(20, some 86)], [(20, some 86), (21, some 87)], [(20, some 86)], [(20, some 86), (23, some 89)], [(20, some 86), (22, some 88), (24, some 90)], [(20, some 86), (25, some 91)], [(26, some 92)], [(27, some 93)], [(27, some 93), (28, some 94)], [(27, some 93), (29, some 95)], [(27, some 93), (30, some 96)], [(27, some 93), (31, some 97)], [(32, some 98)], [(33, some 99)], [(33, some 99), (34, some 100)], [(33, some 99), (35, some 101)], [(36, some 102)]]
    [fun v _ => v = Value.bool true, fun v _ => v = Value.bool true, fun v _ => v = Value.agg #[.string ⟨#[97]⟩, .int .i64 2, .string ⟨#[]⟩], fun v _ => v = Value.slice (some ⟨g, 0, none⟩) 3 3, fun v _ => v = Value.pointer (some ⟨g, 0, none⟩), fun v _ => v = Value.agg #[.string ⟨#[97]⟩, .int .i64 2, .string ⟨#[]⟩], fun v _ => v = Value.bool true, fun v _ => v = Value.bool true, fun v _ => v = Value.bool true, fun v _ => v = Value.pointer (some ⟨t, 0, none⟩), fun v _ => v = Value.int .i64 3, fun v _ => v = Value.bool true, fun v _ => v = Value.bool true, fun v _ => v = Value.bool true, fun v _ => v = Value.pointer (some ⟨t, 0, none⟩), fun v W => SlAt v (tri.take 2) W, fun v _ => v = Value.slice (some ⟨g, 0, none⟩) 3 3, fun v _ => v = Value.slice (some ⟨g, 0, none⟩) 2 3, fun v _ => v = Value.bool true, fun v _ => v = Value.bool true, fun v _ => v = Value.bool true, fun v _ => v = Value.pointer (some ⟨t, 0, none⟩), fun v W => SlAt v (tri.drop 2) W, fun v _ => v = Value.slice (some ⟨g, 0, none⟩) 3 3, fun v _ => v = Value.slice (some ⟨g, 0 + 2 * 3, none⟩) (3 - 2) (3 - 2), fun v _ => v = Value.bool true, fun v _ => v = Value.bool true, fun v _ => v = Value.bool true, fun v _ => v = Value.pointer (some ⟨t, 0, none⟩), fun v W => SlAt v [] W, fun v _ => v = Value.int .i64 0, fun v _ => v = Value.bool true, fun v _ => v = Value.bool true, fun v _ => v = Value.bool true, fun v _ => v = Value.int .i64 30, fun v _ => v = Value.bool true, fun v _ => v = Value.bool true, fun v _ => v = Value.bool true]
    [(0, some 66), (1, some 67), (2, some 68), (3, some 69), (4, some 70), (5, some 71), (6, some 72), (7, some 73), (8, some 74), (9, some 75), (10, some 76), (11, some 77), (12, some 78), (13, some 79), (14, some 80), (15, some 81), (16, some 82), (17, some 83), (18, some 84), (19, some 85), (20, some 86), (21, some 87), (22, some 88), (23, some 89), (24, some 90), (25, some 91), (26, some 92), (27, some 93), (28, some 94), (29, some 95), (30, some 96), (31, some 97), (32, some 98), (33, some 99), (34, some 100), (35, some 101), (36, some 102), (37, some 0)] (by kernel_rfl) (by kernel_rfl) (by kernel_rfl) ⟨MonoR.is _, MonoR.is _, MonoR.is _, MonoR.is _, MonoR.is _, MonoR.is _, MonoR.is _, MonoR.is _, MonoR.is _, MonoR.is _, MonoR.is _, MonoR.is _, MonoR.is _, MonoR.is _, MonoR.is _, MonoR.sl _, MonoR.is _, MonoR.is _, MonoR.is _, MonoR.is _, MonoR.is _, MonoR.is _, MonoR.sl _, MonoR.is _, MonoR.is _, MonoR.is _, MonoR.is _, MonoR.is _, MonoR.is _, MonoR.sl _, MonoR.is _, MonoR.is _, MonoR.is _, MonoR.is _, MonoR.is _, MonoR.is _, MonoR.is _, MonoR.is _, trivial⟩ ?_ ?_
  · refine ⟨?_, ?_⟩
    · intro vs W hb hD K hK
      simp only [fillL, Act.put, List.setIfInBounds_toArray, List.set_cons_succ, List.set_cons_zero] at hK ⊢
      clear hD
      refine want_yes (by kernel_rfl) ?_
      go_simp
      exact hK _ _ _ rfl (Below.refl _ _) rfl
    refine ⟨?_, ?_⟩
    · intro vs W hb hD K hK
      have h0 : vs 0 = Value.bool true := hD (0, some 66) List.mem_cons_self
      simp only [fillL, Act.put, List.setIfInBounds_toArray, List.set_cons_succ, List.set_cons_zero, h0] at hK ⊢
      clear hD h0
      refine want_yes (by kernel_rfl) ?_
      go_simp
      exact hK _ _ _ rfl (Below.refl _ _) rfl
    refine ⟨?_, ?_⟩
    · intro vs W hb hD K hK
      have h1 : vs 1 = Value.bool true := hD (1, some 67) List.mem_cons_self
      simp only [fillL, Act.put, List.setIfInBounds_toArray, List.set_cons_succ, List.set_cons_zero, h1] at hK ⊢
      clear hD h1
      refine want_yes (by kernel_rfl) ?_
      obtain ⟨⟨x0, x1, x2⟩, y0, y1, y2⟩ := HF.out W hb
      go_simp
      exact hK _ _ _ rfl (Below.refl _ _) rfl
    refine ⟨?_, ?_⟩
    · intro vs W hb hD K hK
      have h1 : vs 1 = Value.bool true := hD (1, some 67) List.mem_cons_self
      simp only [fillL, Act.put, List.setIfInBounds_toArray, List.set_cons_succ, List.set_cons_zero, h1] at hK ⊢
      clear hD h1
      refine want_yes (by kernel_rfl) ?_
      go_simp
      exact hK _ _ _ rfl (Below.refl _ _) rfl
    refine ⟨?_, ?_⟩
    · intro vs W hb hD K hK
      have h1 : vs 1 = Value.bool true := hD (1, some 67) List.mem_cons_self
      have h3 : vs 3 = Value.slice (some ⟨g, 0, none⟩) 3 3 := hD (3, some 69) (List.mem_cons_of_mem _ List.mem_cons_self)
      simp only [fillL, Act.put, List.setIfInBounds_toArray, List.set_cons_succ, List.set_cons_zero, h1, h3] at hK ⊢
      clear hD h1 h3
      refine want_yes (by kernel_rfl) ?_
      go_simp
      exact hK _ _ _ rfl (Below.refl _ _) rfl
    refine ⟨?_, ?_⟩
    · intro vs W hb hD K hK
      have h1 : vs 1 = Value.bool true := hD (1, some 67) List.mem_cons_self
      have h4 : vs 4 = Value.pointer (some ⟨g, 0, none⟩) := hD (4, some 70) (List.mem_cons_of_mem _ List.mem_cons_self)
      simp only [fillL, Act.put, List.setIfInBounds_toArray, List.set_cons_succ, List.set_cons_zero, h1, h4] at hK ⊢
      clear hD h1 h4
      refine want_yes (by kernel_rfl) ?_
      obtain ⟨⟨x0, x1, x2⟩, y0, y1, y2⟩ := HF.out W hb
      go_simp
      exact hK _ _ _ rfl (Below.refl _ _) rfl
    refine ⟨?_, ?_⟩
    · intro vs W hb hD K hK
      have h1 : vs 1 = Value.bool true := hD (1, some 67) List.mem_cons_self
      have h2 : vs 2 = Value.agg #[.string ⟨#[97]⟩, .int .i64 2, .string ⟨#[]⟩] := hD (2, some 68) (List.mem_cons_of_mem _ List.mem_cons_self)
      have h5 : vs 5 = Value.agg #[.string ⟨#[97]⟩, .int .i64 2, .string ⟨#[]⟩] := hD (5, some 71) (List.mem_cons_of_mem _ (List.mem_cons_of_mem _ List.mem_cons_self))
      simp only [fillL, Act.put, List.setIfInBounds_toArray, List.set_cons_succ, List.set_cons_zero, h1, h2, h5] at hK ⊢
      clear hD h1 h2 h5
      refine want_yes (by kernel_rfl) ?_
      go_simp
      exact hK _ _ _ rfl (Below.refl _ _) rfl
    refine ⟨?_, ?_⟩
    · intro vs W hb hD K hK
      have h1 : vs 1 = Value.bool true := hD (1, some 67) List.mem_cons_self
      have h6 : vs 6 = Value.bool true := hD (6, some 72) (List.mem_cons_of_mem _ List.mem_cons_self)
      simp only [fillL, Act.put, List.setIfInBounds_toArray, List.set_cons_succ, List.set_cons_zero, h1, h6] at hK ⊢
      clear hD h1 h6
      refine want_yes (by kernel_rfl) ?_
      go_simp
      exact hK _ _ _ rfl (Below.refl _ _) rfl
    refine ⟨?_, ?_⟩
    · intro vs W hb hD K hK
      have h7 : vs 7 = Value.bool true := hD (7, some 73) List.mem_cons_self
      simp only [fillL, Act.put, List.setIfInBounds_toArray, List.set_cons_succ, List.set_cons_zero, h7] at hK ⊢
      clear hD h7
      refine want_yes (by kernel_rfl) ?_
      go_simp
      exact hK _ _ _ rfl (Below.refl _ _) rfl
    refine ⟨?_, ?_⟩
    · intro vs W hb hD K hK
      have h8 : vs 8 = Value.bool true := hD (8, some 74) List.mem_cons_self
      simp only [fillL, Act.put, List.setIfInBounds_toArray, List.set_cons_succ, List.set_cons_zero, h8] at hK ⊢
      clear hD h8
      refine want_yes (by kernel_rfl) ?_
      go_simp
      exact hK _ _ _ rfl (Below.refl _ _) rfl
    refine ⟨?_, ?_⟩
    · intro vs W hb hD K hK
      have h8 : vs 8 = Value.bool true := hD (8, some 74) List.mem_cons_self
      have h9 : vs 9 = Value.pointer (some ⟨t, 0, none⟩) := hD (9, some 75) (List.mem_cons_of_mem _ List.mem_cons_self)
      simp only [fillL, Act.put, List.setIfInBounds_toArray, List.set_cons_succ, List.set_cons_zero, h8, h9] at hK ⊢
      clear hD h8 h9
      refine want_yes (by kernel_rfl) ?_
      have ht := HTT.out W hb
      go_simp
      refine ⟨trivial, (callsIn_wide.2 (C8.out _ _ ht)).mono ?_⟩
      rintro e9 wb ⟨rfl, bb⟩
      exact hK _ _ _ rfl bb rfl
    refine ⟨?_, ?_⟩
    · intro vs W hb hD K hK
      have h8 : vs 8 = Value.bool true := hD (8, some 74) List.mem_cons_self
      have h10 : vs 10 = Value.int .i64 3 := hD (10, some 76) (List.mem_cons_of_mem _ List.mem_cons_self)
      simp only [fillL, Act.put, List.setIfInBounds_toArray, List.set_cons_succ, List.set_cons_zero, h8, h10] at hK ⊢
      clear hD h8 h10
      refine want_yes (by kernel_rfl) ?_
      go_simp
      exact hK _ _ _ rfl (Below.refl _ _) rfl
    refine ⟨?_, ?_⟩
    · intro vs W hb hD K hK
      have h8 : vs 8 = Value.bool true := hD (8, some 74) List.mem_cons_self
      have h11 : vs 11 = Value.bool true := hD (11, some 77) (List.mem_cons_of_mem _ List.mem_cons_self)
      simp only [fillL, Act.put, List.setIfInBounds_toArray, List.set_cons_succ, List.set_cons_zero, h8, h11] at hK ⊢
      clear hD h8 h11
      refine want_yes (by kernel_rfl) ?_
      go_simp
      exact hK _ _ _ rfl (Below.refl _ _) rfl
    refine ⟨?_, ?_⟩
    · intro vs W hb hD K hK
      have h12 : vs 12 = Value.bool true := hD (12, some 78) List.mem_cons_self
      simp only [fillL, Act.put, List.setIfInBounds_toArray, List.set_cons_succ, List.set_cons_zero, h12] at hK ⊢
      clear hD h12
      refine want_yes (by kernel_rfl) ?_
      go_simp
      exact hK _ _ _ rfl (Below.refl _ _) rfl
    refine ⟨?_, ?_⟩
    · intro vs W hb hD K hK
      have h13 : vs 13 = Value.bool true := hD (13, some 79) List.mem_cons_self
      simp only [fillL, Act.put, List.setIfInBounds_toArray, List.set_cons_succ, List.set_cons_zero, h13] at hK ⊢
      clear hD h13
      refine want_yes (by kernel_rfl) ?_
      go_simp
      exact hK _ _ _ rfl (Below.refl _ _) rfl
    refine ⟨?_, ?_⟩
    · intro vs W hb hD K hK
      have h13 : vs 13 = Value.bool true := hD (13, some 79) List.mem_cons_self
      have h14 : vs 14 = Value.pointer (some ⟨t, 0, none⟩) := hD (14, some 80) (List.mem_cons_of_mem _ List.mem_cons_self)
      simp only [fillL, Act.put, List.setIfInBounds_toArray, List.set_cons_succ, List.set_cons_zero, h13, h14] at hK ⊢
      clear hD h13 h14
      refine want_yes (by kernel_rfl) ?_
      have ht := HTT.out W hb
      go_simp
      refine ⟨trivial, (callsIn_wide.2 (C5.out _ _ ht)).mono ?_⟩
      rintro e9 wb ⟨bb, v, rfl, sl⟩
      exact hK _ _ _ rfl bb sl
    refine ⟨?_, ?_⟩
    · intro vs W hb hD K hK
      have h13 : vs 13 = Value.bool true := hD (13, some 79) List.mem_cons_self
      simp only [fillL, Act.put, List.setIfInBounds_toArray, List.set_cons_succ, List.set_cons_zero, h13] at hK ⊢
      clear hD h13
      refine want_yes (by kernel_rfl) ?_
      go_simp
      exact hK _ _ _ rfl (Below.refl _ _) rfl
    refine ⟨?_, ?_⟩
    · intro vs W hb hD K hK
      have h13 : vs 13 = Value.bool true := hD (13, some 79) List.mem_cons_self
      have h16 : vs 16 = Value.slice (some ⟨g, 0, none⟩) 3 3 := hD (16, some 82) (List.mem_cons_of_mem _ List.mem_cons_self)
      simp only [fillL, Act.put, List.setIfInBounds_toArray, List.set_cons_succ, List.set_cons_zero, h13, h16] at hK ⊢
      clear hD h13 h16
      refine want_yes (by kernel_rfl) ?_
      go_simp
      exact hK _ _ _ rfl (Below.refl _ _) rfl
    refine ⟨?_, ?_⟩
    · intro vs W hb hD K hK
      have h13 : vs 13 = Value.bool true := hD (13, some 79) List.mem_cons_self
      obtain ⟨x15, hx15⟩ : ∃ x, vs 15 = x := ⟨_, rfl⟩
      have h15 : (fun v W => SlAt v (tri.take 2) W) (vs 15) W := hD (15, some 81) (List.mem_cons_of_mem _ List.mem_cons_self)
      rw [hx15] at h15
      have h17 : vs 17 = Value.slice (some ⟨g, 0, none⟩) 2 3 := hD (17, some 83) (List.mem_cons_of_mem _ (List.mem_cons_of_mem _ List.mem_cons_self))
      simp only [fillL, Act.put, List.setIfInBounds_toArray, List.set_cons_succ, List.set_cons_zero, h13, hx15, h17] at hK ⊢
      clear hD h13 hx15 h17
      refine want_yes (by kernel_rfl) ?_
      have ht := HTR.out W hb
      go_simp
      refine ⟨trivial, (callsIn_wide.2 (C9.out _ _ _ ht h15)).mono ?_⟩
      rintro e9 wb ⟨rfl, bb⟩
      exact hK _ _ _ rfl bb rfl
    refine ⟨?_, ?_⟩
    · intro vs W hb hD K hK
      have h13 : vs 13 = Value.bool true := hD (13, some 79) List.mem_cons_self
      have h18 : vs 18 = Value.bool true := hD (18, some 84) (List.mem_cons_of_mem _ List.mem_cons_self)
      simp only [fillL, Act.put, List.setIfInBounds_toArray, List.set_cons_succ, List.set_cons_zero, h13, h18] at hK ⊢
      clear hD h13 h18
      refine want_yes (by kernel_rfl) ?_
      go_simp
      exact hK _ _ _ rfl (Below.refl _ _) rfl
    refine ⟨?_, ?_⟩
    · intro vs W hb hD K hK
      have h19 : vs 19 = Value.bool true := hD (19, some 85) List.mem_cons_self
      simp only [fillL, Act.put, List.setIfInBounds_toArray, List.set_cons_succ, List.set_cons_zero, h19] at hK ⊢
      clear hD h19
      refine want_yes (by kernel_rfl) ?_
      go_simp
      exact hK _ _ _ rfl (Below.refl _ _) rfl
    refine ⟨?_, ?_⟩
    · intro vs W hb hD K hK
      have h20 : vs 20 = Value.bool true := hD (20, some 86) List.mem_cons_self
      simp only [fillL, Act.put, List.setIfInBounds_toArray, List.set_cons_succ, List.set_cons_zero, h20] at hK ⊢
      clear hD h20
      refine want_yes (by kernel_rfl) ?_
      go_simp
      exact hK _ _ _ rfl (Below.refl _ _) rfl
    refine ⟨?_, ?_⟩
    · intro vs W hb hD K hK
      have h20 : vs 20 = Value.bool true := hD (20, some 86) List.mem_cons_self
      have h21 : vs 21 = Value.pointer (some ⟨t, 0, none⟩) := hD (21, some 87) (List.mem_cons_of_mem _ List.mem_cons_self)
      simp only [fillL, Act.put, List.setIfInBounds_toArray, List.set_cons_succ, List.set_cons_zero, h20, h21] at hK ⊢
      clear hD h20 h21
      refine want_yes (by kernel_rfl) ?_
      have ht := HTT.out W hb
      go_simp
      refine ⟨trivial, (callsIn_wide.2 (C6.out _ _ ht)).mono ?_⟩
      rintro e9 wb ⟨bb, v, rfl, sl⟩
      exact hK _ _ _ rfl bb sl
    refine ⟨?_, ?_⟩
    · intro vs W hb hD K hK
      have h20 : vs 20 = Value.bool true := hD (20, some 86) List.mem_cons_self
      simp only [fillL, Act.put, List.setIfInBounds_toArray, List.set_cons_succ, List.set_cons_zero, h20] at hK ⊢
      clear hD h20
      refine want_yes (by kernel_rfl) ?_
      go_simp
      exact hK _ _ _ rfl (Below.refl _ _) rfl
    refine ⟨?_, ?_⟩
    · intro vs W hb hD K hK
      have h20 : vs 20 = Value.bool true := hD (20, some 86) List.mem_cons_self
      have h23 : vs 23 = Value.slice (some ⟨g, 0, none⟩) 3 3 := hD (23, some 89) (List.mem_cons_of_mem _ List.mem_cons_self)
      simp only [fillL, Act.put, List.setIfInBounds_toArray, List.set_cons_succ, List.set_cons_zero, h20, h23] at hK ⊢
      clear hD h20 h23
      refine want_yes (by kernel_rfl) ?_
      go_simp
      exact hK _ _ _ rfl (Below.refl _ _) rfl
    refine ⟨?_, ?_⟩
    · intro vs W hb hD K hK
      have h20 : vs 20 = Value.bool true := hD (20, some 86) List.mem_cons_self
      obtain ⟨x22, hx22⟩ : ∃ x, vs 22 = x := ⟨_, rfl⟩
      have h22 : (fun v W => SlAt v (tri.drop 2) W) (vs 22) W := hD (22, some 88) (List.mem_cons_of_mem _ List.mem_cons_self)
      rw [hx22] at h22
      have h24 : vs 24 = Value.slice (some ⟨g, 0 + 2 * 3, none⟩) (3 - 2) (3 - 2) := hD (24, some 90) (List.mem_cons_of_mem _ (List.mem_cons_of_mem _ List.mem_cons_self))
      simp only [fillL, Act.put, List.setIfInBounds_toArray, List.set_cons_succ, List.set_cons_zero, h20, hx22, h24] at hK ⊢
      clear hD h20 hx22 h24
      refine want_yes (by kernel_rfl) ?_
      have ht := HTR.out W hb
      go_simp
      refine ⟨trivial, (callsIn_wide.2 (C10.out _ _ _ ht h22)).mono ?_⟩
      rintro e9 wb ⟨rfl, bb⟩
      exact hK _ _ _ rfl bb rfl
    refine ⟨?_, ?_⟩
    · intro vs W hb hD K hK
      have h20 : vs 20 = Value.bool true := hD (20, some 86) List.mem_cons_self
      have h25 : vs 25 = Value.bool true := hD (25, some 91) (List.mem_cons_of_mem _ List.mem_cons_self)
      simp only [fillL, Act.put, List.setIfInBounds_toArray, List.set_cons_succ, List.set_cons_zero, h20, h25] at hK ⊢
      clear hD h20 h25
      refine want_yes (by kernel_rfl) ?_
      go_simp
      exact hK _ _ _ rfl (Below.refl _ _) rfl
    refine ⟨?_, ?_⟩
    · intro vs W hb hD K hK
      have h26 : vs 26 = Value.bool true := hD (26, some 92) List.mem_cons_self
      simp only [fillL, Act.put, List.setIfInBounds_toArray, List.set_cons_succ, List.set_cons_zero, h26] at hK ⊢
      clear hD h26
      refine want_yes (by kernel_rfl) ?_
      go_simp
      exact hK _ _ _ rfl (Below.refl _ _) rfl
    refine ⟨?_, ?_⟩
    · intro vs W hb hD K hK
      have h27 : vs 27 = Value.bool true := hD (27, some 93) List.mem_cons_self
      simp only [fillL, Act.put, List.setIfInBounds_toArray, List.set_cons_succ, List.set_cons_zero, h27] at hK ⊢
      clear hD h27
      refine want_yes (by kernel_rfl) ?_
      go_simp
      exact hK _ _ _ rfl (Below.refl _ _) rfl
    refine ⟨?_, ?_⟩
    · intro vs W hb hD K hK
      have h27 : vs 27 = Value.bool true := hD (27, some 93) List.mem_cons_self
      have h28 : vs 28 = Value.pointer (some ⟨t, 0, none⟩) := hD (28, some 94) (List.mem_cons_of_mem _ List.mem_cons_self)
      simp only [fillL, Act.put, List.setIfInBounds_toArray, List.set_cons_succ, List.set_cons_zero, h27, h28] at hK ⊢
      clear hD h27 h28
      refine want_yes (by kernel_rfl) ?_
      have ht := HTT.out W hb
      go_simp
      refine ⟨trivial, (callsIn_wide.2 (C7.out _ _ ht)).mono ?_⟩
      rintro e9 wb ⟨bb, v, rfl, sl⟩
      exact hK _ _ _ rfl bb sl
    refine ⟨?_, ?_⟩
    · intro vs W hb hD K hK
      have h27 : vs 27 = Value.bool true := hD (27, some 93) List.mem_cons_self
      obtain ⟨x29, hx29⟩ : ∃ x, vs 29 = x := ⟨_, rfl⟩
      have h29 : (fun v W => SlAt v [] W) (vs 29) W := hD (29, some 95) (List.mem_cons_of_mem _ List.mem_cons_self)
      rw [hx29] at h29
      simp only [fillL, Act.put, List.setIfInBounds_toArray, List.set_cons_succ, List.set_cons_zero, h27, hx29] at hK ⊢
      clear hD h27 hx29
      refine want_yes (by kernel_rfl) ?_
      obtain ⟨A9, c9, rfl, -⟩ := h29
      go_simp
      exact hK _ _ _ rfl (Below.refl _ _) rfl
    refine ⟨?_, ?_⟩
    · intro vs W hb hD K hK
      have h27 : vs 27 = Value.bool true := hD (27, some 93) List.mem_cons_self
      have h30 : vs 30 = Value.int .i64 0 := hD (30, some 96) (List.mem_cons_of_mem _ List.mem_cons_self)
      simp only [fillL, Act.put, List.setIfInBounds_toArray, List.set_cons_succ, List.set_cons_zero, h27, h30] at hK ⊢
      clear hD h27 h30
      refine want_yes (by kernel_rfl) ?_
      go_simp
      exact hK _ _ _ rfl (Below.refl _ _) rfl
    refine ⟨?_, ?_⟩
    · intro vs W hb hD K hK
      have h27 : vs 27 = Value.bool true := hD (27, some 93) List.mem_cons_self
      have h31 : vs 31 = Value.bool true := hD (31, some 97) (List.mem_cons_of_mem _ List.mem_cons_self)
      simp only [fillL, Act.put, List.setIfInBounds_toArray, List.set_cons_succ, List.set_cons_zero, h27, h31] at hK ⊢
      clear hD h27 h31
      refine want_yes (by kernel_rfl) ?_
      go_simp
      exact hK _ _ _ rfl (Below.refl _ _) rfl
    refine ⟨?_, ?_⟩
    · intro vs W hb hD K hK
      have h32 : vs 32 = Value.bool true := hD (32, some 98) List.mem_cons_self
      simp only [fillL, Act.put, List.setIfInBounds_toArray, List.set_cons_succ, List.set_cons_zero, h32] at hK ⊢
      clear hD h32
      refine want_yes (by kernel_rfl) ?_
      go_simp
      exact hK _ _ _ rfl (Below.refl _ _) rfl
    refine ⟨?_, ?_⟩
    · intro vs W hb hD K hK
      have h33 : vs 33 = Value.bool true := hD (33, some 99) List.mem_cons_self
      simp only [fillL, Act.put, List.setIfInBounds_toArray, List.set_cons_succ, List.set_cons_zero, h33] at hK ⊢
      clear hD h33
      refine want_yes (by kernel_rfl) ?_
      go_simp
      exact hK _ _ _ rfl (Below.refl _ _) rfl
    refine ⟨?_, ?_⟩
    · intro vs W hb hD K hK
      have h33 : vs 33 = Value.bool true := hD (33, some 99) List.mem_cons_self
      have h34 : vs 34 = Value.int .i64 30 := hD (34, some 100) (List.mem_cons_of_mem _ List.mem_cons_self)
      simp only [fillL, Act.put, List.setIfInBounds_toArray, List.set_cons_succ, List.set_cons_zero, h33, h34] at hK ⊢
      clear hD h33 h34
      refine want_yes (by kernel_rfl) ?_
      go_simp
      exact hK _ _ _ rfl (Below.refl _ _) rfl
    refine ⟨?_, ?_⟩
    · intro vs W hb hD K hK
      have h33 : vs 33 = Value.bool true := hD (33, some 99) List.mem_cons_self
      have h35 : vs 35 = Value.bool true := hD (35, some 101) (List.mem_cons_of_mem _ List.mem_cons_self)
      simp only [fillL, Act.put, List.setIfInBounds_toArray, List.set_cons_succ, List.set_cons_zero, h33, h35] at hK ⊢
      clear hD h33 h35
      refine want_yes (by kernel_rfl) ?_
      go_simp
      exact hK _ _ _ rfl (Below.refl _ _) rfl
    refine ⟨?_, ?_⟩
    · intro vs W hb hD K hK
      have h36 : vs 36 = Value.bool true := hD (36, some 102) List.mem_cons_self
      simp only [fillL, Act.put, List.setIfInBounds_toArray, List.set_cons_succ, List.set_cons_zero, h36] at hK ⊢
      clear hD h36
      refine want_yes (by kernel_rfl) ?_
      go_simp
      exact hK _ _ _ rfl (Below.refl _ _) rfl
    trivial
  · intro vs W hb hF
    have h0 : vs 0 = Value.bool true := hF 0 (by decide)
    have h1 : vs 1 = Value.bool true := hF 1 (by decide)
    have h2 : vs 2 = Value.agg #[.string ⟨#[97]⟩, .int .i64 2, .string ⟨#[]⟩] := hF 2 (by decide)
    have h3 : vs 3 = Value.slice (some ⟨g, 0, none⟩) 3 3 := hF 3 (by decide)
    have h4 : vs 4 = Value.pointer (some ⟨g, 0, none⟩) := hF 4 (by decide)
    have h5 : vs 5 = Value.agg #[.string ⟨#[97]⟩, .int .i64 2, .string ⟨#[]⟩] := hF 5 (by decide)
    have h6 : vs 6 = Value.bool true := hF 6 (by decide)
    have h7 : vs 7 = Value.bool true := hF 7 (by decide)
    have h8 : vs 8 = Value.bool true := hF 8 (by decide)
    have h9 : vs 9 = Value.pointer (some ⟨t, 0, none⟩) := hF 9 (by decide)
    have h10 : vs 10 = Value.int .i64 3 := hF 10 (by decide)
    have h11 : vs 11 = Value.bool true := hF 11 (by decide)
    have h12 : vs 12 = Value.bool true := hF 12 (by decide)
    have h13 : vs 13 = Value.bool true := hF 13 (by decide)
    have h14 : vs 14 = Value.pointer (some ⟨t, 0, none⟩) := hF 14 (by decide)
    obtain ⟨x15, hx15⟩ : ∃ x, vs 15 = x := ⟨_, rfl⟩
    have h15 : (fun v W => SlAt v (tri.take 2) W) (vs 15) W := hF 15 (by decide)
    rw [hx15] at h15
    have h16 : vs 16 = Value.slice (some ⟨g, 0, none⟩) 3 3 := hF 16 (by decide)
    have h17 : vs 17 = Value.slice (some ⟨g, 0, none⟩) 2 3 := hF 17 (by decide)
    have h18 : vs 18 = Value.bool true := hF 18 (by decide)
    have h19 : vs 19 = Value.bool true := hF 19 (by decide)
    have h20 : vs 20 = Value.bool true := hF 20 (by decide)
    have h21 : vs 21 = Value.pointer (some ⟨t, 0, none⟩) := hF 21 (by decide)
    obtain ⟨x22, hx22⟩ : ∃ x, vs 22 = x := ⟨_, rfl⟩
    have h22 : (fun v W => SlAt v (tri.drop 2) W) (vs 22) W := hF 22 (by decide)
    rw [hx22] at h22
    have h23 : vs 23 = Value.slice (some ⟨g, 0, none⟩) 3 3 := hF 23 (by decide)
    have h24 : vs 24 = Value.slice (some ⟨g, 0 + 2 * 3, none⟩) (3 - 2) (3 - 2) := hF 24 (by decide)
    have h25 : vs 25 = Value.bool true := hF 25 (by decide)
    have h26 : vs 26 = Value.bool true := hF 26 (by decide)
    have h27 : vs 27 = Value.bool true := hF 27 (by decide)
    have h28 : vs 28 = Value.pointer (some ⟨t, 0, none⟩) := hF 28 (by decide)
    obtain ⟨x29, hx29⟩ : ∃ x, vs 29 = x := ⟨_, rfl⟩
    have h29 : (fun v W => SlAt v [] W) (vs 29) W := hF 29 (by decide)
    rw [hx29] at h29
    have h30 : vs 30 = Value.int .i64 0 := hF 30 (by decide)
    have h31 : vs 31 = Value.bool true := hF 31 (by decide)
    have h32 : vs 32 = Value.bool true := hF 32 (by decide)
    have h33 : vs 33 = Value.bool true := hF 33 (by decide)
    have h34 : vs 34 = Value.int .i64 30 := hF 34 (by decide)
    have h35 : vs 35 = Value.bool true := hF 35 (by decide)
    have h36 : vs 36 = Value.bool true := hF 36 (by decide)
    have h37 : vs 37 = Value.bool true := hF 37 (by decide)
    simp only [fillL, Act.put, List.setIfInBounds_toArray, List.set_cons_succ, List.set_cons_zero, h0, h1, h2, h3, h4, h5, h6, h7, h8, h9, h10, h11, h12, h13, h14, hx15, h16, h17, h18, h19, h20, h21, hx22, h23, h24, h25, h26, h27, h28, hx29, h30, h31, h32, h33, h34, h35, h36, h37]
    clear hF h0 h1 h2 h3 h4 h5 h6 h7 h8 h9 h10 h11 h12 h13 h14 hx15 h16 h17 h18 h19 h20 h21 hx22 h23 h24 h25 h26 h27 h28 hx29 h30 h31 h32 h33 h34 h35 h36 h37
    have hB := HBD.out W hb
    clear HF HTT HTR HBD C5 C6 C7 C8 C9 C10
    go_wp2_with fail
    go_ret
    exact ⟨rfl, hB⟩
end Go.Proofs.Ytanaoepakllohaa
