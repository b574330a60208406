/- The walks on the chapter's batch and examples. -/
import Derived.Test.YtheeekmhmbkncaaPostsJ
import Derived.Deep.RegionHeld3
namespace Go.Proofs.Ytheeekmhmbkncaa
open Go.RowKit Spoor

def some1 : Sp := ⟨1, 2, 0, [115], [104], 3, 0, []⟩
def someBa : Ba := ⟨0, 7, [some1]⟩
def someAk : Ak := ⟨2, 300, 305⟩
def someBaS : List UInt8 := [66, 0, 7, 1, 10, 1, 2, 0, 3, 0, 1, 115, 1, 104, 0]
def someAkS : List UInt8 := [65, 2, 130, 44, 5]
theorem some1_bytes : some1.bytes = [1, 2, 0, 3, 0, 1, 115, 1, 104, 0] := by
  unfold some1 Sp.bytes putText
  simp only [List.length_cons, List.length_nil]
  repeat rw [put_small _ (by decide)]
  rfl
theorem someBa_ok : someBa.ok = true := by decide +kernel
theorem someBa_bytes : someBa.bytes = someBaS := by
  unfold Ba.bytes someBa putSp
  simp only [List.map_cons, List.map_nil, List.flatten_cons, List.flatten_nil, some1_bytes, putText, putN, List.length_cons, List.length_nil, List.append_nil]
  repeat rw [put_small _ (by decide)]
  rfl
theorem someAk_ok : someAk.ok = true := by decide +kernel
theorem someAk_bytes : someAk.bytes = someAkS := by
  unfold Ak.bytes someAk
  simp only [putN, List.map_cons, List.map_nil, List.flatten_cons, List.flatten_nil, List.append_nil]
  rw [show (300 : Int).toNat = 300 from rfl, put_300]
  repeat rw [put_small _ (by decide)]
  rfl
theorem badAk_ok : (⟨0, 300, 299⟩ : Ak).ok = false := by decide +kernel
theorem decBa_ackS : decBa someAkS = none := rfl
theorem RowS.sl {g cap : Nat} {l : List Sp} {w : World} {n : Nat} (h : RowS g 0 l w) (hn : l.length = n) (hc : n ≤ cap) (hm : cap ≤ maxLen) : SlS (.slice (some ⟨g, 0, none⟩) n cap) l w :=
  ⟨some ⟨g, 0, none⟩, cap, by rw [hn], by omega, hm, fun _ => ⟨g, 0, rfl, h⟩⟩
theorem SpAt.row {g : Nat} {x : Sp} {w : World} (h : SpAt g x w) : RowS g 0 [x] w := by
  refine ⟨h.lt, fun i hi => ?_⟩
  obtain rfl : i = 0 := by simpa using hi
  intro j v hv
  obtain ⟨c0, c1, c2, c3, c4, c5, c6, c7⟩ := h.cell
  have hj : j < 8 := by
    have := (List.getElem?_eq_some_iff.1 hv).1
    simpa [spRow] using this
  simp only [Nat.zero_mul, Nat.zero_add, Nat.add_zero] at *
  match j, hj, hv with
  | 0, _, hv => simp [spRow] at hv; rw [← hv]; exact c0
  | 1, _, hv => simp [spRow] at hv; rw [← hv]; exact c1
  | 2, _, hv => simp [spRow] at hv; rw [← hv]; exact c2
  | 3, _, hv => simp [spRow] at hv; rw [← hv]; exact c3
  | 4, _, hv => simp [spRow] at hv; rw [← hv]; exact c4
  | 5, _, hv => simp [spRow] at hv; rw [← hv]; exact c5
  | 6, _, hv => simp [spRow] at hv; rw [← hv]; exact c6
  | 7, _, hv => simp [spRow] at hv; rw [← hv]; exact c7
theorem some12_any (w : World) : Calls Try.prog 31 #[] w fun e w' => e = .returned (baVal someBa (.slice (some ⟨w.heap.size + 1, 0, none⟩) 1 1)) ∧ SlS (.slice (some ⟨w.heap.size + 1, 0, none⟩) 1 1) someBa.sp w' ∧ Below w.heap.size w w' := by
  go_enter Try.func31, Try.ntmps31
  go_wp2_with fail
  have h1 : SpAt (w.heap.size + 1) some1 ((w.alloc (.cells #[.int .i64 0, .int .i64 7, .slice (some ⟨w.heap.size + 1, 0, none⟩) 1 1] 24)).alloc (.cells #[.int .i64 1, .int .i64 2, .int .i64 0, .string ⟨#[115]⟩, .string ⟨#[104]⟩, .int .i64 3, .int .i64 0, .string ⟨#[]⟩] 29)) := heap_new_at _ _ _ (by simp)
  exact bodyPost_ret (v := baVal someBa (.slice (some ⟨w.heap.size + 1, 0, none⟩) 1 1)) (by simp [results, baVal, someBa, Try.results31, go_sem]) rfl ⟨rfl, h1.row.sl rfl (by omega) (by unfold maxLen; omega), ((Below.refl _ _).alloc (Nat.le_refl _) _).alloc (by simp) _⟩
set_option maxHeartbeats 8000000 in
theorem does12_true (w : World) : Calls Try.prog 15 #[] w fun e w' => e = .returned (.bool true) ∧ Below w.heap.size w w' := by
  have ca := fun W => encodeAck_any someAk W (by simp [someAk])
  have cb := fun W => encodeAck_any ⟨0, 300, 299⟩ W (by simp)
  have cd := fun W => decodeAck_any someAkS W (by simp [someAkS])
  have ce := fun (W : World) (g : Nat) (hs : SlS (.slice (some ⟨g, 0, none⟩) 1 1) someBa.sp W) => encodeBatch_any someBa (.slice (some ⟨g, 0, none⟩) 1 1) W hs (all_fits (by decide +kernel)) (by simp [someBa])
  have cf := fun W => decodeBatch_any someBaS W (by simp [someBaS])
  have cn := fun W => decodeBatch_any someAkS W (by simp [someAkS])
  have hdA : decAk someAkS = some someAk := by have := decAk_bytes someAk_ok; rwa [someAk_bytes] at this
  have hdB : decBa someBaS = some someBa := by have := decBa_bytes someBa_ok; rwa [someBa_bytes] at this
  unfold encAkV at ca cb
  unfold encBaV at ce
  rw [someAk_ok, someAk_bytes] at ca
  rw [badAk_ok] at cb
  rw [someBa_ok, someBa_bytes] at ce
  rw [hdA] at cd
  simp only [if_true, Bool.false_eq_true, if_false] at ca cb ce
  unfold decAkV akVal someAk someAkS at cd
  unfold akVal someAk someAkS at ca
  unfold akVal at cb
  unfold baVal someBaS at ce
  try dsimp only at cd ca cb
  have HDB := Lib.hid hdB
  have CA := Lib.hid ca
  have CB := Lib.hid cb
  have CD := Lib.hid cd
  have CE := Lib.hid ce
  have CF := Lib.hid cf
  have CN := Lib.hid cn
  have CS := Lib.hid some12_any
  clear ca cb cd ce cf cn hdA hdB
  unfold someBaS at CF
  unfold someAkS at CN
  unfold baVal at CS
  rw [show someBa.ho = 0 from rfl, show someBa.fi = 7 from rfl] at CS CE
  go_enter Try.func15, Try.ntmps15
  go_wp2_with fail
  refine (CA.out _).mono ?_
  rintro e w1 ⟨rfl, b1⟩
  have B := b1
  clear b1
  go_wp2_with fail
  refine (CD.out _).mono ?_
  rintro e w2 ⟨rfl, b2⟩
  have B := btP B b2
  have q2 := heap_alloc_new w2 (.cells #[.int .i64 2, .int .i64 300, .int .i64 305] 26)
  have b3 := (Below.refl w2.heap.size w2).alloc (Nat.le_refl _) (.cells #[.int .i64 2, .int .i64 300, .int .i64 305] 26)
  have B := btP B b3
  clear b2 b3
  go_wp2_with fail
  generalize w2.alloc _ = w3 at *
  generalize w2.heap.size = p at *
  refine (CB.out _).mono ?_
  rintro e w4 ⟨rfl, b4⟩
  have q2 := blk_later q2 b4
  have B := btP B b4
  clear b4
  go_wp2_with fail
  refine (CS.out _).mono ?_
  rintro e w5 ⟨rfl, hs5, b5⟩
  have q2 := blk_later q2 b5
  have B := btP B b5
  go_wp2_with fail
  refine (CE.out _ _ hs5).mono ?_
  rintro e w6 ⟨rfl, b6⟩
  have q2 := blk_later q2 b6
  have B := btP B b6
  clear b5 b6 hs5
  go_wp2_with fail
  refine (CF.out _).mono ?_
  rintro e w7 ⟨b7, h7⟩
  have hsl : ∃ A cap, e = .returned (.tuple #[.agg #[.int .i64 0, .int .i64 7, .slice A 1 cap], .int .i64 0]) ∧ SlS (.slice A 1 cap) someBa.sp w7 := by
    rcases h7 with ⟨hn, _⟩ | ⟨b, v, hl, rfl, own⟩
    · have := HDB.out; unfold someBaS at this; rw [this] at hn; cases hn
    · have := HDB.out
      unfold someBaS at this
      rw [this] at hl
      cases hl
      have hsl := slS_own own
      obtain ⟨A, cap, rfl, h⟩ := id hsl
      exact ⟨A, cap, rfl, hsl⟩
  obtain ⟨A, cap, rfl, hsl⟩ := hsl
  have q2 := blk_later q2 b7
  have B := btP B b7
  have q3 := heap_alloc_new w7 (.cells #[.int .i64 0, .int .i64 7, .slice A 1 cap] 24)
  have b8 := (Below.refl w7.heap.size w7).alloc (Nat.le_refl _) (.cells #[.int .i64 0, .int .i64 7, .slice A 1 cap] 24)
  have q2 := blk_later q2 b8
  have hsl := hsl.later b8
  have B := btP B b8
  clear b7 b8 h7
  go_wp2_with fail
  generalize w7.alloc _ = w8 at *
  generalize w7.heap.size = p7 at *
  refine (CN.out _).mono ?_
  rintro e w9 ⟨b9, h9⟩
  have he9 : e = .returned (.tuple #[.agg #[.int .i64 0, .int .i64 0, .slice none 0 0], .int .i64 30]) := by
    rcases h9 with ⟨_, rfl⟩ | ⟨b, v, hl, _, _⟩
    · rfl
    · have := decBa_ackS; unfold someAkS at this; rw [this] at hl; cases hl
  subst he9
  have q2 := blk_later q2 b9
  have q3 := blk_later q3 b9
  have hsl := hsl.later b9
  have B := btP B b9
  have b10 := (Below.refl w9.heap.size w9).alloc (Nat.le_refl _) (.cells #[.int .i64 0, .int .i64 0, .slice none 0 0] 24)
  have q2 := blk_later q2 b10
  have q3 := blk_later q3 b10
  have hsl := hsl.later b10
  have B := btP B b10
  clear b9 h9 b10
  obtain ⟨y0, y1, y2⟩ := cells3 q2
  obtain ⟨z0, z1, z2⟩ := cells3 q3
  have lt2 := (Array.getElem?_eq_some_iff.1 q2).1
  have lt3 := (Array.getElem?_eq_some_iff.1 q3).1
  go_wp2_with fail
  generalize w9.alloc _ = w10 at *
  generalize w9.heap.size = p9 at *
  have sb := fun (W : World) (g : Nat) (h : SlS (.slice A 1 cap) someBa.sp W) (k : SlS (.slice (some ⟨g, 0, none⟩) 1 1) someBa.sp W) => sameBatch_any someBa someBa (.slice A 1 cap) (.slice (some ⟨g, 0, none⟩) 1 1) W h k
  rw [decide_eq_true rfl] at sb
  unfold baVal at sb
  rw [show someBa.ho = 0 from rfl, show someBa.fi = 7 from rfl] at sb
  have SB := Lib.hid sb
  have HSL := Lib.hid hsl
  have HBB := Lib.hid B
  clear sb hsl B q2 q3
  have hp : p < w10.heap.size := lt2
  have hp7 : p7 < w10.heap.size := lt3
  clear lt2 lt3
  go_region_held3 (fun W => W.cell? ⟨p, 0, none⟩ = some (.int .i64 2) ∧ W.cell? ⟨p, 1, none⟩ = some (.int .i64 300) ∧ W.cell? ⟨p, 2, none⟩ = some (.int .i64 305) ∧ W.cell? ⟨p7, 0, none⟩ = some (.int .i64 0) ∧ W.cell? ⟨p7, 1, none⟩ = some (.int .i64 7) ∧ W.cell? ⟨p7, 2, none⟩ = some (.slice A 1 cap)) (go_keep)
    (first
      | (go_at_call 31; refine (CS.out _).mono ?_; rintro e w11 ⟨rfl, hs11, b11⟩; have BB := btP (_root_.Go.below_drewN HBB.out _) b11; have t00 := (b11.cell (p := ⟨p, 0, none⟩) (by assumption)).trans (by assumption); have t01 := (b11.cell (p := ⟨p, 1, none⟩) (by assumption)).trans (by assumption); have t02 := (b11.cell (p := ⟨p, 2, none⟩) (by assumption)).trans (by assumption); have t10 := (b11.cell (p := ⟨p7, 0, none⟩) (by assumption)).trans (by assumption); have t11 := (b11.cell (p := ⟨p7, 1, none⟩) (by assumption)).trans (by assumption); have t12 := (b11.cell (p := ⟨p7, 2, none⟩) (by assumption)).trans (by assumption); have sl11 := (HSL.out.later (_root_.Go.below_drewN (Below.refl _ _) _)).later b11; have hp11 := Nat.lt_of_lt_of_le (by assumption : p < _) b11.size; have hp12 := Nat.lt_of_lt_of_le (by assumption : p7 < _) b11.size)
      | (go_at_call 14; refine (SB.out _ _ (by assumption) (by assumption)).mono ?_; rintro e w12 ⟨rfl, b12⟩; have BB := btP BB b12; have t00 := (b12.cell (p := ⟨p, 0, none⟩) (by assumption)).trans (by assumption); have t01 := (b12.cell (p := ⟨p, 1, none⟩) (by assumption)).trans (by assumption); have t02 := (b12.cell (p := ⟨p, 2, none⟩) (by assumption)).trans (by assumption); have t10 := (b12.cell (p := ⟨p7, 0, none⟩) (by assumption)).trans (by assumption); have t11 := (b12.cell (p := ⟨p7, 1, none⟩) (by assumption)).trans (by assumption); have t12 := (b12.cell (p := ⟨p7, 2, none⟩) (by assumption)).trans (by assumption)))
  go_wp2_with fail
  go_ret
  exact ⟨rfl, BB⟩
end Go.Proofs.Ytheeekmhmbkncaa
