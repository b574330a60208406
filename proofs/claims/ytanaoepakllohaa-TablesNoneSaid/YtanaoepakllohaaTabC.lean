/- The walks of sums, the program's and the document's: what a text's four bytes are. -/
import Derived.Test.YtanaoepakllohaaTabG
import Derived.Test.YtanaoepakllohaaIntsG
import Derived.Test.YtanaoepakllohaaTables0
import Derived.Laws.BitsAllLaws
import Derived.StillTailTactics
import Derived.Deep.RegionWith
namespace Go.Proofs.Ytanaoepakllohaa
set_option maxRecDepth 16000
open Go.RowKit Spoor
set_option linter.unusedVariables false

def parO (st : Nat × Nat) : Obj := .cells #[.int .i64 st.1, .int .i64 st.2] 123
theorem of_one (w : World) : Calls Try.prog 89 #[.int .u32 1] w fun e w' => e = .returned (.agg #[.int .i64 1, .int .i64 0]) ∧ Below w.heap.size w w' := by
  have nb := (Below.refl w.heap.size w).alloc (Nat.le_refl _) (.cells #[.int .i64 1, .int .i64 0] 123)
  have hb : (wrap64 (bits BinOp.and IntKind.u32 1 65535)).tmod 65521 = 1 := by decide +kernel
  have y0 : (w.alloc (.cells #[.int .i64 1, .int .i64 0] 123)).cell? ⟨w.heap.size, 0, none⟩ = some (.int .i64 1) := by rw [World.cell?_alloc_at _ _ _ _ (by simp)]; rfl
  have y1 : (w.alloc (.cells #[.int .i64 1, .int .i64 0] 123)).cell? ⟨w.heap.size, 1, none⟩ = some (.int .i64 0) := by rw [World.cell?_alloc_at _ _ _ _ (by simp)]; rfl
  go_enter Try.func89, Try.ntmps89
  go_wp2_with fail
  generalize w.alloc _ = w9 at *
  refine bodyPost_ret (v := .agg #[.int .i64 1, .int .i64 0]) (by simp [results, Try.results89, go_sem, y0, y1]) rfl ⟨rfl, nb⟩
theorem add_any (P B : Nat) (a b : Nat) (c : UInt8) (w : World) (h : w.heap[P]? = some (parO (a, b))) (ha : a < 65521) (hb : b < 65521) (hB : B ≤ P) :
    Calls Try.prog 91 #[.pointer (some ⟨P, 0, none⟩), .int .u8 c.toNat] w fun e w' => e = .returned (.tuple #[]) ∧ w'.heap[P]? = some (parO (adStep (a, b) c)) ∧ Below B w w' := by
  have hc := c.toNat_lt
  obtain ⟨A, hA⟩ : ∃ A : Nat, (a + c.toNat) % 65521 = A := ⟨_, rfl⟩
  obtain ⟨D, hD⟩ : ∃ D : Nat, (b + A) % 65521 = D := ⟨_, rfl⟩
  have hA2 : ((a : Int) + (c.toNat : Int)) % 65521 = (A : Int) := by omega
  have hD2 : ((b : Int) + (A : Int)) % 65521 = (D : Int) := by omega
  have hAl : A < 65521 := by omega
  have hD3 : (IntKind.i64.wrap ((b : Int) + (A : Int))).tmod 65521 = (D : Int) := by
    rw [show IntKind.i64.wrap ((b : Int) + (A : Int)) = (b : Int) + (A : Int) by rw [IntKind.wrap_i64]; omega, Int.tmod_eq_emod_of_nonneg (by omega)]
    exact hD2
  have hst : adStep (a, b) c = (A, D) := by unfold adStep; simp only [hA, hD]
  rw [hst]
  have c0 : w.cell? ⟨P, 0, none⟩ = some (.int .i64 a) := by unfold parO at h; simp [World.cell?, h]
  have c1 : w.cell? ⟨P, 1, none⟩ = some (.int .i64 b) := by unfold parO at h; simp [World.cell?, h]
  have f0 : w.frozen? ⟨P, 0, none⟩ = false := by unfold parO at h; simp [World.frozen?, h]
  have f1 : w.frozen? ⟨P, 1, none⟩ = false := by unfold parO at h; simp [World.frozen?, h]
  have hfin : ((w.setCell ⟨P, 0, none⟩ (.int .i64 A)).setCell ⟨P, 1, none⟩ (.int .i64 D)).heap[P]? = some (parO (A, D)) := by
    unfold parO at h
    have h1 := heap_setCell_same w P 0 _ _ (.int .i64 (A : Int)) h
    have h2 := heap_setCell_same _ P 1 _ _ (.int .i64 (D : Int)) h1
    rw [h2]
    rfl
  have HF := Lib.hid hfin
  have hbl := ((Below.refl B w).setCell (p := ⟨P, 0, none⟩) hB (.int .i64 A)).setCell (p := ⟨P, 1, none⟩) hB (.int .i64 D)
  have HL := Lib.hid hbl
  clear h hfin hbl hst hA hD
  go_enter Try.func91, Try.ntmps91
  go_wp2_with fail
  go_region_with fail
  all_goals
    go_wp2_with fail
    go_end0
    exact ⟨rfl, HF.out, HL.out.drew⟩
set_option maxRecDepth 100000 in
theorem eachS_any (P : Nat) (s : List UInt8) (w : World) (h : w.heap[P]? = some (parO (1, 0))) (hs : s.length ≤ 140737488351232) :
    Calls Try.prog 90 #[.string ⟨s.toArray⟩, .func (.func 91) #[.pointer (some ⟨P, 0, none⟩)] #[]] w fun e w' => e = .returned (.tuple #[]) ∧ w'.heap[P]? = some (parO (adler (1, 0) s)) ∧ Below P w w' := by
  obtain ⟨n, hn⟩ : ∃ n, s.length = n := ⟨_, rfl⟩
  have HN := Lib.hid hn
  have H := Lib.hid h
  rw [hn] at hs
  clear h hn
  go_enter Try.func90, Try.ntmps90
  go_wp2_with fail
  rw [HN.out]
  go_loopw [7] (fun i wr => ∃ k : Nat, i = .int .i64 k ∧ k ≤ n ∧ Hid (wr.heap[P]? = some (parO (adler (1, 0) (s.take k))) ∧ Below P w wr)) (fun i _ => n - (intOf i).toNat)
  case atStart => exact ⟨0, rfl, by omega, Lib.hid ⟨H.out, Below.refl _ _⟩⟩
  case round =>
    obtain ⟨k, rfl, hk, HQ⟩ := hrel
    by_cases hlt : k < n
    · have hkl : k < s.length := by rw [HN.out]; exact hlt
      have i1 := fun W => at_of s k hkl W
      have hlt2 := adler_lt (s.take k) (1, 0) ⟨by decide, by decide⟩
      have ac := add_any P P (adler (1, 0) (s.take k)).1 (adler (1, 0) (s.take k)).2 (s.getD k 0) wr HQ.out.1 hlt2.1 hlt2.2 (Nat.le_refl _)
      have hnext : adStep (adler (1, 0) (s.take k)) (s.getD k 0) = adler (1, 0) (s.take (k + 1)) := by
        rw [take_getD s k hkl, adler_snoc]
      obtain ⟨c, hc⟩ : ∃ c, s.getD k 0 = c := ⟨_, rfl⟩
      rw [hc] at i1 ac hnext
      have AC := Lib.hid ac
      have HX := Lib.hid hnext
      clear ac hnext hlt2 hkl hc
      go_wp2_with fail
      refine AC.out.mono ?_
      rintro e w1 ⟨rfl, h1, b1⟩
      rw [show (adStep ((adler (1, 0) (s.take k)).1, (adler (1, 0) (s.take k)).2) c) = adler (1, 0) (s.take (k + 1)) from HX.out] at h1
      have HY := Lib.hid (And.intro h1 (HQ.out.2.trans b1))
      clear h1 b1 AC HX HQ i1
      go_wp2_with fail
      go_roundw
      case rel => exact ⟨k + 1, rfl, by omega, HY⟩
      case measure => simp [intOf]; omega
    · obtain rfl : k = n := by omega
      have HF := Lib.hid (show wr.heap[P]? = some (parO (adler (1, 0) s)) ∧ Below P w wr by have := HQ.out; rwa [← HN.out, List.take_length] at this)
      clear HQ
      go_wp2_with fail
      go_end0
      exact ⟨rfl, HF.out⟩
theorem or_u32 (b a : Nat) (hb : b < 65521) (ha : a < 65521) : bits BinOp.or IntKind.u32 ((b : Int) * 65536) (a : Int) = ((b * 65536 + a : Nat) : Int) := by
  have hx : (b * 65536) ||| a < 2 ^ 32 := Nat.or_lt_two_pow (by omega) (by omega)
  have h1 : (BitVec.ofInt 32 ((b * 65536 : Nat) : Int)).toNat = b * 65536 := by
    rw [BitVec.ofInt_natCast, BitVec.toNat_ofNat]; exact Nat.mod_eq_of_lt (by omega)
  have h2 : (BitVec.ofInt 32 (a : Int)).toNat = a := by
    rw [BitVec.ofInt_natCast, BitVec.toNat_ofNat]; exact Nat.mod_eq_of_lt (by omega)
  rw [show (b : Int) * 65536 = ((b * 65536 : Nat) : Int) by omega]
  show IntKind.u32.wrap ((BitVec.ofInt 32 ((b * 65536 : Nat) : Int) ||| BitVec.ofInt 32 (a : Int)).toNat : Int) = _
  rw [BitVec.toNat_or, h1, h2, nat_join 16 _ _ (by omega) (by omega), IntKind.wrap_u32']
  omega
theorem sumP_any (P : Nat) (a b : Nat) (w : World) (h : w.heap[P]? = some (parO (a, b))) (ha : a < 65521) (hb : b < 65521) :
    Calls Try.prog 92 #[.pointer (some ⟨P, 0, none⟩)] w fun e w' => e = .returned (.int .u32 ((b * 65536 + a : Nat) : Int)) ∧ Below w.heap.size w w' := by
  have c0 : w.cell? ⟨P, 0, none⟩ = some (.int .i64 a) := by unfold parO at h; simp [World.cell?, h]
  have c1 : w.cell? ⟨P, 1, none⟩ = some (.int .i64 b) := by unfold parO at h; simp [World.cell?, h]
  have ho := or_u32 b a hb ha
  have w1 : IntKind.u32.wrap (b : Int) = (b : Int) := by rw [IntKind.wrap_u32']; omega
  have w2 : IntKind.u32.wrap ((b : Int) * 65536) = (b : Int) * 65536 := by rw [IntKind.wrap_u32']; omega
  have w3 : IntKind.u32.wrap (a : Int) = (a : Int) := by rw [IntKind.wrap_u32']; omega
  generalize ((b * 65536 + a : Nat) : Int) = S at *
  clear h
  go_enter Try.func92, Try.ntmps92
  go_wp2_with fail
  go_region_with fail
  all_goals
    go_wp2_with fail
    go_ret
    exact ⟨rfl, (Below.refl _ _).drew⟩
theorem more_any (s : List UInt8) (w : World) (hs : s.length ≤ 140737488351232) :
    Calls Try.prog 81 #[.int .u32 1, .string ⟨s.toArray⟩] w fun e w' => e = .returned (.int .u32 (sumN s : Nat)) ∧ Below w.heap.size w w' := by
  have hlt := adler_lt s (1, 0) ⟨by decide, by decide⟩
  have HL := Lib.hid hlt
  clear hlt
  go_enter Try.func81, Try.ntmps81
  go_wp2_with fail
  refine (of_one w).mono ?_
  rintro e w1 ⟨rfl, b1⟩
  have nb := (Below.refl w1.heap.size w1).alloc (Nat.le_refl _) (parO (1, 0))
  have h0 : (w1.alloc (parO (1, 0))).heap[w1.heap.size]? = some (parO (1, 0)) := heap_alloc_new w1 _
  have ec := eachS_any w1.heap.size s (w1.alloc (parO (1, 0))) h0 hs
  have EC := Lib.hid ec
  have HB := Lib.hid (b1.trans (nb.mono b1.size))
  have HS := Lib.hid b1.size
  clear ec nb h0 b1
  unfold parO at EC HB
  go_wp2_with fail
  refine EC.out.mono ?_
  rintro e w2 ⟨rfl, h2, b2⟩
  have sc := sumP_any w1.heap.size (adler (1, 0) s).1 (adler (1, 0) s).2 w2 h2 HL.out.1 HL.out.2
  have SC := Lib.hid sc
  have HB2 := Lib.hid (HB.out.trans (b2.mono HS.out))
  clear sc h2 b2 EC
  go_wp2_with fail
  refine SC.out.mono ?_
  rintro e w3 ⟨rfl, b3⟩
  have B3 := btP HB2.out b3
  clear b3 SC
  go_wp2_with fail
  go_ret
  exact ⟨rfl, B3⟩
theorem sumN_any (s : List UInt8) (w : World) (hs : s.length ≤ 140737488351232) :
    Calls Try.prog 63 #[.string ⟨s.toArray⟩] w fun e w' => e = .returned (.int .u32 (sumN s : Nat)) ∧ Below w.heap.size w w' := by
  go_enter Try.func63, Try.ntmps63
  go_wp2_with fail
  refine (more_any s w hs).mono ?_
  rintro e w1 ⟨rfl, b1⟩
  go_wp2_with fail
  go_ret
  exact ⟨rfl, b1⟩
theorem run_append_byte {base : Nat} {v : Value} {l : List UInt8} {w : World} (own : w.ownsRow base 5 1 v l.length (row l)) (hb : base ≤ w.heap.size) (g : Nat) (c : UInt8) (hg : w.heap[g]? = some (.cells #[.int .u8 c.toNat] 5 (0, 0))) (hsz : l.length ≤ 100000) :
    ∃ v' w', (Builtin.append_ #[60, 60] 60 #[v, .slice (some ⟨g, 0, none⟩) 1 1]).run Try.prog w = .ok v' w' ∧ w'.ownsRow base 5 1 v' (l ++ [c]).length (row (l ++ [c])) ∧ Below base w w' := by
  obtain ⟨j0, gi, gz0, gz1, gz2⟩ := info_one info_u8
  obtain ⟨v', w', hr, r1, r2⟩ := run_append_every2 (P := Try.prog) w 60 60 60 base 5 5 j0 _ 1 1 Try.underlying60 Try.underlying60 gi gz0 gz1 gz2 rfl (by decide) v l.length (row l) own (some ⟨g, 0, none⟩) 1 1 [.int .u8 c.toNat] rfl
    (fun _ => ⟨_, rfl, fun j u hj => by
      cases j with
      | zero =>
        simp at hj
        subst hj
        simp [World.cell?, hg, Addr.add]
      | succ j => simp at hj⟩) (fun u hu => by simp at hu; subst hu; rfl) (by unfold maxLen; omega) (by omega) hb
  refine ⟨v', w', hr, ?_, ?_⟩
  · rw [List.length_append]
    have : row (l ++ [c]) = row l ++ [.int .u8 c.toNat] := by simp [row]
    rw [this]
    exact r1
  · refine (Below.refl base w).grown r2 hb fun k hk => ?_
    rcases own.2 with ⟨rfl, _⟩ | ⟨g, c, cur, rfl, hg, _⟩
    · simp [Value.ownBlock] at hk
    · have : g = k := by simpa [Value.ownBlock] using hk
      omega
def byteOf (n k : Nat) : UInt8 := UInt8.ofNat (n / 2 ^ (24 - 8 * k) % 256)
def bytesTo (n k : Nat) : List UInt8 := (List.range k).map (byteOf n)
theorem bytesTo_succ (n k : Nat) : bytesTo n (k + 1) = bytesTo n k ++ [byteOf n k] := by simp [bytesTo, List.range_succ]
theorem bytesTo_four (n : Nat) (h : n < 4294967296) : bytesTo n 4 = sum4 n := by
  have e : bytesTo n 4 = [byteOf n 0, byteOf n 1, byteOf n 2, byteOf n 3] := rfl
  rw [e]
  unfold sum4 byteOf
  have h1 : n / 2 ^ (24 - 8 * 0) % 256 = n / 16777216 := by
    show n / 16777216 % 256 = _
    omega
  rw [h1]
  simp
theorem bytes_any (n : Nat) (w : World) (h : n < 4294967296) :
    Calls Try.prog 62 #[.int .u32 n] w fun e w' => e = .returned (.string ⟨(sum4 n).toArray⟩) ∧ Below w.heap.size w w' := by
  have h4 := Lib.hid (bytesTo_four n h)
  go_enter Try.func62, Try.ntmps62
  go_wp2_with fail
  go_loopw [3, 4] (fun v i wr => ∃ k : Nat, k ≤ 4 ∧ i = .int .i64 (24 - 8 * (k : Int)) ∧ Hid (wr.ownsRow w.heap.size 5 1 v (bytesTo n k).length (row (bytesTo n k)) ∧ Below w.heap.size w wr)) (fun _ i _ => (intOf i + 8).toNat)
  case atStart => exact ⟨0, by omega, rfl, Lib.hid ⟨World.ownsRow_nil _ _ _ _, Below.refl _ _⟩⟩
  case round =>
    obtain ⟨k, hk, rfl, HQ⟩ := hrel
    by_cases hlt : k < 4
    · have e1 : 8 * (k : Int) ≤ 24 := by omega
      obtain ⟨c, hc⟩ : ∃ c, byteOf n k = c := ⟨_, rfl⟩
      have hc2 : (n : Int) / 2 ^ (24 - 8 * k) % 256 = (c.toNat : Int) := by
        rw [← hc]
        unfold byteOf
        rw [show (n : Int) / 2 ^ (24 - 8 * k) % 256 = ((n / 2 ^ (24 - 8 * k) % 256 : Nat) : Int) by simp]
        have hm : n / 2 ^ (24 - 8 * k) % 256 < 256 := Nat.mod_lt _ (by decide)
        simp
      have hbl := bytesTo_succ n k
      rw [hc] at hbl
      have nb := (Below.refl wr.heap.size wr).alloc (Nat.le_refl _) (.cells #[.int .u8 c.toNat] 5)
      have hbs := HQ.out.2.size
      obtain ⟨v', w', run, own, b2⟩ := run_append_byte (own_lat HQ.out.1 nb) (Nat.le_trans hbs nb.size) wr.heap.size c (heap_alloc_new wr _) (by simp [bytesTo]; omega)
      rw [← hbl] at own
      have HX := Lib.hid (And.intro own ((HQ.out.2.trans (nb.mono hbs)).trans b2))
      have RUN := Lib.hid run
      clear run own b2 nb hbs hbl hc HQ
      go_wp2_with (at_builtin; refine wpList_append_runE _ rfl _ _ 60 60 rfl _ _ rfl rfl RUN.out ?_)
      go_roundw
      case rel => exact ⟨k + 1, by omega, by go_num, HX⟩
      case measure => simp [intOf]; omega
    · obtain rfl : k = 4 := by omega
      have hcv : ∃ A m cap, u3 = .slice A m cap ∧ (convert 60 9 (.slice A m cap)).run Try.prog wr = .ok (.string ⟨(sum4 n).toArray⟩) wr := by
        have own := HQ.out.1
        rw [h4.out] at own
        rcases own.2 with ⟨_, h0⟩ | ⟨g, cap, cur, rfl, _⟩
        · cases h0
        · exact ⟨_, _, cap, rfl, convert_row wr Try.underlying60 Try.underlying5 Try.underlying9 own⟩
      obtain ⟨A, m, cap, rfl, hcv⟩ := hcv
      have HB := Lib.hid HQ.out.2
      clear HQ
      go_wp2_with fail
      go_ret
      exact ⟨rfl, HB.out⟩
theorem conv4 (W : World) (a b c d : Int) : (convert 60 9 (.slice (some ⟨W.heap.size, 0, none⟩) 4 4)).run Try.prog (W.alloc (.cells #[.int .u8 a, .int .u8 b, .int .u8 c, .int .u8 d] 5)) = .ok (.string ⟨[UInt8.ofNat a.toNat, UInt8.ofNat b.toNat, UInt8.ofNat c.toNat, UInt8.ofNat d.toNat].toArray⟩) (W.alloc (.cells #[.int .u8 a, .int .u8 b, .int .u8 c, .int .u8 d] 5)) :=
  run_convert_bytes_arg (P := Try.prog) (W.alloc (.cells #[.int .u8 a, .int .u8 b, .int .u8 c, .int .u8 d] 5)) _ _ Try.underlying60 Try.underlying5 W.heap.size 0 4 4 [a, b, c, d] rfl (fun i hi => by
    rcases (by omega : i = 0 ∨ i = 1 ∨ i = 2 ∨ i = 3) with rfl | rfl | rfl | rfl <;> simp [List.getD]) _ Try.underlying9
theorem refBytes_any (n : Nat) (w : World) (h : n < 4294967296) :
    Calls Try.prog 67 #[.int .u32 n] w fun e w' => e = .returned (.string ⟨(sum4 n).toArray⟩) ∧ Below w.heap.size w w' := by
  have hc := conv4
  have nb := fun o => (Below.refl w.heap.size w).alloc (Nat.le_refl _) o
  have NB := Lib.hid nb
  clear nb
  go_enter Try.func67, Try.ntmps67
  go_wp2_with fail
  go_ret
  exact ⟨rfl, NB.out _⟩
theorem refParts_one (w : World) : Calls Try.prog 93 #[.int .u32 1] w fun e w' => e = .returned (.tuple #[.int .i64 1, .int .i64 0]) ∧ Below w.heap.size w w' := by
  go_enter Try.func93, Try.ntmps93
  go_wp2_with fail
  go_ret2
  exact ⟨rfl, Below.refl _ _⟩
theorem refWhole_any (a b : Nat) (ha : a < 65521) (hb : b < 65521) (w : World) : Calls Try.prog 94 #[.int .i64 a, .int .i64 b] w fun e w' => e = .returned (.int .u32 ((b * 65536 + a : Nat) : Int)) ∧ Below w.heap.size w w' := by
  have w1 : IntKind.u32.wrap (b : Int) = (b : Int) := by rw [IntKind.wrap_u32']; omega
  have w2 : IntKind.u32.wrap ((b : Int) * 65536) = (b : Int) * 65536 := by rw [IntKind.wrap_u32']; omega
  have w3 : IntKind.u32.wrap (a : Int) = (a : Int) := by rw [IntKind.wrap_u32']; omega
  have w4 : IntKind.u32.wrap ((b : Int) * 65536 + (a : Int)) = (b : Int) * 65536 + (a : Int) := by rw [IntKind.wrap_u32']; omega
  have e : ((b * 65536 + a : Nat) : Int) = (b : Int) * 65536 + (a : Int) := by omega
  rw [e]
  clear e
  go_enter Try.func94, Try.ntmps94
  go_wp2_with fail
  go_ret
  exact ⟨rfl, Below.refl _ _⟩
set_option maxRecDepth 100000 in
theorem refMore_any (s : List UInt8) (w : World) (hs : s.length ≤ 140737488351232) :
    Calls Try.prog 82 #[.int .u32 1, .string ⟨s.toArray⟩] w fun e w' => e = .returned (.int .u32 (sumN s : Nat)) ∧ Below w.heap.size w w' := by
  obtain ⟨n, hn⟩ : ∃ n, s.length = n := ⟨_, rfl⟩
  have HN := Lib.hid hn
  rw [hn] at hs
  clear hn
  go_enter Try.func82, Try.ntmps82
  go_wp2_with fail
  refine (refParts_one w).mono ?_
  rintro e w1 ⟨rfl, b1⟩
  go_wp2_with fail
  go_loopw [5, 6, 7] (fun a b i wr => ∃ (k A B : Nat), i = .int .i64 k ∧ k ≤ n ∧ a = .int .i64 A ∧ b = .int .i64 B ∧ A < 65521 ∧ B < 65521 ∧ Hid ((A, B) = adler (1, 0) (s.take k)) ∧ Below w.heap.size w wr) (fun _ _ i _ => n - (intOf i).toNat)
  case atStart => exact ⟨0, 1, 0, rfl, by omega, rfl, rfl, by omega, by omega, Lib.hid rfl, b1⟩
  case round =>
    obtain ⟨k, A, B, rfl, hk, rfl, rfl, hA, hB, HQ, bb⟩ := hrel
    by_cases hlt : k < n
    · have hkl : k < s.length := by rw [HN.out]; exact hlt
      have i1 := fun W => at_of s k hkl W
      obtain ⟨c, hc⟩ : ∃ c, s.getD k 0 = c := ⟨_, rfl⟩
      have hcl := c.toNat_lt
      obtain ⟨A', hA'⟩ : ∃ A' : Nat, (A + c.toNat) % 65521 = A' := ⟨_, rfl⟩
      obtain ⟨B', hB'⟩ : ∃ B' : Nat, (B + A') % 65521 = B' := ⟨_, rfl⟩
      have hA2 : ((A : Int) + (c.toNat : Int)) % 65521 = (A' : Int) := by omega
      have hB2 : ((B : Int) + (A' : Int)) % 65521 = (B' : Int) := by omega
      have hAl : A' < 65521 := by omega
      have hBl : B' < 65521 := by omega
      have hnext : (A', B') = adler (1, 0) (s.take (k + 1)) := by
        rw [take_getD s k hkl, adler_snoc, ← HQ.out, hc]
        unfold adStep
        simp only [hA', hB']
      rw [hc] at i1
      have HX := Lib.hid hnext
      have hL : s.length = n := HN.out
      clear hnext hc hkl HQ hA' hB'
      go_wp2_with fail
      go_roundw
      case rel =>
        exact ⟨k + 1, A', B', rfl, by omega, by go_num, by go_num, hAl, hBl, HX, bb⟩
      case measure => simp [intOf]; omega
    · obtain rfl : k = n := by omega
      have hL : s.length = k := HN.out
      have hfin : sumN s = B * 65536 + A := by
        have h := HQ.out
        rw [← HN.out, List.take_length] at h
        unfold sumN
        rw [← h]
      have HF := Lib.hid hfin
      clear HQ hfin
      go_wp2_with fail
      clear hL
      refine (refWhole_any A B hA hB _).mono ?_
      rintro e w2 ⟨rfl, b2⟩
      go_wp2_with fail
      go_ret
      exact ⟨ret1 (by rw [HF.out, Int.natCast_add, Int.natCast_mul]; rfl), btP bb b2⟩
theorem refSumN_any (s : List UInt8) (w : World) (hs : s.length ≤ 140737488351232) :
    Calls Try.prog 68 #[.string ⟨s.toArray⟩] w fun e w' => e = .returned (.int .u32 (sumN s : Nat)) ∧ Below w.heap.size w w' := by
  go_enter Try.func68, Try.ntmps68
  go_wp2_with fail
  refine (refMore_any s w hs).mono ?_
  rintro e w1 ⟨rfl, b1⟩
  go_wp2_with fail
  go_ret
  exact ⟨rfl, b1⟩
theorem sumB_any (s : List UInt8) (w : World) (hs : s.length ≤ 140737488351232) :
    Calls Try.prog 32 #[.string ⟨s.toArray⟩] w fun e w' => e = .returned (.string ⟨(sumB s).toArray⟩) ∧ Below w.heap.size w w' := by
  have hl := sumN_lt s
  have cc := fun W => bytes_any (sumN s) W hl
  have CC := Lib.hid cc
  have SC := Lib.hid (sumN_any s w hs)
  unfold sumB
  clear cc
  generalize sumN s = n at *
  go_enter Try.func32, Try.ntmps32
  go_wp2_with fail
  refine SC.out.mono ?_
  rintro e w1 ⟨rfl, b1⟩
  go_wp2_with fail
  refine (CC.out _).mono ?_
  rintro e w2 ⟨rfl, b2⟩
  go_wp2_with fail
  go_ret
  exact ⟨rfl, btP b1 b2⟩
theorem refSumB_any (s : List UInt8) (w : World) (hs : s.length ≤ 140737488351232) :
    Calls Try.prog 39 #[.string ⟨s.toArray⟩] w fun e w' => e = .returned (.string ⟨(sumB s).toArray⟩) ∧ Below w.heap.size w w' := by
  have hl := sumN_lt s
  have cc := fun W => refBytes_any (sumN s) W hl
  have CC := Lib.hid cc
  have SC := Lib.hid (refSumN_any s w hs)
  unfold sumB
  clear cc
  generalize sumN s = n at *
  go_enter Try.func39, Try.ntmps39
  go_wp2_with fail
  refine SC.out.mono ?_
  rintro e w1 ⟨rfl, b1⟩
  go_wp2_with fail
  refine (CC.out _).mono ?_
  rintro e w2 ⟨rfl, b2⟩
  go_wp2_with fail
  go_ret
  exact ⟨rfl, btP b1 b2⟩
end Go.Proofs.Ytanaoepakllohaa
