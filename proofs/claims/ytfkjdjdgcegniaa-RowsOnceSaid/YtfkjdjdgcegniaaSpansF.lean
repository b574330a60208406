/- The walk of spans.Encode. -/
import Derived.Test.YtfkjdjdgcegniaaSpansE
import Derived.Test.YtfkjdjdgcegniaaBuilder
namespace Go.Proofs.Ytfkjdjdgcegniaa
set_option maxRecDepth 16000
open Go.RowKit Spoor

/-- where the i-th number lies in a span -/
def offN : Nat → Nat
  | 0 => 0
  | 1 => 1
  | 2 => 2
  | 3 => 5
  | _ => 6
def offT : Nat → Nat
  | 0 => 3
  | 1 => 4
  | _ => 7
/-- the three texts, in the order in which they are put -/
def txt (x : Sp) : Nat → List UInt8
  | 0 => x.sv
  | 1 => x.ho
  | _ => x.no
theorem nums_index (b i : Nat) (h : i < 5) (w : World) : (Instr.index 75 (numsV b) (.int .i64 (i : Int))).run Try.prog w = .ok (.agg #[.pointer (some ⟨b, offN i, none⟩), .int .i64 (Spoor.leastOf i), .int .i64 (Spoor.mostOf i)]) w := by
  match i, h with
  | 0, _ => exact nums_index0 b w
  | 1, _ => exact nums_index1 b w
  | 2, _ => exact nums_index2 b w
  | 3, _ => exact nums_index3 b w
  | 4, _ => exact nums_index4 b w
theorem texts_index0 (b : Nat) (w : World) : (Instr.index 88 (textsV b) (.int .i64 0)).run Try.prog w = .ok (.pointer (some ⟨b, 3, none⟩)) w := by kernel_rfl
theorem texts_index1 (b : Nat) (w : World) : (Instr.index 88 (textsV b) (.int .i64 1)).run Try.prog w = .ok (.pointer (some ⟨b, 4, none⟩)) w := by kernel_rfl
theorem texts_index2 (b : Nat) (w : World) : (Instr.index 88 (textsV b) (.int .i64 2)).run Try.prog w = .ok (.pointer (some ⟨b, 7, none⟩)) w := by kernel_rfl
theorem texts_index (b i : Nat) (h : i < 3) (w : World) : (Instr.index 88 (textsV b) (.int .i64 (i : Int))).run Try.prog w = .ok (.pointer (some ⟨b, offT i, none⟩)) w := by
  match i, h with
  | 0, _ => exact texts_index0 b w
  | 1, _ => exact texts_index1 b w
  | 2, _ => exact texts_index2 b w
theorem SpAt.num {b : Nat} {x : Sp} {w : World} (h : SpAt b x w) (i : Nat) : w.cell? ⟨b, offN i, none⟩ = some (.int .i64 (x.num i)) := by
  obtain ⟨c0, c1, c2, c3, c4, c5, c6, c7⟩ := h.cell
  match i with
  | 0 => exact c0
  | 1 => exact c1
  | 2 => exact c2
  | 3 => exact c5
  | n + 4 => exact c6
theorem SpAt.txt {b : Nat} {x : Sp} {w : World} (h : SpAt b x w) (i : Nat) : w.cell? ⟨b, offT i, none⟩ = some (.string ⟨(txt x i).toArray⟩) := by
  obtain ⟨c0, c1, c2, c3, c4, c5, c6, c7⟩ := h.cell
  match i with
  | 0 => exact c3
  | 1 => exact c4
  | n + 2 => exact c7

theorem own_later {w w' : World} {B e size n : Nat} {v : Value} {xs : List Value} (h : w.ownsRow B e size v n xs) (hb : Below w.heap.size w w') : w'.ownsRow B e size v n xs := by
  refine ⟨h.1, ?_⟩
  rcases h.2 with hn | ⟨g, cap, cur, rfl, hg, hgg, rest⟩
  · exact .inl hn
  · exact .inr ⟨g, cap, cur, rfl, hg, by rw [hb.block g (Array.getElem?_eq_some_iff.1 hgg).1]; exact hgg, rest⟩
theorem Bld.later {B b : Nat} {l : List UInt8} {w w' : World} (h : Bld B b l w) (hb : Below w.heap.size w w') : Bld B b l w' := by
  unfold Bld Lib.IsBuilder Lib.BuilderAt at *
  rcases h with ⟨h1, v, h2, h3, h4⟩ | ⟨h1, v, h2, h3, h4⟩
  · exact .inl ⟨h1, v, by rw [hb.block b (Array.getElem?_eq_some_iff.1 h2).1]; exact h2, own_later h3 hb, h4⟩
  · exact .inr ⟨h1, v, by rw [hb.block b (Array.getElem?_eq_some_iff.1 h2).1]; exact h2, own_later h3 hb, h4⟩

/-- the bytes of the first numbers, and then of the first texts -/
def accN (x : Sp) : Nat → List UInt8
  | 0 => []
  | i + 1 => accN x i ++ put (x.num i).toNat
def accT (x : Sp) : Nat → List UInt8
  | 0 => accN x 5
  | i + 1 => accT x i ++ putText (txt x i)
theorem accT_bytes (x : Sp) : accT x 3 = x.bytes := by
  simp [accT, accN, Sp.bytes, txt, Sp.num]

theorem encode_bad (x : Sp) (w : World) (hf : Fits x) (h : x.ok = false) :
    Calls Try.prog 27 #[spVal x] w fun e w' => e = .returned (.tuple #[.string ⟨#[]⟩, .int .i64 2]) ∧ Below w.heap.size w w' := by
  have c := fun W => check_any x W hf
  have e : checkV x = 2 := by unfold checkV; rw [h]; rfl
  rw [e] at c
  have C := Lib.hid c
  clear c h e
  unfold spVal at *
  go_enter Try.func27, Try.ntmps27
  go_wp2_with fail
  refine (C.out _).mono ?_
  rintro e w1 ⟨rfl, hb⟩
  go_wp2_with fail
  go_ret2
  exact ⟨rfl, ((Below.refl _ _).alloc (Nat.le_refl _) _).trans (hb.mono (by simp))⟩

set_option maxHeartbeats 1000000 in
theorem encode_good (x : Sp) (w : World) (h : x.ok = true) :
    Calls Try.prog 27 #[spVal x] w fun e w' => e = .returned (.tuple #[.string ⟨x.bytes.toArray⟩, .int .i64 0]) ∧ Below w.heap.size w w' := by
  obtain ⟨⟨a1, a2⟩, ⟨b1, b2⟩, ⟨c1, c2⟩, ⟨d1, d2⟩, ⟨e1, e2⟩, f, g, k⟩ := ok_of h
  have fl := nameOk_of f
  have gl := nameOk_of g
  have c := fun W => check_any x W ⟨by omega, by omega, by omega⟩
  have e : checkV x = 0 := by unfold checkV; rw [h]; rfl
  rw [e] at c
  have C := Lib.hid c
  have hnum : ∀ i, 0 ≤ x.num i ∧ x.num i ≤ 2147483647 := by
    intro i
    match i with
    | 0 => exact ⟨by show 0 ≤ x.tr; omega, by show x.tr ≤ _; omega⟩
    | 1 => exact ⟨by show 0 ≤ x.id; omega, by show x.id ≤ _; omega⟩
    | 2 => exact ⟨by show 0 ≤ x.pa; omega, by show x.pa ≤ _; omega⟩
    | 3 => exact ⟨by show 0 ≤ x.st; omega, by show x.st ≤ _; omega⟩
    | n + 4 => exact ⟨by show 0 ≤ x.du; omega, by show x.du ≤ _; omega⟩
  have hput : ∀ (i : Nat) (W : World), Calls Try.prog 43 #[.int .i64 (x.num i)] W fun e w' => e = .returned (.string ⟨(put (x.num i).toNat).toArray⟩) ∧ Below W.heap.size W w' := fun i W => by
    have := put_nat (x.num i).toNat W (by have := hnum i; omega)
    rwa [Int.toNat_of_nonneg (hnum i).1] at this
  have htxt : ∀ i, (txt x i).length ≤ 24 := by
    intro i
    match i with
    | 0 => show x.sv.length ≤ 24; omega
    | 1 => show x.ho.length ≤ 24; omega
    | n + 2 => exact k
  have hpt : ∀ (i : Nat) (W : World), Calls Try.prog 45 #[.string ⟨(txt x i).toArray⟩] W fun e w' => e = .returned (.string ⟨(putText (txt x i)).toArray⟩) ∧ Below W.heap.size W w' := fun i W =>
    putText_any ⟨(txt x i).toArray⟩ W (by simp only [ByteArray.size_mk', List.size_toArray]; have := htxt i; omega)
  have lN : ∀ i, (accN x i).length ≤ 9 * i := by
    intro i
    induction i with
    | zero => simp [accN]
    | succ i ih =>
      have := put_length9 (x.num i).toNat (by have := hnum i; omega)
      rw [accN, List.length_append]; omega
  have lT : ∀ i, (accT x i).length ≤ 45 + 25 * i := by
    intro i
    induction i with
    | zero => have := lN 5; rw [accT]; omega
    | succ i ih =>
      have := putText_length_le (htxt i) (by omega)
      rw [accT, List.length_append]; omega
  have lP : ∀ i, (put (x.num i).toNat).length ≤ 9 := fun i => put_length9 _ (by have := hnum i; omega)
  have lQ : ∀ i, (putText (txt x i)).length ≤ 25 := fun i => putText_length_le (htxt i) (by omega)
  have HPut := Lib.hid hput
  have HPt := Lib.hid hpt
  have LN := Lib.hid lN
  have LT := Lib.hid lT
  have LP := Lib.hid lP
  have LQ := Lib.hid lQ
  clear hput hpt lN lT lP lQ hnum htxt c e h f g a1 a2 b1 b2 c1 c2 d1 d2 e1 e2 fl gl k
  obtain ⟨R, hR⟩ : ∃ R, x.bytes = R := ⟨_, rfl⟩
  rw [hR]
  have HR := Lib.hid hR
  clear hR
  unfold spVal at *
  go_enter Try.func27, Try.ntmps27
  go_wp2_with fail
  refine (C.out _).mono ?_
  rintro e w1 ⟨rfl, hb1⟩
  have hat : SpAt w.heap.size x w1 := (SpAt.boxed x w).later hb1 (by simp)
  have hbw : Below w.heap.size w w1 := ((Below.refl _ _).alloc (Nat.le_refl _) _).trans (hb1.mono (by simp))
  have hlt1 := hat.lt
  have HB := Lib.hid hbw
  have HA := Lib.hid hat
  clear hb1 hbw hat
  go_wp2_with fail
  refine (numbers_any _ _).mono ?_
  rintro e w2 ⟨rfl, hb2⟩
  have hbl : Bld w1.heap.size w1.heap.size [] w2 := Bld.later (Lib.fresh_isBuilder 81 5 w1) hb2
  have hb2' : Below w1.heap.size w1 w2 := ((Below.refl _ _).alloc (Nat.le_refl _) _).trans (hb2.mono (by simp))
  have hsz : w1.heap.size < w2.heap.size := by have := hb2.size; simp at this; omega
  have hbw2 := HB.out.trans (hb2'.mono (by omega))
  have hat2 := HA.out.later hb2' hlt1
  have HB2 := Lib.hid hbw2
  have HA2 := Lib.hid hat2
  have HL2 := Lib.hid hbl
  clear hb2 hb2' hbw2 hat2 hbl
  go_wp2_with fail
  go_loopw [16] (fun v wr => ∃ i : Nat, i ≤ 5 ∧ v = .int .i64 i ∧ w1.heap.size < wr.heap.size ∧ Hid (SpAt w.heap.size x wr) ∧ Hid (Bld w1.heap.size w1.heap.size (accN x i) wr) ∧ Hid (Below w.heap.size w wr)) (fun v _ => 5 - (intOf v).toNat)
  case atStart => exact ⟨0, by omega, rfl, hsz, HA2.out, HL2.out, HB2.out⟩
  case round =>
    obtain ⟨i, hi, rfl, hsr, hat, hbl, hbw⟩ := hrel
    by_cases hlt : i < 5
    · have gi := nums_index w.heap.size i hlt
      have cn := hat.out.num i
      have hlt0 := hat.out.lt
      have hl1 := LN.out i
      have hl2 := LP.out i
      go_wp2_with fail
      refine (HPut.out i _).mono ?_
      rintro e w3 ⟨rfl, hb3⟩
      have hb3' : Below wr.heap.size wr w3 := ((Below.refl _ _).alloc (Nat.le_refl _) _).trans (hb3.mono (by simp))
      have hs3 := hb3'.size
      have hbl3 := hbl.out.later hb3'
      have hat3 := hat.out.later hb3' hlt0
      have hbw3 := hbw.out.trans (hb3'.mono (by omega))
      have HBl3 := Lib.hid hbl3
      have HAt3 := Lib.hid hat3
      have HBw3 := Lib.hid hbw3
      clear hb3 hb3' hbl3 hat3 hbw3 cn
      go_wp2_with fail
      refine (writeString_any _ _ _ _ _ HBl3.out (by simp only [ByteArray.size_mk', List.size_toArray]; omega) (by omega)).mono ?_
      rintro e w4 ⟨rfl, hbl4, hb4⟩
      have hat4 := HAt3.out.later hb4 hlt1
      have hbw4 := HBw3.out.trans (hb4.mono (by omega))
      have hs4 := hb4.size
      have HBl4 := Lib.hid hbl4
      have HAt4 := Lib.hid hat4
      have HBw4 := Lib.hid hbw4
      clear hb4 hbl4 hat4 hbw4
      go_wp2_with fail
      go_roundw
      case rel => exact ⟨i + 1, by omega, by go_num, by omega, HAt4.out, HBl4.out, HBw4.out⟩
      case measure => simp [intOf]; omega
    · obtain rfl : i = 5 := by omega
      have hlt0 := hat.out.lt
      go_wp2_with fail
      refine (texts_any _ _).mono ?_
      rintro e w3 ⟨rfl, hb3⟩
      have hs3 := hb3.size
      have hbl3 := hbl.out.later hb3
      have hat3 := hat.out.later hb3 hlt0
      have hbw3 := hbw.out.trans (hb3.mono (by omega))
      have HBl3 := Lib.hid hbl3
      have HAt3 := Lib.hid hat3
      have HBw3 := Lib.hid hbw3
      clear hb3 hbl3 hat3 hbw3
      have hs3' : w1.heap.size < w3.heap.size := by omega
      go_wp2_with fail
      go_loopw [27] (fun v wr => ∃ i : Nat, i ≤ 3 ∧ v = .int .i64 i ∧ w1.heap.size < wr.heap.size ∧ Hid (SpAt w.heap.size x wr) ∧ Hid (Bld w1.heap.size w1.heap.size (accT x i) wr) ∧ Hid (Below w.heap.size w wr)) (fun v _ => 3 - (intOf v).toNat)
      case atStart => exact ⟨0, by omega, rfl, hs3', HAt3.out, HBl3.out, HBw3.out⟩
      case round =>
        clear hat hbl hbw HAt3 HBl3 HBw3 hs3 hs3'
        obtain ⟨i, hi, rfl, hsr2, hat, hbl, hbw⟩ := hrel
        by_cases hlt : i < 3
        · have gi := texts_index w.heap.size i hlt
          have cn := hat.out.txt i
          have hlt0 := hat.out.lt
          have hl1 := LT.out i
          have hl2 := LQ.out i
          go_wp2_with fail
          refine (HPt.out i _).mono ?_
          rintro e w3 ⟨rfl, hb3⟩
          have hs3 := hb3.size
          have hbl3 := hbl.out.later hb3
          have hat3 := hat.out.later hb3 hlt0
          have hbw3 := hbw.out.trans (hb3.mono (by omega))
          have HBl3 := Lib.hid hbl3
          have HAt3 := Lib.hid hat3
          have HBw3 := Lib.hid hbw3
          clear hb3 hbl3 hat3 hbw3 cn
          go_wp2_with fail
          refine (writeString_any _ _ _ _ _ HBl3.out (by simp only [ByteArray.size_mk', List.size_toArray]; omega) (by omega)).mono ?_
          rintro e w4 ⟨rfl, hbl4, hb4⟩
          have hat4 := HAt3.out.later hb4 hlt1
          have hbw4 := HBw3.out.trans (hb4.mono (by omega))
          have hs4 := hb4.size
          have HBl4 := Lib.hid hbl4
          have HAt4 := Lib.hid hat4
          have HBw4 := Lib.hid hbw4
          clear hb4 hbl4 hat4 hbw4
          go_wp2_with fail
          go_roundw
          case rel => exact ⟨i + 1, by omega, by go_num, by omega, HAt4.out, HBl4.out, HBw4.out⟩
          case measure => simp [intOf]; omega
        · obtain rfl : i = 3 := by omega
          have hblE := hbl.out
          rw [accT_bytes, HR.out] at hblE
          have HE := Lib.hid hblE
          clear hblE
          go_wp2_with fail
          refine (Try.Builder_String_any _ _ _ _ HE.out (by omega)).mono ?_
          rintro e w4 ⟨rfl, hb4⟩
          have hbw4 := hbw.out.trans (hb4.mono (by omega))
          go_wp2_with fail
          go_ret2
          exact ⟨rfl, hbw4⟩
end Go.Proofs.Ytfkjdjdgcegniaa
