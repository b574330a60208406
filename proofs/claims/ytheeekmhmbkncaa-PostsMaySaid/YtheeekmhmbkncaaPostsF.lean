/- Slices of spans in memory, batches; the walk on a batch's bytes. -/
import Derived.Test.YtheeekmhmbkncaaPostsE
import Derived.BigQuiet
import Derived.Deep.MidRow
import Derived.Lib.Hide
import Derived.Deep.QuietTactic
namespace Go.Proofs.Ytheeekmhmbkncaa
open Go.RowKit Spoor

def spRow (x : Sp) : List Value := [.int .i64 x.tr, .int .i64 x.id, .int .i64 x.pa, .string ⟨x.sv.toArray⟩, .string ⟨x.ho.toArray⟩, .int .i64 x.st, .int .i64 x.du, .string ⟨x.no.toArray⟩]
/-- the spans lie in a block from a place on -/
def RowS (b o : Nat) (l : List Sp) (w : World) : Prop := b < w.heap.size ∧ ∀ i, i < l.length → w.rangeAt b (o + i * 8) (spRow (l.getD i Sp.zero))
/-- a slice that holds the spans -/
def SlS (s : Value) (l : List Sp) (w : World) : Prop := ∃ A cap, s = .slice A l.length cap ∧ l.length ≤ cap ∧ cap ≤ maxLen ∧ (0 < l.length → ∃ b o, A = some ⟨b, o, none⟩ ∧ RowS b o l w)
theorem RowS.cells {b o : Nat} {l : List Sp} {w : World} (h : RowS b o l w) {i : Nat} (hi : i < l.length) :
    w.cell? ⟨b, o + i * 8, none⟩ = some (.int .i64 (l.getD i Sp.zero).tr) ∧ w.cell? ⟨b, o + i * 8 + 1, none⟩ = some (.int .i64 (l.getD i Sp.zero).id) ∧ w.cell? ⟨b, o + i * 8 + 2, none⟩ = some (.int .i64 (l.getD i Sp.zero).pa) ∧
    w.cell? ⟨b, o + i * 8 + 3, none⟩ = some (.string ⟨(l.getD i Sp.zero).sv.toArray⟩) ∧ w.cell? ⟨b, o + i * 8 + 4, none⟩ = some (.string ⟨(l.getD i Sp.zero).ho.toArray⟩) ∧ w.cell? ⟨b, o + i * 8 + 5, none⟩ = some (.int .i64 (l.getD i Sp.zero).st) ∧
    w.cell? ⟨b, o + i * 8 + 6, none⟩ = some (.int .i64 (l.getD i Sp.zero).du) ∧ w.cell? ⟨b, o + i * 8 + 7, none⟩ = some (.string ⟨(l.getD i Sp.zero).no.toArray⟩) :=
  ⟨h.2 i hi 0 _ rfl, h.2 i hi 1 _ rfl, h.2 i hi 2 _ rfl, h.2 i hi 3 _ rfl, h.2 i hi 4 _ rfl, h.2 i hi 5 _ rfl, h.2 i hi 6 _ rfl, h.2 i hi 7 _ rfl⟩
theorem range_later {b o B : Nat} {cs : List Value} {w w' : World} (h : w.rangeAt b o cs) (hb : Below B w w') (hlt : b < B) : w'.rangeAt b o cs := fun j v hv => (hb.cell (p := ⟨b, o + j, none⟩) hlt).trans (h j v hv)
theorem RowS.later {b o : Nat} {l : List Sp} {w w' : World} {B : Nat} (h : RowS b o l w) (hb : Below B w w') (hlt : b < B) : RowS b o l w' :=
  ⟨Nat.lt_of_lt_of_le h.1 hb.size, fun i hi => range_later (h.2 i hi) hb hlt⟩
theorem SlS.later {s : Value} {l : List Sp} {w w' : World} (h : SlS s l w) (hb : Below w.heap.size w w') : SlS s l w' := by
  obtain ⟨A, cap, h1, h2, h3, h4⟩ := h
  refine ⟨A, cap, h1, h2, h3, fun hl => ?_⟩
  obtain ⟨b, o, h5, h6⟩ := h4 hl
  exact ⟨b, o, h5, h6.later hb h6.1⟩
theorem getS_lt {l : List Sp} {P : Sp → Prop} (h : ∀ c ∈ l, P c) {i : Nat} (hi : i < l.length) : P (l.getD i Sp.zero) := by
  have : l.getD i Sp.zero = l[i] := by simp [List.getD, hi]
  rw [this]
  exact h _ (List.getElem_mem hi)
theorem take_sp (l : List Sp) (k : Nat) (h : k < l.length) : l.take (k + 1) = l.take k ++ [l.getD k Sp.zero] := by
  rw [List.take_succ_eq_append_getElem h]
  simp [List.getD, h]
def baVal (b : Ba) (s : Value) : Value := .agg #[.int .i64 b.ho, .int .i64 b.fi, s]
def boxB (b : Ba) (s : Value) : Obj := .cells #[.int .i64 b.ho, .int .i64 b.fi, s] 24
def encBaV (b : Ba) : Value := if b.ok then .tuple #[.string ⟨b.bytes.toArray⟩, .int .i64 0] else .tuple #[.string ⟨#[]⟩, .int .i64 2]
/-- the batch's variable -/
def BaAt (g : Nat) (b : Ba) (s : Value) (w : World) : Prop := w.heap[g]? = some (.cells #[.int .i64 b.ho, .int .i64 b.fi, s] 24 (0, 0))
theorem BaAt.cell {g : Nat} {b : Ba} {s : Value} {w : World} (h : BaAt g b s w) : w.cell? ⟨g, 0, none⟩ = some (.int .i64 b.ho) ∧ w.cell? ⟨g, 1, none⟩ = some (.int .i64 b.fi) ∧ w.cell? ⟨g, 2, none⟩ = some s := by
  refine ⟨?_, ?_, ?_⟩ <;> (rw [cell_of_row w g _ _ _ _ h]; rfl)
theorem BaAt.boxed (b : Ba) (s : Value) (w : World) : BaAt w.heap.size b s (w.alloc (boxB b s)) := heap_alloc_new w _
theorem BaAt.lt {g : Nat} {b : Ba} {s : Value} {w : World} (h : BaAt g b s w) : g < w.heap.size := (Array.getElem?_eq_some_iff.1 h).1
theorem BaAt.later {g : Nat} {b : Ba} {s : Value} {w w' : World} (h : BaAt g b s w) (hb : Below w.heap.size w w') : BaAt g b s w' := by
  unfold BaAt; rw [hb.block g h.lt]; exact h
theorem putSp_len {l : List Sp} (h : l.all Sp.ok = true) : (putSp l).length ≤ 100 * l.length := by
  induction l with
  | nil => simp [putSp]
  | cons x l ih =>
    simp only [List.all_cons, Bool.and_eq_true] at h
    have h1 := ih h.2
    have h2 := bytes_length h.1
    have h3 := put_length9 x.bytes.length (bytes_short h.1)
    rw [putSp_cons, List.length_append, putText, List.length_append, List.length_cons]
    omega
structure EB (w : World) (b : Ba) (g : Nat) (s : Value) (n : Nat) (k : Nat) (acc : List UInt8) (wr : World) : Prop where
  le : k ≤ n
  all : (b.sp.take k).all Sp.ok = true
  acc' : acc = 66 :: (putN [b.ho.toNat, b.fi.toNat, b.sp.length] ++ putSp (b.sp.take k))
  len : acc.length ≤ 2000
  sl : SlS s b.sp wr
  bel : Below w.heap.size w wr
theorem EB.later {w : World} {b : Ba} {g : Nat} {s : Value} {n k : Nat} {acc : List UInt8} {wr w' : World} (h : EB w b g s n k acc wr) (hb : Below wr.heap.size wr w') : EB w b g s n k acc w' := ⟨h.le, h.all, h.acc', h.len, h.sl.later hb, btP h.bel hb⟩
theorem EB.head {b : Ba} {k : Nat} (hn : numsOk b.ho b.fi b.sp.length = true) (hk : k ≤ b.sp.length) (h : (b.sp.take k).all Sp.ok = true) : (66 :: (putN [b.ho.toNat, b.fi.toNat, b.sp.length] ++ putSp (b.sp.take k))).length ≤ 2000 := by
  have h1 := okNums hn
  have h2 := putSp_len h
  have h3 := putN_len [b.ho.toNat, b.fi.toNat, b.sp.length] (by
    intro n hn
    simp only [List.mem_cons, List.not_mem_nil, or_false] at hn
    rcases hn with rfl | rfl | rfl <;> omega)
  rw [List.length_take] at h2
  rw [List.length_cons, List.length_append]
  simp only [List.length_cons, List.length_nil] at h3
  omega
theorem EB.step {w : World} {b : Ba} {g : Nat} {s : Value} {k : Nat} {acc : List UInt8} {wr : World} (h : EB w b g s b.sp.length k acc wr) (hn : numsOk b.ho b.fi b.sp.length = true) (hk : k < b.sp.length) (hok : (b.sp.getD k Sp.zero).ok = true) : EB w b g s b.sp.length (k + 1) (acc ++ putText (b.sp.getD k Sp.zero).bytes) wr := by
  have ha : (b.sp.take (k + 1)).all Sp.ok = true := by
    rw [take_sp _ k hk, List.all_append, h.all]; simpa using hok
  have e : acc ++ putText (b.sp.getD k Sp.zero).bytes = 66 :: (putN [b.ho.toNat, b.fi.toNat, b.sp.length] ++ putSp (b.sp.take (k + 1))) := by
    rw [h.acc', take_sp _ k hk, putSp_snoc]; simp
  refine ⟨hk, ha, e, ?_, h.sl, h.bel⟩
  rw [e]
  exact EB.head hn hk ha
theorem not_ok_at {b : Ba} {k : Nat} (hk : k < b.sp.length) (h : (b.sp.getD k Sp.zero).ok = false) : b.ok = false := by
  unfold Ba.ok
  have : b.sp.all Sp.ok = false := by
    rw [List.all_eq_false]
    refine ⟨b.sp.getD k Sp.zero, ?_, by rw [h]; simp⟩
    simp [List.getD, hk]
  rw [this, Bool.and_false]
set_option maxHeartbeats 8000000 in
theorem encodeBatch_any (b : Ba) (s : Value) (w : World) (hs : SlS s b.sp w) (hf : ∀ x ∈ b.sp, Fits x) (hl : b.sp.length ≤ 100000) :
    Calls Try.prog 10 #[baVal b s] w fun e w' => e = .returned (encBaV b) ∧ Below w.heap.size w w' := by
  have c1 := fun W => host_any b.ho W
  have c2 := fun W => record_any b.fi W
  have c3 := fun W => record_any (b.fi + b.sp.length) W
  have b0 := (Below.refl w.heap.size w).alloc (Nat.le_refl _) (boxB b s)
  have q0 := BaAt.boxed b s w
  have hs0 := hs.later b0
  have hok : b.ok = ((hoOk b.ho && (reOk b.fi && (reOk (b.fi + b.sp.length) && decide (1 ≤ b.sp.length ∧ b.sp.length ≤ 8)))) && b.sp.all Sp.ok) := rfl
  have hsf : ∃ A cap, s = .slice A b.sp.length cap ∧ b.sp.length ≤ cap ∧ cap ≤ maxLen := by
    obtain ⟨A, cap, h1, h2, h3, _⟩ := hs
    exact ⟨A, cap, h1, h2, h3⟩
  obtain ⟨A, cap, hse, hcap, hmax⟩ := hsf
  obtain ⟨m, hm⟩ : ∃ m, b.sp.length = m := ⟨_, rfl⟩
  unfold encBaV baVal
  unfold boxB at b0 q0 hs0
  rw [hm] at c3 hok hse hcap hl
  unfold maxLen at hmax
  cases h1 : hoOk b.ho with
  | false =>
    rw [hok, h1, Bool.false_and, Bool.false_and]
    rw [h1] at c1
    simp only [Bool.false_eq_true, if_false]
    have C1 := Lib.hid c1
    clear c1 c2 c3 hok h1 q0 hs0 hs hf
    subst hse
    go_enter Try.func10, Try.ntmps10
    go_wp2_with fail
    refine (C1.out _).mono ?_
    rintro e w1 ⟨rfl, rfl⟩
    go_wp2_with fail
    go_ret2
    exact ⟨rfl, b0⟩
  | true =>
    rw [h1] at c1
    cases h2 : reOk b.fi with
    | false =>
      rw [hok, h1, h2, Bool.true_and, Bool.false_and, Bool.false_and]
      rw [h2] at c2
      simp only [Bool.false_eq_true, if_false]
      have C1 := Lib.hid c1
      have C2 := Lib.hid c2
      clear c1 c2 c3 hok h1 h2 q0 hs0 hs hf
      subst hse
      go_enter Try.func10, Try.ntmps10
      go_wp2_with fail
      refine (C1.out _).mono ?_
      rintro e w1 ⟨rfl, rfl⟩
      go_wp2_with fail
      refine (C2.out _).mono ?_
      rintro e w1 ⟨rfl, rfl⟩
      go_wp2_with fail
      go_ret2
      exact ⟨rfl, b0⟩
    | true =>
      have hfi : 0 ≤ b.fi ∧ b.fi ≤ 2147483647 := by simpa [reOk] using h2
      rw [h2] at c2
      have C1 := Lib.hid c1
      have C2 := Lib.hid c2
      clear c1 c2
      cases h3 : reOk (b.fi + (m : Int)) with
      | false =>
        rw [hok, h1, h2, h3, Bool.true_and, Bool.true_and, Bool.false_and, Bool.false_and]
        rw [h3] at c3
        simp only [Bool.false_eq_true, if_false]
        have C3 := Lib.hid c3
        clear c3 hok h1 h2 h3 q0 hs0 hs hf
        subst hse
        go_enter Try.func10, Try.ntmps10
        go_wp2_with fail
        refine (C1.out _).mono ?_
        rintro e w1 ⟨rfl, rfl⟩
        go_wp2_with fail
        refine (C2.out _).mono ?_
        rintro e w1 ⟨rfl, rfl⟩
        go_wp2_with fail
        refine (C3.out _).mono ?_
        rintro e w1 ⟨rfl, rfl⟩
        go_wp2_with fail
        go_ret2
        exact ⟨rfl, b0⟩
      | true =>
        rw [h3] at c3
        have C3 := Lib.hid c3
        clear c3
        by_cases h4 : 1 ≤ m ∧ m ≤ 8
        · have hnum : numsOk b.ho b.fi b.sp.length = true := by unfold numsOk; rw [hm, h1, h2, h3, decide_eq_true h4]; rfl
          have hp := okNums hnum
          have CP : Hid (∀ (W : World) (g : Nat), g < W.heap.size → W.cell? ⟨g, 0, none⟩ = some (.int .i64 b.ho) → W.cell? ⟨g, 1, none⟩ = some (.int .i64 b.fi) → W.cell? ⟨g, 2, none⟩ = some (.int .i64 (m : Int)) →
              Calls Try.prog 23 #[.string ⟨#[66]⟩, .slice (some ⟨g, 0, none⟩) 3 3] W fun e w' => e = .returned (.string ⟨(66 :: putN [b.ho.toNat, b.fi.toNat, m]).toArray⟩) ∧ Below W.heap.size W w') := Lib.hid (fun W g hg z0 z1 z2 => by
            refine puts_any 66 g [b.ho.toNat, b.fi.toNat, m] W rfl ?_ hg ?_
            · intro i hi
              match i, hi with
              | 0, _ => simp; omega
              | 1, _ => simp; omega
              | 2, _ => simp; omega
            · intro i hi
              match i, hi with
              | 0, _ => rw [z0]; simp [Int.toNat_of_nonneg hp.1]
              | 1, _ => rw [z1]; simp [Int.toNat_of_nonneg hp.2.2.1]
              | 2, _ => rw [z2]; simp)
          have E0 : EB w b w.heap.size s b.sp.length 0 (66 :: putN [b.ho.toNat, b.fi.toNat, m]) (w.alloc (.cells #[.int .i64 b.ho, .int .i64 b.fi, s] 24)) := by
            have e : (66 : UInt8) :: putN [b.ho.toNat, b.fi.toNat, m] = 66 :: (putN [b.ho.toNat, b.fi.toNat, b.sp.length] ++ putSp (b.sp.take 0)) := by simp [putSp, hm]
            refine ⟨by omega, by simp, e, ?_, hs0, b0⟩
            rw [e]
            exact EB.head hnum (by omega) (by simp)
          have HN := Lib.hid hnum
          have HF := Lib.hid hf
          have HM := Lib.hid hm
          have h4a := h4.1
          have h4b := h4.2
          obtain ⟨V, hV⟩ : ∃ V, (if b.ok = true then Value.tuple #[.string ⟨b.bytes.toArray⟩, .int .i64 0] else .tuple #[.string ⟨#[]⟩, .int .i64 2]) = V := ⟨_, rfl⟩
          rw [hV]
          have HV := Lib.hid hV
          rw [hm] at E0
          obtain ⟨ac0, hac0⟩ : ∃ ac0, (66 : UInt8) :: putN [b.ho.toNat, b.fi.toNat, m] = ac0 := ⟨_, rfl⟩
          rw [hac0] at E0 CP
          clear hac0 hV hm hok hp h1 h2 h3 hnum hf hs hs0 h4
          have hm0 : ((m : Int) == 0) = false := by simp; omega
          have hm8 : ¬ ((8 : Int) < (m : Int)) := by omega
          subst hse
          have Q0 := Lib.hid q0
          clear q0
          go_enter Try.func10, Try.ntmps10
          go_wp2_with fail
          refine (C1.out _).mono ?_
          rintro e w1 ⟨rfl, rfl⟩
          go_wp2_with fail
          refine (C2.out _).mono ?_
          rintro e w1 ⟨rfl, rfl⟩
          go_wp2_with fail
          refine (C3.out _).mono ?_
          rintro e w1 ⟨rfl, rfl⟩
          go_wp2_with fail
          refine (CP.out _ _ (by simp) (by go_simp) (by go_simp) (by go_simp)).mono ?_
          rintro e w1 ⟨rfl, b1⟩
          have E1 := (E0.later ((Below.refl _ _).alloc (Nat.le_refl _) _)).later b1
          have q1 := (Q0.out.later ((Below.refl _ _).alloc (Nat.le_refl _) _)).later b1
          obtain ⟨z0, z1, z2⟩ := q1.cell
          clear E0 b0 b1 CP C1 C2 C3 Q0 q1
          go_wp2_with fail
          clear z0 z1 z2
          go_loopw [4, 53] (fun t i wr => ∃ (k : Nat) (acc : List UInt8), i = .int .i64 k ∧ t = .string ⟨acc.toArray⟩ ∧ EB w b w.heap.size (.slice A m cap) m k acc wr) (fun _ i _ => m - (intOf i).toNat)
          case atStart => exact ⟨0, ac0, rfl, rfl, E1⟩
          case round =>
            clear E1
            obtain ⟨k, acc, rfl, rfl, E⟩ := hrel
            have hk := E.le
            by_cases hlt : k < m
            · have hsl := E.sl
              obtain ⟨A2, cap2, he2, _, _, h3⟩ := hsl
              obtain ⟨bb, o, rfl, hrow⟩ := h3 (by rw [HM.out]; omega)
              obtain rfl : A = some ⟨bb, o, none⟩ := by injection he2
              have hlt2 : k < b.sp.length := by rw [HM.out]; exact hlt
              obtain ⟨x0, x1, x2, x3, x4, x5, x6, x7⟩ := hrow.cells (i := k) hlt2
              have hfx := getS_lt HF.out (i := k) hlt2
              have hno := not_ok_at (b := b) (k := k) hlt2
              have hstep := EB.step (HM.out ▸ E) HN.out hlt2
              rw [HM.out] at hstep
              have hlen := E.len
              have b1 := (Below.refl wr.heap.size wr).alloc (Nat.le_refl _) (.cells #[.int .i64 (b.sp.getD k Sp.zero).tr, .int .i64 (b.sp.getD k Sp.zero).id, .int .i64 (b.sp.getD k Sp.zero).pa, .string ⟨(b.sp.getD k Sp.zero).sv.toArray⟩, .string ⟨(b.sp.getD k Sp.zero).ho.toArray⟩, .int .i64 (b.sp.getD k Sp.zero).st, .int .i64 (b.sp.getD k Sp.zero).du, .string ⟨(b.sp.getD k Sp.zero).no.toArray⟩] 29)
              have hlb := hrow.1
              generalize hx : b.sp.getD k Sp.zero = x at *
              have HX := Lib.hid hx
              cases hxo : x.ok with
              | false =>
                have hV : V = .tuple #[.string ⟨#[]⟩, .int .i64 2] := by rw [← HV.out, hno hxo]; rfl
                have ce := fun W => encode_bad x W hfx hxo
                unfold spVal at ce
                have CE := Lib.hid ce
                have HE := Lib.hid E
                clear ce E hno hstep hxo hrow h3 he2 hx
                subst hV
                go_wp2_with fail
                refine (CE.out _).mono ?_
                rintro e w2 ⟨rfl, b2⟩
                go_wp2_with fail
                go_ret2
                exact ⟨rfl, btP HE.out.bel (btP b1 b2)⟩
              | true =>
                have ce := fun W => encode_good x W hxo
                unfold spVal at ce
                have CE := Lib.hid ce
                have E2 := (hstep hxo).later b1
                have hbl := bytes_length hxo
                have cp := fun W => putText_any ⟨x.bytes.toArray⟩ W (by show x.bytes.toArray.size ≤ _; simp; omega)

                have CPT := Lib.hid cp
                have hpl : (putText x.bytes).length ≤ 200 := by
                  have := put_length9 x.bytes.length (by omega)
                  rw [putText, List.length_append]; omega
                generalize putText x.bytes = pt at *
                generalize x.bytes = xb at *
                clear cp ce E hno hstep hxo hrow h3 he2 hx
                go_wp2_with fail
                refine (CE.out _).mono ?_
                rintro e w2 ⟨rfl, b2⟩
                have E3 := E2.later b2
                clear E2 b2 b1
                go_wp2_with fail
                refine (CPT.out _).mono ?_
                rintro e w3 ⟨rfl, b3⟩
                have E4 := E3.later b3
                clear E3 b3
                go_wp2_with fail
                go_roundw
                case rel => exact ⟨k + 1, acc ++ pt, by go_num, congrArg Value.string (ByteArray.mk_append_mk acc pt), E4⟩
                case measure => simp [intOf]; omega
            · obtain rfl : k = m := by omega
              have hV : V = .tuple #[.string ⟨acc.toArray⟩, .int .i64 0] := by
                have ha := E.all
                have hacc := E.acc'
                rw [List.take_of_length_le (by rw [HM.out]; exact Nat.le_refl _)] at ha hacc
                have hbok : b.ok = true := by unfold Ba.ok; rw [HN.out, ha]; rfl
                rw [← HV.out, hbok, if_pos rfl, hacc]
                rfl
              have HE := Lib.hid E
              clear E
              subst hV
              go_wp2_with fail
              go_ret2
              exact ⟨rfl, HE.out.bel⟩
        · have hno : b.ok = false := by rw [hok, decide_eq_false h4]; simp
          rw [hno]
          simp only [Bool.false_eq_true, if_false]
          by_cases hm0 : m = 0
          · clear hok h1 h2 h3 q0 hs0 hs hf hno h4
            subst hse
            have hmz : ((m : Int) == 0) = true := by simp [hm0]
            generalize hmi : (m : Int) = mi at *
            have hmi2 : mi ≤ 100000 := by omega
            have hmi3 : 0 ≤ mi := by omega
            clear hm0
            go_enter Try.func10, Try.ntmps10
            go_wp2_with fail
            refine (C1.out _).mono ?_
            rintro e w1 ⟨rfl, rfl⟩
            go_wp2_with fail
            refine (C2.out _).mono ?_
            rintro e w1 ⟨rfl, rfl⟩
            go_wp2_with fail
            refine (C3.out _).mono ?_
            rintro e w1 ⟨rfl, rfl⟩
            go_wp2_with fail
            go_ret2
            exact ⟨rfl, b0⟩
          · have hm8 : 8 < m := by omega
            clear hok h1 h2 h3 q0 hs0 hs hf hno h4
            subst hse
            go_enter Try.func10, Try.ntmps10
            go_wp2_with fail
            refine (C1.out _).mono ?_
            rintro e w1 ⟨rfl, rfl⟩
            go_wp2_with fail
            refine (C2.out _).mono ?_
            rintro e w1 ⟨rfl, rfl⟩
            go_wp2_with fail
            refine (C3.out _).mono ?_
            rintro e w1 ⟨rfl, rfl⟩
            go_wp2_with fail
            go_ret2
            exact ⟨rfl, b0⟩
end Go.Proofs.Ytheeekmhmbkncaa
