/- The walks of Encode. -/
import Derived.Test.YtfkjdjdgcegniaaSpansD
namespace Go.Proofs.Ytfkjdjdgcegniaa
set_option maxRecDepth 16000
open Go.RowKit Spoor

theorem str_add (a b : List UInt8) : (⟨a.toArray⟩ ++ ⟨b.toArray⟩ : ByteArray) = ⟨(a ++ b).toArray⟩ := ByteArray.mk_append_mk a b
theorem putText_len {t : List UInt8} (h : t.length ≤ 140737488351232) : (putText t).length ≤ 140737488351241 := by
  have := put_length9 t.length (by omega)
  rw [putText, List.length_append]; omega

/-- what Encode tells of a span that may not be -/
theorem refEncode_bad (x : Sp) (w : World) (hf : Fits x) (h : x.ok = false) :
    Calls Try.prog 30 #[spVal x] w fun e w' => e = .returned (.tuple #[.string ⟨#[]⟩, .int .i64 2]) ∧ Below w.heap.size w w' := by
  have c := fun W => may_any x W hf
  rw [h] at c
  have C := Lib.hid c
  clear c h
  unfold spVal at *
  go_enter Try.func30, Try.ntmps30
  go_wp2_with fail
  refine (C.out _).mono ?_
  rintro e w1 ⟨rfl, hb⟩
  go_wp2_with fail
  go_ret2
  exact ⟨rfl, ((Below.refl _ _).alloc (Nat.le_refl _) _).trans (hb.mono (by simp))⟩

theorem refEncode_good (x : Sp) (w : World) (h : x.ok = true) :
    Calls Try.prog 30 #[spVal x] w fun e w' => e = .returned (.tuple #[.string ⟨x.bytes.toArray⟩, .int .i64 0]) ∧ Below w.heap.size w w' := by
  obtain ⟨⟨a1, a2⟩, ⟨b1, b2⟩, ⟨c1, c2⟩, ⟨d1, d2⟩, ⟨e1, e2⟩, f, g, k⟩ := ok_of h
  have fl := nameOk_of f
  have gl := nameOk_of g
  have c := fun W => may_any x W ⟨by omega, by omega, by omega⟩
  rw [h] at c
  have C := Lib.hid c
  have hp : ∀ n : Int, 0 ≤ n → n ≤ 2147483647 → ∀ W, Calls Try.prog 50 #[.int .i64 n] W fun e w' => e = .returned (.string ⟨(put n.toNat).toArray⟩) ∧ Below W.heap.size W w' := fun n h0 h1 W => by
    have := refPut_nat n.toNat W (by omega)
    rwa [Int.toNat_of_nonneg h0] at this
  have q1 := hp x.tr (by omega) (by omega)
  have q2 := hp x.id (by omega) (by omega)
  have q3 := hp x.pa (by omega) (by omega)
  have q4 := hp x.st (by omega) (by omega)
  have q5 := hp x.du (by omega) (by omega)
  have t1 := fun W => refPutText_any ⟨x.sv.toArray⟩ W (by simp only [ByteArray.size_mk', List.size_toArray]; omega)
  have t2 := fun W => refPutText_any ⟨x.ho.toArray⟩ W (by simp only [ByteArray.size_mk', List.size_toArray]; omega)
  have t3 := fun W => refPutText_any ⟨x.no.toArray⟩ W (by simp only [ByteArray.size_mk', List.size_toArray]; omega)
  have e1' : (⟨x.sv.toArray⟩ : ByteArray).data.toList = x.sv := rfl
  have e2' : (⟨x.ho.toArray⟩ : ByteArray).data.toList = x.ho := rfl
  have e3' : (⟨x.no.toArray⟩ : ByteArray).data.toList = x.no := rfl
  rw [e1'] at t1
  rw [e2'] at t2
  rw [e3'] at t3
  have hb : Hid (x.bytes = put x.tr.toNat ++ put x.id.toNat ++ put x.pa.toNat ++ put x.st.toNat ++ put x.du.toNat ++ putText x.sv ++ putText x.ho ++ putText x.no) := rfl
  have l1 := put_length9 x.tr.toNat (by omega)
  have l2 := put_length9 x.id.toNat (by omega)
  have l3 := put_length9 x.pa.toNat (by omega)
  have l4 := put_length9 x.st.toNat (by omega)
  have l5 := put_length9 x.du.toNat (by omega)
  have m1 := putText_length_le fl.2 (by omega)
  have m2 := putText_length_le gl.2 (by omega)
  have m3 := putText_length_le k (by omega)
  obtain ⟨R, hR⟩ : ∃ R, x.bytes = R := ⟨_, rfl⟩
  rw [hR] at hb ⊢
  clear hR
  have Q1 := Lib.hid q1
  have Q2 := Lib.hid q2
  have Q3 := Lib.hid q3
  have Q4 := Lib.hid q4
  have Q5 := Lib.hid q5
  have T1 := Lib.hid t1
  have T2 := Lib.hid t2
  have T3 := Lib.hid t3
  clear q1 q2 q3 q4 q5 t1 t2 t3 hp c e1' e2' e3' h f g
  generalize put x.tr.toNat = p1 at *
  generalize put x.id.toNat = p2 at *
  generalize put x.pa.toNat = p3 at *
  generalize put x.st.toNat = p4 at *
  generalize put x.du.toNat = p5 at *
  generalize putText x.sv = s1 at *
  generalize putText x.ho = s2 at *
  generalize putText x.no = s3 at *
  clear a1 a2 b1 b2 c1 c2 d1 d2 e1 e2 fl gl k
  unfold spVal at *
  go_enter Try.func30, Try.ntmps30
  go_wp2_with fail
  refine (C.out _).mono ?_
  rintro e w1 ⟨rfl, hb1⟩
  have hat := (SpAt.boxed x w).later hb1 (by simp)
  obtain ⟨i0, i1, i2, i3, i4, i5, i6, i7⟩ := hat.cell
  have hlt := hat.lt
  have HAT := Lib.hid hat
  clear hat
  go_wp2_with fail
  refine wp_region_more (by kernel_rfl) (by kernel_rfl) ?_
  repeat (go_big_quiet_step ((first
    | (go_at_call_of 50 (Value.int .i64 x.tr); exact Calls.more (Q1.out _))
    | (go_at_call_of 50 (Value.int .i64 x.id); exact Calls.more (Q2.out _))
    | (go_at_call_of 50 (Value.int .i64 x.pa); exact Calls.more (Q3.out _))
    | (go_at_call_of 50 (Value.int .i64 x.st); exact Calls.more (Q4.out _))
    | (go_at_call_of 50 (Value.int .i64 x.du); exact Calls.more (Q5.out _)))))
  refine wpQuiet_nil ?_
  rintro _ ⟨ex, rfl⟩
  have hb2 := World.below_more w1 ex
  have hat2 := HAT.out.later hb2 hlt
  generalize w1.more ex = w2 at *
  clear i0 i1 i2 i3 i4 i5 i6 i7
  obtain ⟨i0, i1, i2, i3, i4, i5, i6, i7⟩ := hat2.cell
  have hlt2 := hat2.lt
  clear hat2
  go_wp2_with fail
  refine wp_region_more (by kernel_rfl) (by kernel_rfl) ?_
  repeat (go_big_quiet_step ((first
    | (go_at_call_of 51 (Value.string ⟨x.sv.toArray⟩); exact Calls.more (T1.out _))
    | (go_at_call_of 51 (Value.string ⟨x.ho.toArray⟩); exact Calls.more (T2.out _))
    | (go_at_call_of 51 (Value.string ⟨x.no.toArray⟩); exact Calls.more (T3.out _)))))
  refine wpQuiet_nil ?_
  rintro _ ⟨ex, rfl⟩
  have hb3 := World.below_more w2 ex
  generalize w2.more ex = w3 at *
  go_wp2_with fail
  go_ret2
  refine ⟨?_, ?_⟩
  · refine ret2 ?_ rfl
    show Value.string _ = _
    rw [hb.out]
    simp only [str_add]
  · exact (((Below.refl _ _).alloc (Nat.le_refl _) _).trans (hb1.mono (by simp))).trans ((hb2.mono (by omega)).trans (hb3.mono (by omega)))
end Go.Proofs.Ytfkjdjdgcegniaa
