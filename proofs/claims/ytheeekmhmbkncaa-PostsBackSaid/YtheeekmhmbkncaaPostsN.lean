/- The walk of PostsCut. -/
import Derived.Test.YtheeekmhmbkncaaPostsM
namespace Go.Proofs.Ytheeekmhmbkncaa
open Go.RowKit Spoor
set_option linter.unusedVariables false

theorem strTo (l : List UInt8) (j : Nat) (J : Int) (hJ : J = j) (h2 : j ≤ l.length) (W : World) :
    (Instr.slice 9 (.string ⟨l.toArray⟩) none (some (.int .i64 J)) none).run Try.prog W = .ok (.string ⟨(l.take j).toArray⟩) W := by
  subst hJ
  go_simp
  rw [extract_bytes]
  simp
def codeO {α : Type} (o : Option α) : Int := if o.isSome then 0 else 30
theorem codeO_none {α : Type} : codeO (none : Option α) = 30 := rfl
theorem codeO_some {α : Type} (a : α) : codeO (some a) = 0 := rfl
/-- what DecodeBatch tells, with its slice written out -/
theorem decBa_out {s : List UInt8} {w : World} {e : Ending} {w' : World} (h : DecBaEx s w e w') :
    Below w.heap.size w w' ∧ ∃ (b : Ba) (A : Option Addr) (c : Nat), e = .returned (.tuple #[.agg #[.int .i64 b.ho, .int .i64 b.fi, .slice A b.sp.length c], .int .i64 (codeO (decBa s))]) ∧ SlS (.slice A b.sp.length c) b.sp w' ∧ w'.ownsRow w.heap.size 29 8 (.slice A b.sp.length c) b.sp.length (rowS b.sp) ∧ b = (decBa s).getD ⟨0, 0, []⟩ := by
  obtain ⟨hb, ⟨h1, rfl⟩ | ⟨b, v, h1, rfl, own⟩⟩ := h
  · refine ⟨hb, ⟨0, 0, []⟩, none, 0, ?_, ⟨none, 0, rfl, by simp, by unfold maxLen; omega, fun h => by simp at h⟩, World.ownsRow_nil _ _ _ _, by rw [h1]; rfl⟩
    rw [h1]
    rfl
  · have hsl := slS_own own
    obtain ⟨A, cap, rfl, h⟩ := id hsl
    exact ⟨hb, b, A, cap, by rw [h1]; rfl, hsl, own, by rw [h1]; rfl⟩
theorem decodeBatch_out (s : List UInt8) (w : World) (hs : s.length ≤ 1000000000) :
    Calls Try.prog 16 #[.string ⟨s.toArray⟩] w fun e w' => Below w.heap.size w w' ∧ ∃ (b : Ba) (A : Option Addr) (c : Nat), e = .returned (.tuple #[.agg #[.int .i64 b.ho, .int .i64 b.fi, .slice A b.sp.length c], .int .i64 (codeO (decBa s))]) ∧ SlS (.slice A b.sp.length c) b.sp w' ∧ w'.ownsRow w.heap.size 29 8 (.slice A b.sp.length c) b.sp.length (rowS b.sp) ∧ b = (decBa s).getD ⟨0, 0, []⟩ :=
  (decodeBatch_any s w hs).mono fun _ _ h => decBa_out h
theorem decodeAck_out (s : List UInt8) (w : World) (hs : s.length ≤ 140737488351232) :
    Calls Try.prog 18 #[.string ⟨s.toArray⟩] w fun e w' => Below w.heap.size w w' ∧ ∃ a : Ak, e = .returned (.tuple #[.agg #[.int .i64 a.ho, .int .i64 a.fi, .int .i64 a.ne], .int .i64 (codeO (decAk s))]) ∧ a = (decAk s).getD ⟨0, 0, 0⟩ :=
  (decodeAck_any s w hs).mono fun _ _ ⟨h, k⟩ => by
    refine ⟨k, (decAk s).getD ⟨0, 0, 0⟩, ?_, rfl⟩
    rw [h]
    cases decAk s <;> rfl
theorem ak_short {a : Ak} (h : a.ok = true) : a.bytes.length ≤ 28 := by
  have hb := okAck h
  have p1 := put_length 8 a.ho.toNat (by omega)
  have p2 := put_length 8 a.fi.toNat (by omega)
  have p3 := put_length 8 (a.ne - a.fi).toNat (by omega)
  unfold Ak.bytes
  simp only [List.length_cons, List.length_append, putN_cons, putN_nil, List.length_nil]
  omega
theorem cat_of (a b : List UInt8) : ((⟨a.toArray⟩ : ByteArray) ++ ⟨b.toArray⟩) = ⟨(a ++ b).toArray⟩ := by
  rw [ByteArray.mk_append_mk]
/-- what is asked of a batch's bytes, cut off and with more behind them -/
structure CutF (m S T : List UInt8) (E I : Int) : Prop where
  s1 : S.length ≤ 800
  t1 : T.length ≤ 28
  s2 : ∀ i, i < S.length → decBa (S.take i) = none
  t2 : ∀ i, i < T.length → decAk (T.take i) = none
  s3 : E = 2 ∨ (E = 0 ∧ codeO (decBa (S ++ m)) = if m = [] then 0 else 30)
  t3 : I = 2 ∨ (I = 0 ∧ codeO (decAk (T ++ m)) = if m = [] then 0 else 30)
theorem cut_facts {b : Ba} {a : Ak} {m S T : List UInt8} {E I : Int} (h : (b.ok = true ∧ E = 0 ∧ S = b.bytes) ∨ (b.ok = false ∧ E = 2 ∧ S = [])) (k : (a.ok = true ∧ I = 0 ∧ T = a.bytes) ∨ (a.ok = false ∧ I = 2 ∧ T = [])) : CutF m S T E I := by
  refine ⟨?_, ?_, ?_, ?_, ?_, ?_⟩
  · rcases h with ⟨h1, rfl, rfl⟩ | ⟨h1, rfl, rfl⟩
    · exact ba_short h1
    · simp
  · rcases k with ⟨h1, rfl, rfl⟩ | ⟨h1, rfl, rfl⟩
    · exact ak_short h1
    · simp
  · rcases h with ⟨h1, rfl, rfl⟩ | ⟨h1, rfl, rfl⟩
    · exact fun i hi => decBa_cut h1 hi
    · intro i hi; simp at hi
  · rcases k with ⟨h1, rfl, rfl⟩ | ⟨h1, rfl, rfl⟩
    · exact fun i hi => decAk_cut h1 hi
    · intro i hi; simp at hi
  · rcases h with ⟨h1, rfl, rfl⟩ | ⟨h1, rfl, rfl⟩
    · exact .inr ⟨rfl, by unfold codeO; rw [decBa_more h1 m]; by_cases e : m = [] <;> simp [e]⟩
    · exact .inl rfl
  · rcases k with ⟨h1, rfl, rfl⟩ | ⟨h1, rfl, rfl⟩
    · exact .inr ⟨rfl, by unfold codeO; rw [decAk_more h1 m]; by_cases e : m = [] <;> simp [e]⟩
    · exact .inl rfl
structure CuAt (W : World) (b : Ba) (x : Value) (a : Ak) (wr : World) : Prop where
  ba : BaAt W.heap.size b x wr
  ak : wr.heap[W.heap.size + 1]? = some (.cells #[.int .i64 a.ho, .int .i64 a.fi, .int .i64 a.ne] 26 (0, 0))
  sl : SlS x b.sp wr
  bel : Below W.heap.size W wr
theorem CuAt.later {W : World} {b : Ba} {x : Value} {a : Ak} {wr w' : World} (h : CuAt W b x a wr) (hb : Below wr.heap.size wr w') : CuAt W b x a w' :=
  ⟨h.ba.later hb, blk_later h.ak hb, h.sl.later hb, btP h.bel hb⟩
theorem CuAt.start {W : World} {b : Ba} {x : Value} (a : Ak) (hx : SlS x b.sp W) : CuAt W b x a ((W.alloc (boxB b x)).alloc (boxA a)) := by
  obtain ⟨q1, q2, b1⟩ := box_ba_ak b x a W
  exact ⟨q1, q2, hx.later b1, b1⟩
theorem new_below {w : World} {n : Nat} {wr : World} (h : Below n w wr) (hn : n ≤ wr.heap.size) (o : Obj) : Below n w (wr.alloc o) := h.alloc hn o
set_option maxRecDepth 100000 in
set_option maxHeartbeats 16000000 in
theorem postsCut_law (W : World) (b : Ba) (x : Value) (a : Ak) (m : ByteArray) (hx : SlS x b.sp W) (hnx : x = .slice none 0 0 ∨ ∃ ad n c, x = .slice (some ad) n c) (hwx : WfB b) (fa : WfA a) (hm : m.size ≤ 140737488351232) :
    Calls Try.prog 7 #[baVal b x, akVal a, .string m] W fun e w' => e = .returned (.bool true) ∧ Below W.heap.size W w' := by
  have M0 := CuAt.start a hx
  have es : m = ⟨m.data.toList.toArray⟩ := by cases m; simp
  have em : m.size = m.data.toList.length := by rw [Array.length_toList]; rfl
  rw [em] at hm
  rw [es]
  generalize m.data.toList = m at *
  clear es em
  have CDO := Lib.hid does12_true
  have cg := fun W (h : SlS x b.sp W) => great12_any b x W h hwx
  obtain ⟨G, hG⟩ : ∃ G, greatBa b.sp = G := ⟨_, rfl⟩
  rw [hG] at cg
  have CG := Lib.hid cg
  have CE : Hid (G = false → ∀ W, SlS x b.sp W → Calls Try.prog 10 #[baVal b x] W fun e w' => e = .returned (encBaV b) ∧ Below W.heap.size W w') := Lib.hid (fun g W h => by
    rw [g] at hG
    exact encodeBatch_any b x W h (greatBa_fits hG) (by have := (greatBa_no hG).1; omega))
  have ca := fun W => encodeAck_any a W fa.2.2
  obtain ⟨S, E, hS, fS⟩ := encBa_form b
  obtain ⟨T, I, hT, fT⟩ := encAk_form a
  have FF := Lib.hid (cut_facts (m := m) fS fT)
  rw [hS] at CE
  rw [hT] at ca
  have CA := Lib.hid ca
  have M := Lib.hid M0
  obtain ⟨y0, y1, y2⟩ := M0.ba.cell
  clear hG hS hT fS fT ca cg M0 hx hnx hwx fa
  unfold boxB boxA at *
  unfold baVal akVal at *
  go_enter Try.func7, Try.ntmps7
  go_upto_region 1 with fail
  generalize World.alloc _ _ = w2 at *
  cases G with
  | true =>
    go_wp2_with fail
    refine (CG.out _ M.out.sl).mono ?_
    rintro e w3 ⟨rfl, b3⟩
    go_wp2_with fail
    go_ret
    exact ⟨rfl, btP M.out.bel b3⟩
  | false =>
    have CE2 := CE.out (by trivial)
    have CE3 := Lib.hid CE2
    clear CE2 CE
    go_wp2_with fail
    refine (CG.out _ M.out.sl).mono ?_
    rintro e w3 ⟨rfl, b3⟩
    have M := Lib.hid (M.out.later b3)
    clear b3 y0 y1 y2
    obtain ⟨y0, y1, y2⟩ := M.out.ba.cell
    by_cases hl : (100 : Int) < (m.length : Int)
    · go_wp2_with fail
      go_ret
      exact ⟨rfl, M.out.bel⟩
    · go_wp2_with fail
      refine (CE3.out _ M.out.sl).mono ?_
      rintro e w5 ⟨rfl, b5⟩
      have M := Lib.hid (M.out.later b5)
      clear b5 y0 y1 y2
      obtain ⟨v0, v1, v2⟩ := cells3 M.out.ak
      go_wp2_with fail
      refine (CA.out _).mono ?_
      rintro e w6 ⟨rfl, b6⟩
      have M := Lib.hid (M.out.later b6)
      have B := Lib.hid M.out.bel
      clear b6 v0 v1 v2 CA CE3 CG M
      obtain ⟨n, hn⟩ : ∃ n, S.length = n := ⟨_, rfl⟩
      obtain ⟨k, hk⟩ : ∃ k, T.length = k := ⟨_, rfl⟩
      have HN := Lib.hid hn
      have HK := Lib.hid hk
      have hn8 : n ≤ 800 := by rw [← hn]; exact FF.out.s1
      have hk8 : k ≤ 28 := by rw [← hk]; exact FF.out.t1
      clear hm
      go_wp2_with fail
      go_loopw [11] (fun v wr => ∃ i : Nat, i ≤ n ∧ v = .int .i64 i ∧ Hid (Below W.heap.size W wr)) (fun v _ => n - (intOf v).toNat)
      case atStart => exact ⟨0, Nat.zero_le _, rfl, B⟩
      case round =>
        obtain ⟨i, hi, rfl, B⟩ := hrel
        by_cases hlt : i < n
        · have hsl := fun W => strTo S i (i : Int) rfl (by omega) W
          have CB := Lib.hid (fun W => decodeBatch_out (S.take i) W (by have := FF.out.s1; rw [List.length_take]; omega))
          have HZ := Lib.hid (FF.out.s2 i (by omega))
          go_wp2_with fail
          refine (CB.out _).mono ?_
          rintro e w7 ⟨b7, b', A, c, rfl, -, -, hb'⟩
          rw [HZ.out, codeO_none]
          rw [HZ.out] at hb'
          subst hb'
          have B7 := Lib.hid ((btP B.out b7).alloc (Nat.le_trans B.out.size b7.size) (.cells #[.int .i64 0, .int .i64 0, .slice A 0 c] 24))
          clear b7 CB HZ
          dsimp only [Option.getD_none, List.length_nil]
          go_wp2_with fail
          go_roundw
          case rel => exact ⟨i + 1, by omega, by go_num, B7⟩
          case measure => simp [intOf]; omega
        · go_wp2_with fail
          go_loopw [14] (fun v wr => ∃ i : Nat, i ≤ k ∧ v = .int .i64 i ∧ Hid (Below W.heap.size W wr)) (fun v _ => k - (intOf v).toNat)
          case atStart => exact ⟨0, Nat.zero_le _, rfl, B⟩
          case round =>
            obtain ⟨j, hj, rfl, B⟩ := hrel
            by_cases hlt2 : j < k
            · have hsl := fun W => strTo T j (j : Int) rfl (by omega) W
              have CB := Lib.hid (fun W => decodeAck_out (T.take j) W (by have := FF.out.t1; rw [List.length_take]; omega))
              have HZ := Lib.hid (FF.out.t2 j (by omega))
              go_wp2_with fail
              refine (CB.out _).mono ?_
              rintro e w7 ⟨b7, a', rfl, hb'⟩
              rw [HZ.out, codeO_none]
              rw [HZ.out] at hb'
              subst hb'
              have B7 := Lib.hid ((btP B.out b7).alloc (Nat.le_trans B.out.size b7.size) (.cells #[.int .i64 0, .int .i64 0, .int .i64 0] 26))
              clear b7 CB HZ
              dsimp only [Option.getD_none]
              go_wp2_with fail
              go_roundw
              case rel => exact ⟨j + 1, by omega, by go_num, B7⟩
              case measure => simp [intOf]; omega
            · have hls : (S ++ m).length ≤ 1000 := by have := FF.out.s1; simp; omega
              have hlt' : (T ++ m).length ≤ 1000 := by have := FF.out.t1; simp; omega
              have c1 := fun W => decodeBatch_out (S ++ m) W (by omega)
              have c2 := fun W => decodeAck_out (T ++ m) W (by omega)
              obtain ⟨g, hg⟩ : ∃ g, codeO (decBa (S ++ m)) = g := ⟨_, rfl⟩
              obtain ⟨h, hh⟩ : ∃ h, codeO (decAk (T ++ m)) = h := ⟨_, rfl⟩
              have f1 := FF.out.s3
              have f2 := FF.out.t3
              rw [hg] at c1 f1
              rw [hh] at c2 f2
              simp only [← cat_of] at c1 c2
              have C1 := Lib.hid c1
              have C2 := Lib.hid c2
              have F1 := Lib.hid f1
              have F2 := Lib.hid f2
              clear c1 c2 hg hh f1 f2 hls hlt' FF
              go_wp2_with fail
              refine (C1.out _).mono ?_
              rintro e w7 ⟨b7, b', A, c, rfl, -, -, -⟩
              have B7 := Lib.hid ((btP B.out b7).alloc (Nat.le_trans B.out.size b7.size) (.cells #[.int .i64 b'.ho, .int .i64 b'.fi, .slice A b'.sp.length c] 24))
              clear b7
              go_wp2_with fail
              refine (C2.out _).mono ?_
              rintro e w9 ⟨b9, a', rfl, -⟩
              have B9 := Lib.hid ((btP B7.out b9).alloc (Nat.le_trans B7.out.size b9.size) (.cells #[.int .i64 a'.ho, .int .i64 a'.fi, .int .i64 a'.ne] 26))
              clear b9
              go_upto_region 19 with fail
              by_cases hm : m = []
              · subst hm
                rcases F1.out with rfl | ⟨rfl, f1⟩
                · skip
                  rcases F2.out with rfl | ⟨rfl, f2⟩
                  · skip
                    go_wp2_with fail
                    refine (CDO.out _).mono ?_
                    rintro e w11 ⟨rfl, b11⟩
                    go_wp2_with fail
                    go_ret
                    exact ⟨rfl, btP B9.out b11⟩
                  · rw [if_pos rfl] at f2
                    subst f2
                    go_wp2_with fail
                    refine (CDO.out _).mono ?_
                    rintro e w11 ⟨rfl, b11⟩
                    go_wp2_with fail
                    go_ret
                    exact ⟨rfl, btP B9.out b11⟩
                · rw [if_pos rfl] at f1
                  subst f1
                  rcases F2.out with rfl | ⟨rfl, f2⟩
                  · skip
                    go_wp2_with fail
                    refine (CDO.out _).mono ?_
                    rintro e w11 ⟨rfl, b11⟩
                    go_wp2_with fail
                    go_ret
                    exact ⟨rfl, btP B9.out b11⟩
                  · rw [if_pos rfl] at f2
                    subst f2
                    go_wp2_with fail
                    refine (CDO.out _).mono ?_
                    rintro e w11 ⟨rfl, b11⟩
                    go_wp2_with fail
                    go_ret
                    exact ⟨rfl, btP B9.out b11⟩
              · have hm1 : (m == []) = false := beq_eq_false_iff_ne.2 hm
                have hm2 : m.isEmpty = false := by cases m with | nil => exact absurd rfl hm | cons _ _ => rfl
                rcases F1.out with rfl | ⟨rfl, f1⟩
                · skip
                  rcases F2.out with rfl | ⟨rfl, f2⟩
                  · skip
                    go_wp2_with fail
                    refine (CDO.out _).mono ?_
                    rintro e w11 ⟨rfl, b11⟩
                    go_wp2_with fail
                    go_ret
                    exact ⟨rfl, btP B9.out b11⟩
                  · rw [if_neg hm] at f2
                    subst f2
                    go_wp2_with fail
                    refine (CDO.out _).mono ?_
                    rintro e w11 ⟨rfl, b11⟩
                    go_wp2_with fail
                    go_ret
                    exact ⟨rfl, btP B9.out b11⟩
                · rw [if_neg hm] at f1
                  subst f1
                  rcases F2.out with rfl | ⟨rfl, f2⟩
                  · skip
                    go_wp2_with fail
                    refine (CDO.out _).mono ?_
                    rintro e w11 ⟨rfl, b11⟩
                    go_wp2_with fail
                    go_ret
                    exact ⟨rfl, btP B9.out b11⟩
                  · rw [if_neg hm] at f2
                    subst f2
                    go_wp2_with fail
                    refine (CDO.out _).mono ?_
                    rintro e w11 ⟨rfl, b11⟩
                    go_wp2_with fail
                    go_ret
                    exact ⟨rfl, btP B9.out b11⟩
end Go.Proofs.Ytheeekmhmbkncaa
