/- The walk of Live: which spans of cells have not expired. -/
import Derived.Test.YtfkjdjdgcegniaaRowsE
import Derived.Deep.AppendLies
namespace Go.Proofs.Ytfkjdjdgcegniaa
set_option maxRecDepth 16000
open Go.RowKit Spoor
set_option linter.unusedVariables false

theorem take_ce (l : List Ce) (k : Nat) (h : k < l.length) : l.take (k + 1) = l.take k ++ [l.getD k Ce.zero] := by
  rw [List.take_succ_eq_append_getElem h]
  simp [List.getD, h]
theorem liveR_step (l : List Ce) (now : Int) (k : Nat) (h : k < l.length) : liveR (l.take (k + 1)) now = liveR (l.take k) now ++ (match spanR (l.getD k Ce.zero) with | some x => if lateB x.st now then [] else [x] | none => []) := by
  rw [take_ce l k h, liveR_append]
  congr 1
  unfold liveR
  simp only [List.filterMap_cons, List.filterMap_nil]
  cases spanR (l.getD k Ce.zero) with
  | none => rfl
  | some x => cases h : lateB x.st now <;> simp [h]
structure LvAt (w : World) (v : Value) (l : List Ce) (now : Int) (k : Nat) (o : Value) (acc : List Sp) (wr : World) : Prop where
  le : k ≤ l.length
  acc' : acc = liveR (l.take k) now
  len : acc.length ≤ k
  own : wr.ownsRow w.heap.size 23 8 o acc.length (rowS acc)
  sl : SlAt v l wr
  bel : Below w.heap.size w wr
theorem LvAt.later {w : World} {v : Value} {l : List Ce} {now : Int} {k : Nat} {o : Value} {acc : List Sp} {wr w' : World} (h : LvAt w v l now k o acc wr) (hb : Below wr.heap.size wr w') : LvAt w v l now k o acc w' :=
  ⟨h.le, h.acc', h.len, own_laterS h.own hb, h.sl.later hb, btP h.bel hb⟩
theorem LvAt.skip {w : World} {v : Value} {l : List Ce} {now : Int} {k : Nat} {o : Value} {acc : List Sp} {wr : World} (h : LvAt w v l now k o acc wr) (hk : k < l.length) (hs : spanR (l.getD k Ce.zero) = none ∨ ∃ x, spanR (l.getD k Ce.zero) = some x ∧ lateB x.st now = true) : LvAt w v l now (k + 1) o acc wr := by
  refine ⟨by omega, ?_, by have := h.len; omega, h.own, h.sl, h.bel⟩
  rw [liveR_step l now k hk, ← h.acc']
  rcases hs with hs | ⟨x, hs, hl⟩
  · rw [hs]; simp
  · rw [hs]; simp [hl]
theorem LvAt.more {w : World} {v : Value} {l : List Ce} {now : Int} {k : Nat} {o o' : Value} {acc : List Sp} {wr w' : World} {x : Sp} (h : LvAt w v l now k o acc wr) (hk : k < l.length) (hs : spanR (l.getD k Ce.zero) = some x) (hl : lateB x.st now = false)
    (own : w'.ownsRow w.heap.size 23 8 o' (acc.length + 1) (rowS acc ++ spRow x)) (gr : wr.grownBy w' o.ownBlock) (hin : SlAt v l w → SlAt v l w') (h0 : SlAt v l w) : LvAt w v l now (k + 1) o' (acc ++ [x]) w' := by
  refine ⟨by omega, ?_, by have := h.len; simp; omega, ?_, hin h0, h.bel.grown gr h.bel.size (fun j hj => (h.own.lt j hj).1)⟩
  · rw [liveR_step l now k hk, ← h.acc', hs]
    simp [hl]
  · rw [rowS_snoc, List.length_append]
    exact own
set_option maxHeartbeats 2000000 in
theorem live_any (v : Value) (l : List Ce) (now : Int) (w : World) (hs : SlAt v l w) (hf : ∀ c ∈ l, FitsC c) (hn : I64 now) (hl : l.length ≤ 100000) :
    Calls Try.prog 25 #[v, .int .i64 now] w fun e w' => Below w.heap.size w w' ∧ ∃ o, e = .returned o ∧ w'.ownsRow w.heap.size 23 8 o (liveR l now).length (rowS (liveR l now)) := by
  have HS := Lib.hid hs
  obtain ⟨i0, hi, hz0, hz1, hz2⟩ := info_parts info_sp
  obtain ⟨A, cap, rfl, h1, h2, h3⟩ := hs
  unfold maxLen at h2
  have H3 := Lib.hid h3
  have HF := Lib.hid hf
  have HI := Lib.hid hn
  obtain ⟨n, hnn⟩ : ∃ n, l.length = n := ⟨_, rfl⟩
  have HN := Lib.hid hnn
  have M0 : LvAt w (.slice A l.length cap) l now 0 (.slice none 0 0) [] w := ⟨by omega, by simp [liveR], by simp, World.ownsRow_nil _ _ _ _, HS.out, Below.refl _ _⟩
  rw [hnn] at h1 hl M0 HS ⊢
  have M := Lib.hid M0
  clear h3 hf hn hnn M0
  go_enter Try.func25, Try.ntmps25
  go_wp2_with fail
  go_loopw [5, 12] (fun o i wr => ∃ (k : Nat) (acc : List Sp), i = .int .i64 k ∧ Hid (LvAt w (.slice A n cap) l now k o acc wr)) (fun _ i _ => n - (intOf i).toNat)
  case atStart => exact ⟨0, [], rfl, M⟩
  case round =>
    obtain ⟨k, acc, rfl, M⟩ := hrel
    have hkn : k ≤ n := by have := M.out.le; rw [HN.out] at this; exact this
    by_cases hlt : k < n
    · have hkl : k < l.length := by rw [HN.out]; exact hlt
      obtain ⟨bb, oo, rfl, hrow0⟩ := H3.out (by omega)
      have hrow := hrow0.later M.out.bel hrow0.1
      obtain ⟨x0, x1, x2⟩ := hrow.cells hkl
      have ltb := hrow.1
      have cs := fun W => span_any (l.getD k Ce.zero) W (getD_lt HF.out hkl)
      have HSK := Lib.hid (M.out.skip hkl)
      have hfi := getD_lt HF.out hkl
      have KL := Lib.hid hkl
      clear hrow hrow0 hkl hfi
      cases hsp : spanR (l.getD k Ce.zero) with
      | none =>
        have SK := Lib.hid (HSK.out (.inl hsp))
        rw [hsp] at cs
        unfold spanV spVal at cs
        unfold ceVal at cs
        have CS := Lib.hid cs
        clear cs HSK hsp
        generalize l.getD k Ce.zero = c at *
        have SK := Lib.hid (SK.out.later ((Below.refl wr.heap.size wr).alloc (Nat.le_refl _) (boxC c)))
        obtain ⟨k0, k1, k2⟩ := (CeAt.boxed c wr).cell
        unfold boxC at *
        go_wp2_with fail
        refine (CS.out _).mono ?_
        rintro e w1 ⟨rfl, b1⟩
        have SK := Lib.hid ((SK.out.later b1).later (spBox Sp.zero w1))
        clear b1 k0 k1 k2
        go_wp2_with fail
        go_roundw
        case rel => exact ⟨k + 1, acc, by go_num, SK⟩
        case measure => simp [intOf]; omega
      | some x =>
        have ce := fun W => expired_any x now W (spanR_st hsp) HI.out
        rw [hsp] at cs
        unfold spanV spVal at cs
        unfold ceVal at cs
        unfold spVal at ce
        have CS := Lib.hid cs
        have HSP := Lib.hid hsp
        cases hlx : lateB x.st now with
        | true =>
          have SK := Lib.hid (HSK.out (.inr ⟨x, hsp, hlx⟩))
          rw [hlx] at ce
          have CE := Lib.hid ce
          clear cs ce HSK hsp hlx HSP
          generalize l.getD k Ce.zero = c at *
          have SK := Lib.hid (SK.out.later ((Below.refl wr.heap.size wr).alloc (Nat.le_refl _) (boxC c)))
          obtain ⟨k0, k1, k2⟩ := (CeAt.boxed c wr).cell
          unfold boxC at *
          go_wp2_with fail
          refine (CS.out _).mono ?_
          rintro e w1 ⟨rfl, b1⟩
          have SK := Lib.hid ((SK.out.later b1).later (spBox x w1))
          obtain ⟨d0, d1, d2, d3, d4, d5, d6, d7⟩ := (SpAt.boxed x w1).cell
          clear b1 k0 k1 k2
          go_wp2_with fail
          refine (CE.out _).mono ?_
          rintro e w2 ⟨rfl, b2⟩
          have SK := Lib.hid (SK.out.later b2)
          clear b2 d0 d1 d2 d3 d4 d5 d6 d7
          go_wp2_with fail
          go_roundw
          case rel => exact ⟨k + 1, acc, by go_num, SK⟩
          case measure => simp [intOf]; omega
        | false =>
          rw [hlx] at ce
          have CE := Lib.hid ce
          have HLX := Lib.hid hlx
          clear cs ce HSK hsp hlx
          have MO := fun o' w' wq (h : LvAt w (.slice (some ⟨bb, oo, none⟩) n cap) l now k u5 acc wq) own gr => LvAt.more (w' := w') (o' := o') h KL.out HSP.out HLX.out own gr
          have HMO := Lib.hid MO
          clear MO HSP HLX KL
          generalize l.getD k Ce.zero = c at *
          have M := Lib.hid (M.out.later ((Below.refl wr.heap.size wr).alloc (Nat.le_refl _) (boxC c)))
          obtain ⟨k0, k1, k2⟩ := (CeAt.boxed c wr).cell
          unfold boxC at *
          go_wp2_with fail
          refine (CS.out _).mono ?_
          rintro e w1 ⟨rfl, b1⟩
          have M := Lib.hid ((M.out.later b1).later (spBox x w1))
          obtain ⟨d0, d1, d2, d3, d4, d5, d6, d7⟩ := (SpAt.boxed x w1).cell
          have QX := Lib.hid (SpAt.boxed x w1)
          clear b1 k0 k1 k2
          go_wp2_with fail
          refine (CE.out _).mono ?_
          rintro e w2 ⟨rfl, b2⟩
          have M := Lib.hid (M.out.later b2)
          have QX := Lib.hid (SpAt.later QX.out b2 (SpAt.lt QX.out))
          clear b2 d0 d1 d2 d3 d4 d5 d6 d7
          obtain ⟨d0, d1, d2, d3, d4, d5, d6, d7⟩ := SpAt.cell QX.out
          have hal := M.out.len
          have M2 := Lib.hid (M.out.later (spBox x w2))
          have own := M2.out.own
          have hbs := M2.out.bel.size
          go_wp2_with (at_builtin; refine wpList_append_lies _ rfl _ _ 27 rfl w.heap.size 23 i0 (.agg #[.int .i64 0, .int .i64 0, .int .i64 0, .string ⟨#[]⟩, .string ⟨#[]⟩, .int .i64 0, .int .i64 0, .string ⟨#[]⟩]) 8 88 Try.underlying27 hi hz0 hz1 hz2 rfl (by decide) _ acc.length (rowS acc) rfl own ⟨w2.heap.size, 0, none⟩ 1 1 (spRow x) rfl rfl (World.news_of_block (SpAt.boxed x w2)) (spRow_one x) (by decide) (by unfold maxLen; omega) (by omega) hbs _ rfl ?_)
          intro g gcap w3 own3 gr3 alt3 lt3
          have hin : SlAt (.slice (some ⟨bb, oo, none⟩) n cap) l w → SlAt (.slice (some ⟨bb, oo, none⟩) n cap) l w3 := fun h => h.later (M2.out.bel.grown gr3 M2.out.bel.size (fun j hj => (M2.out.own.lt j hj).1))
          have MM := Lib.hid (HMO.out _ _ _ M2.out own3 gr3 hin HS.out)
          clear own3 gr3 alt3 lt3 hin own d0 d1 d2 d3 d4 d5 d6 d7
          go_wp2_with fail
          go_roundw
          case rel => exact ⟨k + 1, acc ++ [x], by go_num, MM⟩
          case measure => simp [intOf]; omega
    · obtain rfl : k = n := by omega
      have hacc : acc = liveR l now := by
        have := M.out.acc'
        rw [List.take_of_length_le (by rw [HN.out]; exact Nat.le_refl _)] at this
        exact this
      have HA := Lib.hid hacc
      clear hacc
      go_wp2_with fail
      refine bodyPost_ret (v := u5) (by simp [results, Try.results25, go_sem]) rfl ⟨M.out.bel, u5, rfl, ?_⟩
      rw [← HA.out]
      exact M.out.own
end Go.Proofs.Ytfkjdjdgcegniaa
