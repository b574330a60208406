/- The walk of RowsTake. -/
import Derived.Test.YtfkjdjdgcegniaaRowsM
import Derived.Test.YtfkjdjdgcegniaaRowsN
namespace Go.Proofs.Ytfkjdjdgcegniaa
set_option maxRecDepth 16000
open Go.RowKit Spoor
set_option linter.unusedVariables false

def lastC (S : List Ce) (c : Ce) : Option Sp := match spanR c with | some x => if lastOf S c.k = some c then some x else none | none => none
theorem lastSpans_eq (S : List Ce) : lastSpans S = S.filterMap (lastC S) := rfl
def lastUp (S : List Ce) (k : Nat) : List Sp := (S.take k).filterMap (lastC S)
theorem lastUp_snoc (S : List Ce) (k : Nat) (h : k < S.length) : lastUp S (k + 1) = lastUp S k ++ (match lastC S (S.getD k Ce.zero) with | some x => [x] | none => []) := by
  unfold lastUp
  rw [take_ce S k h, List.filterMap_append]
  congr 1
  simp only [List.filterMap_cons, List.filterMap_nil]
  cases lastC S (S.getD k Ce.zero) <;> rfl
theorem lastC_st {S : List Ce} {c : Ce} {x : Sp} (h : lastC S c = some x) : I64 x.st := by
  unfold lastC at h
  cases e : spanR c with
  | none => rw [e] at h; cases h
  | some y =>
    rw [e] at h
    simp only at h
    split at h
    · simp only [Option.some.injEq] at h
      subst h
      exact spanR_st e
    · cases h
theorem lastSpans_st (S : List Ce) : ∀ x ∈ lastSpans S, I64 x.st := by
  intro x hx
  rw [lastSpans_eq] at hx
  obtain ⟨c, -, hc⟩ := List.mem_filterMap.1 hx
  exact lastC_st hc
theorem lastUp_len (S : List Ce) (k : Nat) : (lastUp S k).length ≤ S.length := by
  unfold lastUp
  refine Nat.le_trans (List.length_filterMap_le _ _) ?_
  rw [List.length_take]
  omega
theorem eql_ce (x y : Ce) (W : World) : (binOp .eql 25 (ceVal x) (ceVal y)).run Try.prog W = .ok (.bool (decide (x = y))) W := by
  unfold ceVal
  go_simp
  obtain ⟨a1, a2, a3⟩ := x
  obtain ⟨b1, b2, b3⟩ := y
  simp only [Ce.mk.injEq]
  by_cases h1 : a1 = b1 <;> by_cases h2 : a2 = b2 <;> by_cases h3 : a3 = b3 <;> simp [*]
theorem takeR_len (get : List UInt8 → Option Ce) (now : Int) : ∀ (l acc : List Sp), (takeR get now acc l).length ≤ acc.length + l.length
  | [], acc => by simp [takeR]
  | x :: l, acc => by
    rw [takeR]
    refine Nat.le_trans (takeR_len get now l _) ?_
    split
    · simp; omega
    · simp
theorem fits_of_ok {x : Sp} (h : x.ok = true) : Fits x := by
  obtain ⟨_, _, _, _, _, f, g, k⟩ := ok_of h
  have := nameOk_of f
  have := nameOk_of g
  exact ⟨by omega, by omega, by omega⟩
theorem slc_at {A : Option Addr} {n cap : Nat} {l : List Ce} {w : World} (h : SlAt (.slice A n cap) l w) (hp : 0 < l.length) : ∃ b o, A = some ⟨b, o, none⟩ ∧ RowAt b o l w := by
  obtain ⟨A2, c2, he, _, _, hr⟩ := h
  obtain ⟨b, o, h1, h2⟩ := hr hp
  injection he with he _ _
  exact ⟨b, o, he.trans h1, h2⟩
theorem slc_at2 {b o n cap : Nat} {l : List Ce} {w : World} (h : SlAt (.slice (some ⟨b, o, none⟩) n cap) l w) (hp : 0 < l.length) : RowAt b o l w := by
  obtain ⟨b2, o2, h1, h2⟩ := slc_at h hp
  simp only [Option.some.injEq, Addr.mk.injEq, and_true] at h1
  obtain ⟨rfl, rfl⟩ := h1
  exact h2
/-- loop 1: the spans that are the last of their trace and ID -/
structure L1 (wb : World) (p : Nat) (sv : Value) (S : List Ce) (lv : Value) (l : List Sp) (k : Nat) (v : Value) (acc : List Sp) (wr : World) : Prop where
  le : k ≤ S.length
  acc' : acc = lastUp S k
  own : wr.ownsRow wb.heap.size 23 8 v acc.length (rowS acc)
  sh : wr.heap[p]? = some (.cells #[sv] 44 (0, 0))
  ss : SlAt sv S wr
  sl : SlS lv l wr
  bel : Below wb.heap.size wb wr
theorem L1.later {wb : World} {p : Nat} {sv : Value} {S : List Ce} {lv : Value} {l : List Sp} {k : Nat} {v : Value} {acc : List Sp} {wr w' : World} (h : L1 wb p sv S lv l k v acc wr) (hb : Below wr.heap.size wr w') : L1 wb p sv S lv l k v acc w' :=
  ⟨h.le, h.acc', own_laterS h.own hb, blk_later h.sh hb, h.ss.later hb, h.sl.later hb, btP h.bel hb⟩
theorem L1.skip {wb : World} {p : Nat} {sv : Value} {S : List Ce} {lv : Value} {l : List Sp} {k : Nat} {v : Value} {acc : List Sp} {wr : World} (h : L1 wb p sv S lv l k v acc wr) (hk : k < S.length) (hc : lastC S (S.getD k Ce.zero) = none) : L1 wb p sv S lv l (k + 1) v acc wr := by
  refine ⟨by omega, ?_, h.own, h.sh, h.ss, h.sl, h.bel⟩
  rw [lastUp_snoc S k hk, ← h.acc', hc]
  simp
theorem L1.more {wb : World} {p : Nat} {sv : Value} {S : List Ce} {lv : Value} {l : List Sp} {k : Nat} {v v' : Value} {acc : List Sp} {wr w' : World} {x : Sp} (h : L1 wb p sv S lv l k v acc wr) (hk : k < S.length) (hc : lastC S (S.getD k Ce.zero) = some x) (hsh : wb.heap[p]? = some (.cells #[sv] 44 (0, 0))) (hss : SlAt sv S wb) (hsl : SlS lv l wb)
    (own : w'.ownsRow wb.heap.size 23 8 v' (acc.length + 1) (rowS acc ++ spRow x)) (gr : wr.grownBy w' v.ownBlock) : L1 wb p sv S lv l (k + 1) v' (acc ++ [x]) w' := by
  have bel := h.bel.grown gr h.bel.size (fun j hj => (h.own.lt j hj).1)
  refine ⟨by omega, ?_, ?_, blk_later hsh bel, hss.later bel, hsl.later bel, bel⟩
  · rw [lastUp_snoc S k hk, ← h.acc', hc]
  · rw [rowS_snoc, List.length_append]
    exact own
/-- loop 2: the cells of those that are taken -/
structure L2 (wd : World) (av cv wv : Value) (R : List Sp) (k : Nat) (v : Value) (wr : World) : Prop where
  le : k ≤ R.length
  own : wr.ownsRow wd.heap.size 25 3 v (2 * k) (rowOf (cellsOf (R.take k)))
  sa : SlS av R wr
  sc : SlAt cv (cellsOf R) wr
  sw : SlS wv R wr
  bel : Below wd.heap.size wd wr
theorem L2.later {wd : World} {av cv wv : Value} {R : List Sp} {k : Nat} {v : Value} {wr w' : World} (h : L2 wd av cv wv R k v wr) (hb : Below wr.heap.size wr w') : L2 wd av cv wv R k v w' :=
  ⟨h.le, own_laterC h.own hb, h.sa.later hb, h.sc.later hb, h.sw.later hb, btP h.bel hb⟩
theorem L2.more {wd : World} {av cv wv : Value} {R : List Sp} {k : Nat} {v v' : Value} {wr w' : World} {x : Sp} (h : L2 wd av cv wv R k v wr) (hk : k < R.length) (hx : R.getD k Sp.zero = x) (h0 : L2 wd av cv wv R 0 (.slice none 0 0) wd)
    (own : w'.ownsRow wd.heap.size 25 3 v' (2 * k + 2) (rowOf (cellsOf (R.take k)) ++ rowOf [cellA x, cellI x])) (gr : wr.grownBy w' v.ownBlock) : L2 wd av cv wv R (k + 1) v' w' := by
  have bel := h.bel.grown gr h.bel.size (fun j hj => (h.own.lt j hj).1)
  refine ⟨by omega, ?_, h0.sa.later bel, h0.sc.later bel, h0.sw.later bel, bel⟩
  rw [take_sp R k hk, hx, ← row_more]
  exact own
set_option maxHeartbeats 16000000 in
theorem rowsTake_law (W : World) (tv : Value) (T : List Sp) (lv : Value) (l : List Sp) (now : Int) (hsT : SlS tv T W) (hnT : tv = .slice none 0 0 ∨ ∃ ad n c, tv = .slice (some ad) n c) (hfT : ∀ x ∈ T, WfX x) (hsl : SlS lv l W) (hnl : lv = .slice none 0 0 ∨ ∃ ad n c, lv = .slice (some ad) n c) (hfl : ∀ x ∈ l, WfX x) (hn : I64 now) :
    Calls Try.prog 6 #[tv, lv, .int .i64 now] W fun e w' => e = .returned (.bool true) ∧ Below W.heap.size W w' := by
  have CDO := Lib.hid lives_true
  have HSL := Lib.hid hsl
  have cb1 := beyondS_any tv T 30 W hsT (fun x hx => (hfT x hx).1) (by omega)
  have cb2 := fun w' h => beyondS_any lv l 20 w' h (fun x hx => (hfl x hx).1) (by omega)
  clear hnT hnl
  cases hfar : farS T 30 with
  | true =>
    rw [hfar] at cb1
    have CB := Lib.hid cb1
    clear cb1 cb2 hfar hsT hfT hsl hfl hn
    go_enter Try.func6, Try.ntmps6
    go_wp2_with fail
    refine CB.out.mono ?_
    rintro e w1 ⟨rfl, b1⟩
    go_wp2_with fail
    refine (CDO.out _).mono ?_
    rintro e w2 ⟨rfl, b2⟩
    go_wp2_with fail
    go_ret
    exact ⟨rfl, btP b1 b2⟩
  | false =>
    rw [hfar] at cb1
    cases hfar2 : farS l 20 with
    | true =>
      rw [hfar2] at cb2
      have CB := Lib.hid cb1
      have CB2 := Lib.hid cb2
      clear cb1 cb2 hfar hfar2 hsT hfT hsl hfl hn
      go_enter Try.func6, Try.ntmps6
      go_wp2_with fail
      refine CB.out.mono ?_
      rintro e w1 ⟨rfl, b1⟩
      have SL := Lib.hid (HSL.out.later b1)
      go_wp2_with fail
      refine (CB2.out _ SL.out).mono ?_
      rintro e w2 ⟨rfl, b2⟩
      have B := btP b1 b2
      clear b1 b2
      go_wp2_with fail
      refine (CDO.out _).mono ?_
      rintro e w3 ⟨rfl, b3⟩
      go_wp2_with fail
      go_ret
      exact ⟨rfl, btP B b3⟩
    | false =>
      rw [hfar2] at cb2
      have CB := Lib.hid cb1
      have CB2 := Lib.hid cb2
      have csh := fun w' h => shelved_any tv T w' h (fun x hx => (near_fits hfar hx).1) (by have := near_len hfar; omega)
      have CSH := Lib.hid csh
      have HST := Lib.hid hsT
      have hlT := near_len hfar
      have hll := near_len hfar2
      obtain ⟨S, hS⟩ : ∃ S, shelfOf T = S := ⟨_, rfl⟩
      have hSl : S.length ≤ 60 := by
        rw [← hS]
        unfold shelfOf
        rw [cellsOf_length]
        have := List.length_filter_le Sp.ok T
        omega
      rw [hS] at csh
      have CSH := Lib.hid csh
      have ct : ∀ (p : Nat) (v : Value) (W : World), ShAt p S W → SlS v l W → Calls Try.prog 19 #[.func (.func 20) #[.pointer (some ⟨p, 0, none⟩)] #[], v, .int .i64 now] W (TakeEx S l now W) :=
        fun p v W h hs => take_spans_any p S v l now W h (by omega) hs (fun x hx => (near_fits hfar2 hx).1) (fun x hx => (hfl x hx).2) hn (by omega)
      have hsame : takeR (lastOf S) now [] l = refTake (lastSpans S) now [] l := by rw [← hS]; exact take_same T now l [] (by simp)
      have hin := takeR_in (lastOf S) now l [] (by simp)
      have hrt := fun v W (h : SlS v (lastSpans S) W) lv (hl : SlS lv l W) => refTakeS_any v (lastSpans S) lv l now W h hl (lastSpans_st S) (fun x hx => (near_fits hfar2 hx).1) (fun x hx => (hfl x hx).2) hn (by have := lastUp_len S S.length; unfold lastUp at this; rw [List.take_length, ← lastSpans_eq] at this; omega) (by omega)
      rw [← hsame] at hrt
      unfold TakeEx at ct
      obtain ⟨R, hR⟩ : ∃ R, takeR (lastOf S) now [] l = R := ⟨_, rfl⟩
      rw [hR] at ct hin hrt
      have hlive := liveR_cells hin
      have hRl : R.length ≤ 20 := by
        rw [← hR]
        refine Nat.le_trans (takeR_len _ _ _ _) ?_
        simpa using hll
      have cl := fun v W (h : SlAt v (cellsOf R) W) => live_any v (cellsOf R) now W h (fits_cellsOf fun x hx => (hin x hx).1) hn (by rw [cellsOf_length]; omega)
      rw [hlive] at cl
      have cc := fun x (hx : x ∈ R) W => refCells_any x W (fits_of_ok (hin x hx).1)
      have HIN := Lib.hid hin
      have cs := fun s t W (h : SlS s R W) (k : SlS t R W) => sameSpans_any s t R R W h k
      have cq := fun s t W (h : SlAt s (cellsOf R) W) (k : SlAt t (cellsOf R) W) => sameCells_any s t (cellsOf R) (cellsOf R) W h k
      rw [decide_eq_true rfl] at cs cq
      have CT := Lib.hid ct
      have CR := Lib.hid hrt
      have CL := Lib.hid cl
      have CC := Lib.hid cc
      have CS := Lib.hid cs
      have CQ := Lib.hid cq
      clear cb1 cb2 hfar hfar2 hsT hfT hsl hfl hn csh ct hsame hin hrt hlive cl cc cs cq hS hR hlT hll
      go_enter Try.func6, Try.ntmps6
      go_wp2_with fail
      refine CB.out.mono ?_
      rintro e w1 ⟨rfl, b1⟩
      have SL := Lib.hid (HSL.out.later b1)
      have ST := Lib.hid (HST.out.later b1)
      have B := Lib.hid b1
      clear b1 CB HSL HST
      go_wp2_with fail
      refine (CB2.out _ SL.out).mono ?_
      rintro e w2 ⟨rfl, b2⟩
      have SL := Lib.hid (SL.out.later b2)
      have ST := Lib.hid (ST.out.later b2)
      have B := Lib.hid (btP B.out b2)
      clear b2 CB2
      go_wp2_with fail
      refine (CSH.out _ ST.out).mono ?_
      rintro e wb ⟨rfl, sh, b3⟩
      have SL := Lib.hid (SL.out.later b3)
      have B := Lib.hid (btP B.out b3)
      obtain ⟨p, hp⟩ : ∃ p, w2.heap.size = p := ⟨_, rfl⟩
      rw [hp] at sh ⊢
      have hfits := Lib.hid sh.fits
      obtain ⟨sv, hsv, hss⟩ := sh.at'
      obtain ⟨A, cap, rfl, -, -, -⟩ := id hss
      obtain ⟨n, hn⟩ : ∃ n, S.length = n := ⟨_, rfl⟩
      have HN := Lib.hid hn
      have M0 := Lib.hid (L1.mk (Nat.zero_le S.length) (by simp [lastUp]) (World.ownsRow_nil _ _ _ _) hsv hss SL.out (Below.refl wb.heap.size wb) : L1 wb p (.slice A S.length cap) S lv l 0 (.slice none 0 0) [] wb)
      rw [hn] at M0 hSl
      have M := M0
      clear b3 sh hp ST CSH SL hsv hss hn
      obtain ⟨i0, hi, hz0, hz1, hz2⟩ := info_parts info_sp
      obtain ⟨j0, gi, gz0, gz1, gz2⟩ := info_parts info_ce
      go_wp2_with fail
      go_loopw [8, 9] (fun v i wr => ∃ (k : Nat) (acc : List Sp), i = .int .i64 k ∧ Hid (L1 wb p (.slice A n cap) S lv l k v acc wr)) (fun _ i _ => n - (intOf i).toNat)
      case atStart => exact ⟨0, [], rfl, M⟩
      case round =>
        obtain ⟨k, acc, rfl, M⟩ := hrel
        have hkn : k ≤ n := by have := M.out.le; rw [HN.out] at this; exact this
        have hsh := M.out.sh
        have hc0 := cell_of_one hsh
        have hpl := (Array.getElem?_eq_some_iff.1 hsh).1
        clear hsh
        by_cases hlt : k < n
        · have hkl : k < S.length := by rw [HN.out]; exact hlt
          have HP := Lib.hid (show 0 < S.length by omega)
          have HKL := Lib.hid hkl
          obtain ⟨b, oo, rfl, hr⟩ := slc_at M.out.ss HP.out
          obtain ⟨y0, y1, y2⟩ := hr.cells hkl
          have hb1 := hr.1
          have hfc := getD_lt hfits.out hkl
          have hmem : S.getD k Ce.zero ∈ S := by simp [List.getD, hkl]
          obtain ⟨d, hd⟩ := lastOf_isSome hmem rfl
          have HSK := Lib.hid (fun (wq : World) (h : L1 wb p (.slice (some ⟨b, oo, none⟩) n cap) S lv l k u8 acc wq) => h.skip hkl)
          have HMO := Lib.hid (fun (wq w' : World) (v' : Value) (x : Sp) (hx : lastC S (S.getD k Ce.zero) = some x) (h : L1 wb p (.slice (some ⟨b, oo, none⟩) n cap) S lv l k u8 acc wq) => h.more (v' := v') (w' := w') hkl hx M0.out.sh M0.out.ss M0.out.sl)
          clear hr hmem hkl
          obtain ⟨c, hc⟩ : ∃ c, S.getD k Ce.zero = c := ⟨_, rfl⟩
          have HCC := Lib.hid hc
          rw [hc] at y0 y1 y2 hfc hd HSK HMO
          have cg := fun W (h : ShAt p S W) => get_sh_any p S c.k W h (by rw [HN.out]; omega)
          rw [hd] at cg
          have csp := fun W => span_any c W hfc
          unfold getShV ceVal at cg
          unfold ceVal at csp
          have hel := fun W => eql_ce d c W
          unfold ceVal at hel
          have CG := Lib.hid cg
          have HEL := Lib.hid hel
          have HLC : Hid (lastC S c = match spanR c with | some x => if d = c then some x else none | none => none) := Lib.hid (by unfold lastC; rw [hd]; simp only [Option.some.injEq])
          clear hfc hd hc cg hel
          cases hsp : spanR c with
          | none =>
            rw [hsp] at csp HLC
            have CSP := Lib.hid csp
            have SK := Lib.hid (fun wq h => HSK.out wq h HLC.out)
            clear csp hsp HLC HSK HMO HEL
            unfold spanV spVal at CSP
            go_wp2_with fail
            refine (CSP.out _).mono ?_
            rintro e w4 ⟨rfl, b4⟩
            have bx := spBox Sp.zero w4
            have M := Lib.hid ((M.out.later b4).later bx)
            have QX := Lib.hid (SpAt.boxed Sp.zero w4)
            clear b4 bx hc0 y0 y1 y2 hpl hb1
            have hsh := M.out.sh
            have hc0 := cell_of_one hsh
            have hpl := (Array.getElem?_eq_some_iff.1 hsh).1
            have hr := slc_at2 M.out.ss HP.out
            have hb1 := hr.1
            obtain ⟨y0, y1, y2⟩ := hr.cells HKL.out
            rw [HCC.out] at y0 y1 y2
            have SHQ := Lib.hid (ShAt.mk ⟨_, M.out.sh, M.out.ss⟩ hfits.out)
            clear hsh hr
            go_wp2_with fail
            refine (CG.out _ SHQ.out).mono ?_
            rintro e w6 ⟨rfl, b6⟩
            have bc := box_latS (w := w6) (boxC d)
            have M := Lib.hid ((M.out.later b6).later bc)
            have QX := Lib.hid (SpAt.later (SpAt.later QX.out b6 (SpAt.lt QX.out)) bc (Nat.lt_of_lt_of_le (SpAt.lt QX.out) b6.size))
            have QD := Lib.hid (CeAt.boxed d w6)
            unfold boxC at M QX QD
            clear b6 bc hc0 y0 y1 y2 hpl hb1 SHQ
            go_upto_region 10 with fail
            obtain ⟨wz, hwz⟩ : ∃ wz, w6.alloc (.cells #[.string ⟨d.k.toArray⟩, .int .i64 d.q, .string ⟨d.v.toArray⟩] 25) = wz := ⟨_, rfl⟩
            rw [hwz] at M QX QD ⊢
            clear hwz
            have hsh := M.out.sh
            have hc0 := cell_of_one hsh
            have hpl := (Array.getElem?_eq_some_iff.1 hsh).1
            have hr := slc_at2 M.out.ss HP.out
            have hb1 := hr.1
            obtain ⟨y0, y1, y2⟩ := hr.cells HKL.out
            rw [HCC.out] at y0 y1 y2
            obtain ⟨k0, k1, k2⟩ := QD.out.cell
            have hd1 := CeAt.lt QD.out
            clear hsh hr
            refine wp_region_more (by kernel_rfl) (by kernel_rfl) ?_
            repeat (go_big_quiet_step (fail))
            refine wpQuiet_nil ?_
            rintro _ ⟨ex, rfl⟩
            have BB := World.below_more wz ex
            clear hc0 y0 y1 y2 k0 k1 k2 hpl hb1 hd1
            have M := Lib.hid (M.out.later BB)
            clear BB
            go_wp2_with fail
            go_roundw
            case rel => exact ⟨k + 1, acc, by go_num, Lib.hid (SK.out _ M.out)⟩
            case measure => simp [intOf]; omega
          | some x =>
            rw [hsp] at csp HLC
            have CSP := Lib.hid csp
            clear csp hsp
            unfold spanV spVal at CSP
            by_cases hdc : d = c
            · have hq : decide (d = c) = true := decide_eq_true hdc
              have hel := HEL.out
              rw [hq] at hel
              have MO := Lib.hid (fun wq w' v' h => HMO.out wq w' v' x (by rw [HLC.out]; exact if_pos hdc) h)
              have HEL := Lib.hid hel
              clear hdc hq hel HLC HSK HMO
              go_wp2_with fail
              refine (CSP.out _).mono ?_
              rintro e w4 ⟨rfl, b4⟩
              have bx := spBox x w4
              have M := Lib.hid ((M.out.later b4).later bx)
              have QX := Lib.hid (SpAt.boxed x w4)
              clear b4 bx hc0 y0 y1 y2 hpl hb1
              have hsh := M.out.sh
              have hc0 := cell_of_one hsh
              have hpl := (Array.getElem?_eq_some_iff.1 hsh).1
              have hr := slc_at2 M.out.ss HP.out
              have hb1 := hr.1
              obtain ⟨y0, y1, y2⟩ := hr.cells HKL.out
              rw [HCC.out] at y0 y1 y2
              have SHQ := Lib.hid (ShAt.mk ⟨_, M.out.sh, M.out.ss⟩ hfits.out)
              clear hsh hr
              go_wp2_with fail
              refine (CG.out _ SHQ.out).mono ?_
              rintro e w6 ⟨rfl, b6⟩
              have bc := box_latS (w := w6) (boxC d)
              have M := Lib.hid ((M.out.later b6).later bc)
              have QX := Lib.hid (SpAt.later (SpAt.later QX.out b6 (SpAt.lt QX.out)) bc (Nat.lt_of_lt_of_le (SpAt.lt QX.out) b6.size))
              have QD := Lib.hid (CeAt.boxed d w6)
              unfold boxC at M QX QD
              clear b6 bc hc0 y0 y1 y2 hpl hb1 SHQ
              go_upto_region 10 with fail
              obtain ⟨wz, hwz⟩ : ∃ wz, w6.alloc (.cells #[.string ⟨d.k.toArray⟩, .int .i64 d.q, .string ⟨d.v.toArray⟩] 25) = wz := ⟨_, rfl⟩
              rw [hwz] at M QX QD ⊢
              clear hwz
              have hsh := M.out.sh
              have hc0 := cell_of_one hsh
              have hpl := (Array.getElem?_eq_some_iff.1 hsh).1
              have hr := slc_at2 M.out.ss HP.out
              have hb1 := hr.1
              obtain ⟨y0, y1, y2⟩ := hr.cells HKL.out
              rw [HCC.out] at y0 y1 y2
              obtain ⟨k0, k1, k2⟩ := QD.out.cell
              have hd1 := CeAt.lt QD.out
              clear hsh hr
              have hel := HEL.out
              refine wp_region_more (by kernel_rfl) (by kernel_rfl) ?_
              repeat (go_big_quiet_step (fail))
              refine wpQuiet_nil ?_
              rintro _ ⟨ex, rfl⟩
              have BB := World.below_more wz ex
              clear hc0 y0 y1 y2 k0 k1 k2 hpl hb1 hd1
              have M := Lib.hid (M.out.later BB)
              have QX := Lib.hid (SpAt.later QX.out BB (SpAt.lt QX.out))
              obtain ⟨wy, hwy⟩ : ∃ wy, wz.more ex = wy := ⟨_, rfl⟩
              rw [hwy] at M QX ⊢
              clear BB hwy hel
              obtain ⟨x0, x1, x2, x3, x4, x5, x6, x7⟩ := QX.out.cell
              have M2 := Lib.hid (M.out.later (spBox x wy))
              have own := M2.out.own
              have hbs := M2.out.bel.size
              have hal : acc.length ≤ 60 := by rw [M.out.acc']; exact Nat.le_trans (lastUp_len S k) (by rw [HN.out]; exact hSl)
              go_wp2_with (at_builtin; refine wpList_append_lies _ rfl _ _ 27 rfl wb.heap.size 23 i0 (.agg #[.int .i64 0, .int .i64 0, .int .i64 0, .string ⟨#[]⟩, .string ⟨#[]⟩, .int .i64 0, .int .i64 0, .string ⟨#[]⟩]) 8 88 Try.underlying27 hi hz0 hz1 hz2 rfl (by decide) _ acc.length (rowS acc) rfl own ⟨wy.heap.size, 0, none⟩ 1 1 (spRow x) rfl rfl (World.news_of_block (SpAt.boxed x wy)) (spRow_one x) (by decide) (by unfold maxLen; omega) (by omega) hbs _ rfl ?_)
              intro g gc w8 own3 gr3 alt3 lt3
              have MM := Lib.hid (MO.out _ _ _ M2.out own3 gr3)
              clear own3 gr3 alt3 lt3 own x0 x1 x2 x3 x4 x5 x6 x7
              go_wp2_with fail
              go_roundw
              case rel => exact ⟨k + 1, acc ++ [x], by go_num, MM⟩
              case measure => simp [intOf]; omega
            · have hq : decide (d = c) = false := decide_eq_false hdc
              have hel := HEL.out
              rw [hq] at hel
              have SK := Lib.hid (fun wq h => HSK.out wq h (by rw [HLC.out]; exact if_neg hdc))
              have HEL := Lib.hid hel
              clear hdc hq hel HLC HSK HMO
              go_wp2_with fail
              refine (CSP.out _).mono ?_
              rintro e w4 ⟨rfl, b4⟩
              have bx := spBox x w4
              have M := Lib.hid ((M.out.later b4).later bx)
              have QX := Lib.hid (SpAt.boxed x w4)
              clear b4 bx hc0 y0 y1 y2 hpl hb1
              have hsh := M.out.sh
              have hc0 := cell_of_one hsh
              have hpl := (Array.getElem?_eq_some_iff.1 hsh).1
              have hr := slc_at2 M.out.ss HP.out
              have hb1 := hr.1
              obtain ⟨y0, y1, y2⟩ := hr.cells HKL.out
              rw [HCC.out] at y0 y1 y2
              have SHQ := Lib.hid (ShAt.mk ⟨_, M.out.sh, M.out.ss⟩ hfits.out)
              clear hsh hr
              go_wp2_with fail
              refine (CG.out _ SHQ.out).mono ?_
              rintro e w6 ⟨rfl, b6⟩
              have bc := box_latS (w := w6) (boxC d)
              have M := Lib.hid ((M.out.later b6).later bc)
              have QX := Lib.hid (SpAt.later (SpAt.later QX.out b6 (SpAt.lt QX.out)) bc (Nat.lt_of_lt_of_le (SpAt.lt QX.out) b6.size))
              have QD := Lib.hid (CeAt.boxed d w6)
              unfold boxC at M QX QD
              clear b6 bc hc0 y0 y1 y2 hpl hb1 SHQ
              go_upto_region 10 with fail
              obtain ⟨wz, hwz⟩ : ∃ wz, w6.alloc (.cells #[.string ⟨d.k.toArray⟩, .int .i64 d.q, .string ⟨d.v.toArray⟩] 25) = wz := ⟨_, rfl⟩
              rw [hwz] at M QX QD ⊢
              clear hwz
              have hsh := M.out.sh
              have hc0 := cell_of_one hsh
              have hpl := (Array.getElem?_eq_some_iff.1 hsh).1
              have hr := slc_at2 M.out.ss HP.out
              have hb1 := hr.1
              obtain ⟨y0, y1, y2⟩ := hr.cells HKL.out
              rw [HCC.out] at y0 y1 y2
              obtain ⟨k0, k1, k2⟩ := QD.out.cell
              have hd1 := CeAt.lt QD.out
              clear hsh hr
              have hel := HEL.out
              refine wp_region_more (by kernel_rfl) (by kernel_rfl) ?_
              repeat (go_big_quiet_step (fail))
              refine wpQuiet_nil ?_
              rintro _ ⟨ex, rfl⟩
              have BB := World.below_more wz ex
              clear hc0 y0 y1 y2 k0 k1 k2 hpl hb1 hd1
              have M := Lib.hid (M.out.later BB)
              clear BB hel
              go_wp2_with fail
              go_roundw
              case rel => exact ⟨k + 1, acc, by go_num, Lib.hid (SK.out _ M.out)⟩
              case measure => simp [intOf]; omega
        · obtain rfl : k = n := by omega
          have hown := M.out.own
          have hac : acc = lastSpans S := by
            rw [M.out.acc', lastSpans_eq]
            unfold lastUp
            rw [List.take_of_length_le (by rw [HN.out]; exact Nat.le_refl _)]
          rw [hac] at hown
          have MS := Lib.hid (slS_own hown)
          have SHB := Lib.hid (ShAt.mk ⟨_, M.out.sh, M.out.ss⟩ hfits.out)
          have SLB := Lib.hid M.out.sl
          have B := Lib.hid (btP B.out M.out.bel)
          clear hown hac M M0
          go_wp2_with fail
          refine (CT.out _ _ _ SHB.out SLB.out).mono ?_
          rintro e w5 ⟨b5, ov, cv, rfl, own1, own2⟩
          have SA := Lib.hid (slS_own own1)
          have SC := Lib.hid (slAt_own (l := cellsOf R) (by rw [cellsOf_length]; exact own2))
          have MS := Lib.hid (MS.out.later b5)
          have SLB := Lib.hid (SLB.out.later b5)
          have B := Lib.hid (btP B.out b5)
          clear own1 own2 b5
          go_wp2_with fail
          refine (CR.out _ _ MS.out _ SLB.out).mono ?_
          rintro e w6 ⟨b6, wv, rfl, own3⟩
          have SW := Lib.hid (slS_own own3)
          have SA := Lib.hid (SA.out.later b6)
          have SC := Lib.hid (SC.out.later b6)
          have B := Lib.hid (btP B.out b6)
          clear own3 b6
          obtain ⟨wA, wc, rfl, -, -, -⟩ := SW.out
          have M0 := Lib.hid (L2.mk (Nat.zero_le R.length) (World.ownsRow_nil _ _ _ _) SA.out SC.out SW.out (Below.refl w6.heap.size w6) : L2 w6 ov cv (.slice wA R.length wc) R 0 (.slice none 0 0) w6)
          clear HN
          obtain ⟨n, hn⟩ : ∃ n, R.length = n := ⟨_, rfl⟩
          have HN := Lib.hid hn
          rw [hn] at hRl M0 SW ⊢
          have M := M0
          clear hn SA SC SW SLB SHB MS
          go_wp2_with fail
          go_loopw [17, 18] (fun v i wr => ∃ (k : Nat), i = .int .i64 k ∧ Hid (L2 w6 ov cv (.slice wA n wc) R k v wr)) (fun _ i _ => n - (intOf i).toNat)
          case atStart => exact ⟨0, rfl, M⟩
          case round =>
            obtain ⟨k, rfl, M⟩ := hrel
            have hkn : k ≤ n := by have := M.out.le; rw [HN.out] at this; exact this
            by_cases hlt : k < n
            · have hkl : k < R.length := by rw [HN.out]; exact hlt
              obtain ⟨b, oo, rfl, hr⟩ := sl_at M.out.sw (by omega)
              obtain ⟨x0, x1, x2, x3, x4, x5, x6, x7⟩ := hr.cells hkl
              have hmem : R.getD k Sp.zero ∈ R := by simp [List.getD, hkl]
              have ccx := CC.out _ hmem
              have hox := (HIN.out _ hmem).1
              have MO := Lib.hid (fun (wq w' : World) (v' : Value) (x : Sp) (hx : R.getD k Sp.zero = x) (h : L2 w6 ov cv (.slice (some ⟨b, oo, none⟩) n wc) R k u17 wq) => h.more (v' := v') (w' := w') hkl hx M0.out)
              have hb1 := hr.1
              clear hr hkl hmem
              obtain ⟨x, hx⟩ : ∃ x, R.getD k Sp.zero = x := ⟨_, rfl⟩
              rw [hx] at x0 x1 x2 x3 x4 x5 x6 x7 ccx hox
              have HX := Lib.hid hx
              have HOX := Lib.hid hox
              unfold spVal at ccx
              have CCX := Lib.hid ccx
              clear hx hox ccx
              go_wp2_with fail
              refine (CCX.out _).mono ?_
              rintro e w7 ⟨b7, hh⟩
              rcases hh with ⟨ho, -⟩ | ⟨-, g, -, rfl, tw⟩
              · rw [HOX.out] at ho; cases ho
              have M1 := Lib.hid (M.out.later b7)
              have TW := Lib.hid tw
              have own := M1.out.own
              have hbs := M1.out.bel.size
              clear b7 tw x0 x1 x2 x3 x4 x5 x6 x7
              go_wp2_with (at_builtin; refine wpList_append_lies _ rfl _ _ 29 rfl w6.heap.size 25 j0 (.agg #[.string ⟨#[]⟩, .int .i64 0, .string ⟨#[]⟩]) 3 40 Try.underlying29 gi gz0 gz1 gz2 rfl (by decide) _ (2 * k) (rowOf (cellsOf (R.take k))) rfl own ⟨g, 0, none⟩ 2 2 (rowOf [cellA x, cellI x]) rfl rfl (cells_news TW.out) (rowOf_one _) (by decide) (by unfold maxLen; omega) (by omega) hbs _ rfl ?_)
              intro g2 gc2 w8 ownb grb altb ltb
              have MM := Lib.hid (MO.out _ _ _ _ HX.out M1.out ownb grb)
              clear ownb grb altb ltb own
              go_wp2_with fail
              go_roundw
              case rel => exact ⟨k + 1, by go_num, MM⟩
              case measure => simp [intOf]; omega
            · obtain rfl : k = n := by omega
              have hown := M.out.own
              rw [List.take_of_length_le (by rw [HN.out]; exact Nat.le_refl _)] at hown
              have SAL := Lib.hid (slAt_own (l := cellsOf R) (by rw [cellsOf_length, HN.out]; exact hown))
              have SA := Lib.hid M.out.sa
              have SC := Lib.hid M.out.sc
              have SW := Lib.hid M.out.sw
              have B := Lib.hid (btP B.out M.out.bel)
              clear hown M M0
              go_wp2_with fail
              refine (CL.out _ _ SC.out).mono ?_
              rintro e w9 ⟨b9, vl, rfl, own9⟩
              have SV := Lib.hid (slS_own own9)
              have SAL := Lib.hid (SAL.out.later b9)
              have SA := Lib.hid (SA.out.later b9)
              have SC := Lib.hid (SC.out.later b9)
              have SW := Lib.hid (SW.out.later b9)
              have B := Lib.hid (btP B.out b9)
              clear own9 b9
              go_wp2_with fail
              refine (CS.out _ _ _ SA.out SW.out).mono ?_
              rintro e wA1 ⟨rfl, bA⟩
              have SV := Lib.hid (SV.out.later bA)
              have SAL := Lib.hid (SAL.out.later bA)
              have SC := Lib.hid (SC.out.later bA)
              have SW := Lib.hid (SW.out.later bA)
              have B := Lib.hid (btP B.out bA)
              clear bA
              go_wp2_with fail
              refine (CQ.out _ _ _ SC.out SAL.out).mono ?_
              rintro e wB ⟨rfl, bB⟩
              have SV := Lib.hid (SV.out.later bB)
              have SW := Lib.hid (SW.out.later bB)
              have B := Lib.hid (btP B.out bB)
              clear bB
              go_wp2_with fail
              refine (CS.out _ _ _ SV.out SW.out).mono ?_
              rintro e wC ⟨rfl, bC⟩
              have B := Lib.hid (btP B.out bC)
              clear bC
              go_wp2_with fail
              refine (CDO.out _).mono ?_
              rintro e wD ⟨rfl, bD⟩
              go_wp2_with fail
              go_ret
              exact ⟨rfl, btP B.out bD⟩
end Go.Proofs.Ytfkjdjdgcegniaa
