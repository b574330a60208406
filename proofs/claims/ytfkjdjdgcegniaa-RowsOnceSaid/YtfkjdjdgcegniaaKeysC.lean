/- The walks of keys.Parse and what it calls. -/
import Derived.Test.YtfkjdjdgcegniaaKeysB
namespace Go.Proofs.Ytfkjdjdgcegniaa
set_option maxRecDepth 16000
open Go.RowKit Spoor

theorem turn_back {f : FuncId} {args : Array Value} {w : World} {v : Value} (h : Calls Try.prog f args w fun e w' => e = .returned v ∧ w' = w) : Calls Try.prog f args w fun e w' => e = .returned v ∧ w = w' :=
  h.mono fun _ _ ⟨a, b⟩ => ⟨a, b.symm⟩
theorem idx_zero : ∀ l : List UInt8, Lib.indexByte l 0 = if nz l = true then -1 else ((l.takeWhile (· != 0)).length : Int)
  | [] => rfl
  | c :: l => by
    have ih := idx_zero l
    by_cases hc : c = 0
    · subst hc; simp [Lib.indexByte, nz]
    · have h1 : (c == 0) = false := by simpa using hc
      have h2 : (c != 0) = true := by simpa using hc
      rw [Lib.indexByte, ih]
      simp only [h1, Bool.false_eq_true, if_false, nz, List.all_cons, h2, Bool.true_and, List.takeWhile_cons, if_true, List.length_cons]
      by_cases hn : (l.all fun c => c != 0) = true
      · simp [hn]
      · simp only [hn, Bool.false_eq_true, if_false]
        have : ¬ (((l.takeWhile (· != 0)).length : Int) == -1) = true := by simp
        rw [if_neg this]
        omega
def cutV (l : List UInt8) : Value := .tuple #[.string ⟨(cut0 l).1.toArray⟩, .string ⟨(cut0 l).2.1.toArray⟩, .bool (cut0 l).2.2]
theorem slice_rest (l : List UInt8) (i : Nat) (I : Int) (hI : I = i) (h1 : i ≤ l.length) (W : World) :
    (Instr.slice 9 (.string ⟨l.toArray⟩) (some (.int .i64 I)) none none).run Try.prog W = .ok (.string ⟨(l.drop i).toArray⟩) W := by
  subst hI
  go_simp
  rw [extract_bytes]
  simp [List.take_of_length_le]
theorem slice_head (l : List UInt8) (j : Nat) (J : Int) (hJ : J = j) (h2 : j ≤ l.length) (W : World) :
    (Instr.slice 9 (.string ⟨l.toArray⟩) none (some (.int .i64 J)) none).run Try.prog W = .ok (.string ⟨(l.take j).toArray⟩) W := by
  subst hJ
  go_simp
  rw [extract_bytes]
  simp
theorem cut0_len {l : List UInt8} (h : nz l = false) : (cut0 l).1.length + 1 + (cut0 l).2.1.length = l.length ∧ (cut0 l).1 = l.take (cut0 l).1.length ∧ (cut0 l).2.1 = l.drop ((cut0 l).1.length + 1) := by
  have e := cut0_true (l := l) (by simp [cut0, h])
  generalize (cut0 l).1 = u at *
  generalize (cut0 l).2.1 = r at *
  subst e
  refine ⟨by simp; omega, by simp, ?_⟩
  rw [List.drop_append]
  simp
theorem slCut_any (l : List UInt8) (hl : l.length ≤ 140737488351232) (w : World) :
    Calls Try.prog 76 #[.string ⟨l.toArray⟩, .string ⟨#[0]⟩] w fun e w' => e = .returned (cutV l) ∧ Below w.heap.size w w' := by
  have c1 := fun W => turn_back (Try.stringslite_Index_one ⟨l.toArray⟩ 0 W)
  rw [show (⟨l.toArray⟩ : ByteArray).data.toList = l from rfl, idx_zero l] at c1
  cases hn : nz l with
  | true =>
    have e : cut0 l = (l, [], false) := cut0_false (by simp [cut0, hn])
    unfold cutV
    rw [e]
    rw [hn] at c1
    have C1 := Lib.hid c1
    clear c1 hn e
    go_enter Try.func76, Try.ntmps76
    go_wp2_with fail
    refine (C1.out _).mono ?_
    rintro e w1 ⟨rfl, rfl⟩
    go_wp2_with fail
    go_ret3
    exact ⟨rfl, Below.refl _ _⟩
  | false =>
    obtain ⟨h1, h2, h3⟩ := cut0_len hn
    have e : (cut0 l).2.2 = true := by simp [cut0, hn]
    unfold cutV
    rw [e]
    rw [hn] at c1
    have e1 : (l.takeWhile (· != 0)) = (cut0 l).1 := rfl
    rw [e1] at c1
    generalize (cut0 l).1 = u at *
    generalize (cut0 l).2.1 = r at *
    obtain ⟨i, hi⟩ : ∃ i, u.length = i := ⟨_, rfl⟩
    rw [hi] at h1 h2 h3 c1
    have hs1 := slice_head l i (i : Int) rfl (by omega)
    have hs2 := slice_rest l (i + 1) ((i : Int) + 1) (by omega) (by omega)
    rw [← h2] at hs1
    rw [← h3] at hs2
    have C1 := Lib.hid c1
    clear c1 hn e e1 h2 h3 hi
    go_enter Try.func76, Try.ntmps76
    go_wp2_with fail
    refine (C1.out _).mono ?_
    rintro e w1 ⟨rfl, rfl⟩
    have hwr : IntKind.i64.wrap ((i : Int) + 1) = (i : Int) + 1 := IntWalk.i64_in _ (by omega)
    go_wp2_with fail
    go_quiet (fail)
    go_wp2_with fail
    go_ret3
    exact ⟨rfl, _root_.Go.below_drewN (Below.refl _ _) _⟩
theorem cut_any (l : List UInt8) (hl : l.length ≤ 140737488351232) (w : World) :
    Calls Try.prog 59 #[.string ⟨l.toArray⟩, .string ⟨#[0]⟩] w fun e w' => e = .returned (cutV l) ∧ Below w.heap.size w w' := by
  have c1 := fun W => slCut_any l hl W
  have C1 := Lib.hid c1
  unfold cutV at *
  clear c1
  go_enter Try.func59, Try.ntmps59
  go_wp2_with fail
  refine (C1.out _).mono ?_
  rintro e w1 ⟨rfl, b1⟩
  go_wp2_with fail
  go_ret3
  exact ⟨rfl, b1⟩

/-! numbers -/
def KP.setN (p : KP) (f : Nat) (n : Int) : KP := match f with
  | 1 => ⟨p.kind, n, p.id, p.st, p.sv, p.ho⟩
  | 2 => ⟨p.kind, p.tr, n, p.st, p.sv, p.ho⟩
  | _ => ⟨p.kind, p.tr, p.id, n, p.sv, p.ho⟩
/-- the numbers of a text are laid into parts, as long as there are some -/
def numRun : KP → List Nat → List UInt8 → KP × Bool
  | p, [], _ => (p, true)
  | p, f :: fs, l => match ofBig l with
    | none => (p, false)
    | some n => numRun (KP.setN p f n) fs (l.drop 8)
theorem PtAt.setN {b : Nat} {p : KP} {w : World} (h : PtAt b p w) (f : Nat) (h1 : 1 ≤ f) (h3 : f ≤ 3) (n : Int) : PtAt b (KP.setN p f n) (w.setCell ⟨b, f, none⟩ (.int .i64 n)) := by
  unfold PtAt at h ⊢
  rw [heap_setCell_same w b _ _ _ _ h]
  match f, h1, h3 with
  | 1, _, _ => rfl
  | 2, _, _ => rfl
  | 3, _, _ => rfl
theorem PtAt.free {b : Nat} {p : KP} {w : World} (h : PtAt b p w) (j : Nat) : w.frozen? ⟨b, j, none⟩ = false := frozen_of_row w b j _ _ h
theorem PtAt.frees {b : Nat} {p : KP} {w : World} (h : PtAt b p w) : w.frozen? ⟨b, 0, none⟩ = false ∧ w.frozen? ⟨b, 1, none⟩ = false ∧ w.frozen? ⟨b, 2, none⟩ = false ∧ w.frozen? ⟨b, 3, none⟩ = false ∧ w.frozen? ⟨b, 4, none⟩ = false ∧ w.frozen? ⟨b, 5, none⟩ = false :=
  ⟨h.free 0, h.free 1, h.free 2, h.free 3, h.free 4, h.free 5⟩
theorem PtAt.num {b : Nat} {p : KP} {w : World} (h : PtAt b p w) (f : Nat) (h1 : 1 ≤ f) (h3 : f ≤ 3) : ∃ v, w.cell? ⟨b, f, none⟩ = some (.int .i64 v) := by
  obtain ⟨_, a1, a2, a3, _, _⟩ := h.cell
  match f, h1, h3 with
  | 1, _, _ => exact ⟨_, a1⟩
  | 2, _, _ => exact ⟨_, a2⟩
  | 3, _, _ => exact ⟨_, a3⟩
def NumPost (b : Nat) (r : KP × Bool) (w : World) (e : Ending) (w' : World) : Prop := e = .returned (.bool r.2) ∧ PtAt b r.1 w' ∧ Below b w w'
theorem drop_run {fs : List Nat} {k : Nat} (h : k < fs.length) : fs.drop k = fs.getD k 0 :: fs.drop (k + 1) := by
  rw [List.drop_eq_getElem_cons h]; simp [List.getD, h]
theorem numbers_short (s : ByteArray) (b g n : Nat) (p : KP) (w : World) (hs : s.size ≤ maxLen) (hn3 : n ≤ 3) (hsz : s.size ≠ 8 * n) (hq : PtAt b p w) :
    Calls Try.prog 58 #[.string s, .slice (some ⟨g, 0, none⟩) n n] w (NumPost b (p, false) w) := by
  unfold maxLen at hs
  have h1 : ¬ (s.size : Int) = 8 * (n : Int) := by omega
  clear hsz
  go_enter Try.func58, Try.ntmps58
  go_wp2_with fail
  go_ret
  exact ⟨rfl, hq, Below.refl _ _⟩
theorem numbers_full (s : ByteArray) (b g n : Nat) (fs : List Nat) (p : KP) (w : World) (hs : s.size ≤ maxLen) (hl : fs.length = n) (hn3 : n ≤ 3) (hsz : s.size = 8 * n) (hq : PtAt b p w)
    (hgb : g ≠ b) (hfs : ∀ i, i < n → 1 ≤ fs.getD i 0 ∧ fs.getD i 0 ≤ 3) (hc : ∀ i, i < n → w.cell? ⟨g, i, none⟩ = some (.pointer (some ⟨b, fs.getD i 0, none⟩))) :
    Calls Try.prog 58 #[.string s, .slice (some ⟨g, 0, none⟩) n n] w (NumPost b (numRun p fs s.data.toList) w) := by
  have HS := Lib.hid hs
  unfold maxLen at hs
  have h1 : (s.size : Int) = 8 * (n : Int) := by omega
  have HL := Lib.hid hl
  have HF := Lib.hid hfs
  have HC := Lib.hid hc
  have HQ := Lib.hid hq
  obtain ⟨R, hR⟩ : ∃ R, NumPost b (numRun p fs s.data.toList) w = R := ⟨_, rfl⟩
  rw [hR]
  have HR := Lib.hid hR
  clear hsz hl hfs hc hR hq
  go_enter Try.func58, Try.ntmps58
  go_wp2_with fail
  go_loopw [17] (fun i wr => ∃ (k : Nat) (q : KP), k ≤ n ∧ i = .int .i64 k ∧ Hid (PtAt b q wr) ∧ Hid (numRun p fs s.data.toList = numRun q (fs.drop k) (s.data.toList.drop (8 * k))) ∧ Hid (Below b w wr) ∧ Hid (wr.heap[g]? = w.heap[g]?)) (fun i _ => n - (intOf i).toNat)
  case atStart => exact ⟨0, p, by omega, rfl, HQ.out, by show _ = _; simp, Below.refl _ _, rfl⟩
  case round =>
    obtain ⟨k, q, hk, rfl, hq, hrun, hb, hg⟩ := hrel
    by_cases hlt : k < n
    · have hck : wr.cell? ⟨g, k, none⟩ = some (.pointer (some ⟨b, fs.getD k 0, none⟩)) := by
        rw [← HC.out k hlt]
        unfold World.cell?
        rw [hg.out]
      obtain ⟨f1, f3⟩ := HF.out k hlt
      have hd := drop_run (fs := fs) (k := k) (by rw [HL.out]; exact hlt)
      have hst := hrun.out
      rw [hd, numRun] at hst
      have HSt := Lib.hid hst
      obtain ⟨v0, hv0⟩ := hq.out.num (fs.getD k 0) f1 f3
      have hfz := hq.out.free (fs.getD k 0)
      have c := fun W => ofBig_any s (8 * (k : Int)) W HS.out
      have e8 : (8 * (k : Int)).toNat = 8 * k := by omega
      unfold ofBigAt at c
      rw [if_neg (by omega), e8] at c
      clear hst hd e8
      generalize fs.getD k 0 = f at *
      cases hof : ofBig (s.data.toList.drop (8 * k)) with
      | none =>
        rw [hof] at c
        have hst := HSt.out
        rw [hof] at hst
        have HSt := Lib.hid hst
        unfold ofBigV at c
        have C := Lib.hid c
        clear c hof hst
        go_wp2_with fail
        refine (C.out _).mono ?_
        rintro e w1 ⟨rfl, rfl⟩
        go_wp2_with fail
        rw [← HR.out, HSt.out]
        exact ⟨rfl, hq.out, hb.out⟩
      | some m =>
        rw [hof] at c
        have hst := HSt.out
        rw [hof] at hst
        simp only [List.drop_drop] at hst
        have HSt := Lib.hid hst
        unfold ofBigV at c
        have C := Lib.hid c
        have q1 := Lib.hid (hq.out.setN f f1 f3 (m : Int))
        have hb1 := Lib.hid (hb.out.setCell (p := ⟨b, f, none⟩) (Nat.le_refl _) (.int .i64 (m : Int)))
        have hg1 : Hid ((wr.setCell ⟨b, f, none⟩ (.int .i64 (m : Int))).heap[g]? = w.heap[g]?) := by
          show _ = _
          rw [Below.heap_setCell wr ⟨b, f, none⟩ _ g hgb]
          exact hg.out
        clear c hof hst
        go_wp2_with fail
        refine (C.out _).mono ?_
        rintro e w1 ⟨rfl, rfl⟩
        go_wp2_with fail
        go_roundw
        case rel => exact ⟨k + 1, _, by omega, by go_num, q1.out, by show _ = _; rw [HSt.out, show 8 * k + 8 = 8 * (k + 1) by omega], hb1.out, hg1.out⟩
        case measure => simp [intOf]; omega
    · obtain rfl : k = n := by omega
      have hst := hrun.out
      rw [List.drop_of_length_le (l := fs) (by rw [HL.out]; exact Nat.le_refl _), numRun] at hst
      have HSt := Lib.hid hst
      clear hst
      go_wp2_with fail
      rw [← HR.out, HSt.out]
      exact ⟨rfl, hq.out, hb.out⟩
/-- what numbers tells -/
def numOf (p : KP) (fs : List Nat) (l : List UInt8) : KP × Bool := if l.length = 8 * fs.length then numRun p fs l else (p, false)
theorem knumbers_any (l : List UInt8) (b g n : Nat) (fs : List Nat) (p : KP) (w : World) (hs : l.length ≤ 140737488351232) (hl : fs.length = n) (hn3 : n ≤ 3) (hq : PtAt b p w)
    (hgb : g ≠ b) (hfs : ∀ i, i < n → 1 ≤ fs.getD i 0 ∧ fs.getD i 0 ≤ 3) (hc : ∀ i, i < n → w.cell? ⟨g, i, none⟩ = some (.pointer (some ⟨b, fs.getD i 0, none⟩))) :
    Calls Try.prog 58 #[.string ⟨l.toArray⟩, .slice (some ⟨g, 0, none⟩) n n] w (NumPost b (numOf p fs l) w) := by
  unfold numOf
  by_cases h : l.length = 8 * fs.length
  · rw [if_pos h]
    exact numbers_full ⟨l.toArray⟩ b g n fs p w (mk_max hs) hl hn3 (by simp only [ByteArray.size_mk', List.size_toArray]; omega) hq hgb hfs hc
  · rw [if_neg h]
    exact numbers_short ⟨l.toArray⟩ b g n p w (mk_max hs) hn3 (by simp only [ByteArray.size_mk', List.size_toArray]; omega) hq

theorem numRun_same : ∀ (fs : List Nat) (p : KP) (l : List UInt8), (numRun p fs l).1.kind = p.kind ∧ (numRun p fs l).1.sv = p.sv ∧ (numRun p fs l).1.ho = p.ho
  | [], p, l => ⟨rfl, rfl, rfl⟩
  | f :: fs, p, l => by
    rw [numRun]
    cases ofBig l with
    | none => exact ⟨rfl, rfl, rfl⟩
    | some n =>
      obtain ⟨h1, h2, h3⟩ := numRun_same fs (KP.setN p f n) (l.drop 8)
      simp only [h1, h2, h3]
      unfold KP.setN
      split <;> exact ⟨rfl, rfl, rfl⟩
theorem numOf_same (fs : List Nat) (p : KP) (l : List UInt8) : (numOf p fs l).1.kind = p.kind ∧ (numOf p fs l).1.sv = p.sv ∧ (numOf p fs l).1.ho = p.ho := by
  unfold numOf
  split
  · exact numRun_same fs p l
  · exact ⟨rfl, rfl, rfl⟩
theorem numOf2 (r : List UInt8) : match big2 r with
    | some (a, b) => numOf ⟨115, 0, 0, 0, [], []⟩ [1, 2] r = (⟨115, a, b, 0, [], []⟩, true)
    | none => (numOf ⟨115, 0, 0, 0, [], []⟩ [1, 2] r).2 = false := by
  unfold big2 numOf
  simp only [List.length_cons, List.length_nil]
  by_cases h : r.length = 16
  · rw [if_pos h, if_pos h]
    simp only [numRun]
    cases ofBig r with
    | none => rfl
    | some a => cases ofBig (r.drop 8) with
      | none => rfl
      | some b => rfl
  · rw [if_neg h, if_neg h]
theorem numOf3 (r sv ho : List UInt8) : match big3 r with
    | some (a, b, c) => numOf ⟨120, 0, 0, 0, sv, ho⟩ [3, 1, 2] r = (⟨120, b, c, a, sv, ho⟩, true)
    | none => (numOf ⟨120, 0, 0, 0, sv, ho⟩ [3, 1, 2] r).2 = false := by
  unfold big3 numOf
  simp only [List.length_cons, List.length_nil]
  by_cases h : r.length = 24
  · rw [if_pos h, if_pos h]
    simp only [numRun, List.drop_drop]
    cases ofBig r with
    | none => rfl
    | some a => cases ofBig (r.drop 8) with
      | none => rfl
      | some b => cases ofBig (r.drop 16) with
        | none => rfl
        | some c => rfl
  · rw [if_neg h, if_neg h]
/-- what Parse makes of what it has found -/
def resK (p : KP) (b : Bool) (l : List UInt8) : Option KP := if b = true ∧ p.key = some l then some p else none
theorem resK_no (p : KP) (l : List UInt8) : resK p false l = none := by unfold resK; simp
theorem parse_s (r : List UInt8) : parseK (115 :: r) = resK (numOf ⟨115, 0, 0, 0, [], []⟩ [1, 2] r).1 (numOf ⟨115, 0, 0, 0, [], []⟩ [1, 2] r).2 (115 :: r) := by
  have h := numOf2 r
  rw [parseK, if_pos rfl]
  cases hb : big2 r with
  | none =>
    rw [hb] at h
    simp only at h
    rw [h, resK_no]
  | some q =>
    obtain ⟨a, b⟩ := q
    rw [hb] at h
    simp only at h ⊢
    obtain ⟨g1, g2, g3⟩ := big2_some hb
    rw [h]
    unfold resK
    simp only [ofKey_key, true_and]
    unfold ofKey
    by_cases hok : (idOk (a : Int) && idOk (b : Int)) = true
    · rw [if_pos hok, if_pos hok, if_pos]
      rw [sKey, g3]; rfl
    · rw [if_neg hok, if_neg hok, if_neg (by simp)]
theorem parse_x (r : List UInt8) (his : (cut0 (cut0 r).2.1).2.2 = true) : parseK (120 :: r) =
    resK (numOf ⟨120, 0, 0, 0, (cut0 r).1, (cut0 (cut0 r).2.1).1⟩ [3, 1, 2] (cut0 (cut0 r).2.1).2.1).1 (numOf ⟨120, 0, 0, 0, (cut0 r).1, (cut0 (cut0 r).2.1).1⟩ [3, 1, 2] (cut0 (cut0 r).2.1).2.1).2 (120 :: r) := by
  have h := numOf3 (cut0 (cut0 r).2.1).2.1 (cut0 r).1 (cut0 (cut0 r).2.1).1
  rw [parseK, if_neg (by decide), if_pos rfl, if_pos his]
  cases hb : big3 (cut0 (cut0 r).2.1).2.1 with
  | none =>
    rw [hb] at h
    simp only at h
    rw [h, resK_no]
  | some q =>
    obtain ⟨a, b, c⟩ := q
    rw [hb] at h
    simp only at h ⊢
    rw [h]
    unfold resK
    simp only [true_and]
    by_cases hok : (⟨120, b, c, a, (cut0 r).1, (cut0 (cut0 r).2.1).1⟩ : KP).like.ok = true
    · have hp : parseK (120 :: r) = some ⟨120, b, c, a, (cut0 r).1, (cut0 (cut0 r).2.1).1⟩ := by
        rw [parseK, if_neg (by decide), if_pos rfl, if_pos his, hb]
        simp only
        rw [if_pos hok]
      rw [if_pos hok, if_pos (parseK_some hp).1]
    · rw [if_neg hok, if_neg]
      unfold KP.key
      rw [if_neg hok]
      simp
theorem parse_not (r : List UInt8) (his : (cut0 (cut0 r).2.1).2.2 = false) : parseK (120 :: r) = none := by
  rw [parseK, if_neg (by decide), if_pos rfl, if_neg (by simp [his])]
theorem key_any (p : KP) (w : World) (hf : FitsK p) : Calls Try.prog 48 #[kpVal p] w fun e w' => e = .returned (keyV p.key) ∧ Below w.heap.size w w' := by
  by_cases h : p.kind = 115
  · exact key_s p w h
  · exact key_x p w h hf
def parseV : Option KP → Value
  | none => .tuple #[kpVal KP.zero, .bool false]
  | some p => .tuple #[kpVal p, .bool true]
def preB (l : List UInt8) (c : UInt8) : Bool := Lib.hasPrefix l [c]
def preT (l : List UInt8) (c : UInt8) : List UInt8 := Lib.trimPrefix l [c]
theorem pre_yes (c : UInt8) (r : List UInt8) : preB (c :: r) c = true ∧ preT (c :: r) c = r := by
  have h : preB (c :: r) c = true := by simp [preB, Lib.hasPrefix, List.isPrefixOf]
  refine ⟨h, ?_⟩
  unfold preB at h
  unfold preT Lib.trimPrefix
  rw [if_pos h]
  rfl
theorem pre_no (c : UInt8) (l : List UInt8) (h : ¬ l.head? = some c) : preB l c = false := by
  unfold preB Lib.hasPrefix
  cases l with
  | nil => rfl
  | cons d r =>
    have : (c == d) = false := by
      rw [beq_eq_false_iff_ne]
      intro e
      exact h (by rw [e]; rfl)
    simp [List.isPrefixOf, this]
theorem cutPre (l : List UInt8) (c : UInt8) (w : World) :
    Calls Try.prog 57 #[.string ⟨l.toArray⟩, .string ⟨#[c]⟩] w fun e w' => e = .returned (.tuple #[.string ⟨(preT l c).toArray⟩, .bool (preB l c)]) ∧ w = w' :=
  turn_back (Try.strings_CutPrefix ⟨l.toArray⟩ ⟨#[c]⟩ w)
theorem PtAt.kind {b : Nat} {p : KP} {w : World} (h : PtAt b p w) (k : Nat) : PtAt b ⟨k, p.tr, p.id, p.st, p.sv, p.ho⟩ (w.setCell ⟨b, 0, none⟩ (.int .u8 k)) := by
  unfold PtAt at h ⊢
  rw [heap_setCell_same w b _ _ _ _ h]
  rfl
theorem PtAt.serv {b : Nat} {p : KP} {w : World} (h : PtAt b p w) (u : List UInt8) : PtAt b ⟨p.kind, p.tr, p.id, p.st, u, p.ho⟩ (w.setCell ⟨b, 4, none⟩ (.string ⟨u.toArray⟩)) := by
  unfold PtAt at h ⊢
  rw [heap_setCell_same w b _ _ _ _ h]
  rfl
theorem PtAt.host {b : Nat} {p : KP} {w : World} (h : PtAt b p w) (u : List UInt8) : PtAt b ⟨p.kind, p.tr, p.id, p.st, p.sv, u⟩ (w.setCell ⟨b, 5, none⟩ (.string ⟨u.toArray⟩)) := by
  unfold PtAt at h ⊢
  rw [heap_setCell_same w b _ _ _ _ h]
  rfl
end Go.Proofs.Ytfkjdjdgcegniaa
