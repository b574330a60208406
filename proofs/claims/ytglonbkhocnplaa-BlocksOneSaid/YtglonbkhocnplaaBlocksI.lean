/- The walks of Decode and Find. -/
import Derived.Test.YtglonbkhocnplaaBlocksH
namespace Go.Proofs.Ytglonbkhocnplaa
open Go.RowKit Spoor

def DecEx (s : List UInt8) (w : World) (e : Ending) (w' : World) : Prop :=
  Below w.heap.size w w' ∧ ((decB s = none ∧ e = .returned (.tuple #[.slice none 0 0, .int .i64 30])) ∨
    ∃ l v, decB s = some l ∧ e = .returned (.tuple #[v, .int .i64 0]) ∧ w'.ownsRow w.heap.size 28 3 v l.length (rowOf l))
theorem decodeB_any (s : List UInt8) (w : World) (hs : s.length ≤ 1000000000) : Calls Try.prog 10 #[.string ⟨s.toArray⟩] w (DecEx s w) := by
  have hv : VarAt w.heap.size (.slice none 0 0) (w.alloc (.cells #[.slice none 0 0] 22)) := heap_alloc_new w _
  have b0 := (Below.refl w.heap.size w).alloc (Nat.le_refl _) (.cells #[.slice none 0 0] 22)
  have ce := each_any s w.heap.size (w.alloc (.cells #[.slice none 0 0] 22)) hs hv
  have hmf : ∀ (fn : Fn) (first cap : Array Value) (w : World), (Instr.makeFunc fn first cap).run Try.prog w = .ok (.func fn first cap) w := fun _ _ _ _ => rfl
  obtain ⟨D, hD⟩ : ∃ D, decB s = D := ⟨_, rfl⟩
  have HD := Lib.hid hD
  rw [hD] at ce
  have CE := Lib.hid ce
  clear ce hD
  cases D with
  | none =>
    simp only [Option.isSome_none] at CE
    go_enter Try.func10, Try.ntmps10
    go_wp2_with fail
    refine CE.out.mono ?_
    rintro e w1 ⟨rfl, hb, hx⟩
    clear hv
    go_wp2_with fail
    go_ret2
    exact ⟨b0.trans hb, .inl ⟨HD.out, rfl⟩⟩
  | some l =>
    simp only [Option.isSome_some] at CE
    go_enter Try.func10, Try.ntmps10
    go_wp2_with fail
    refine CE.out.mono ?_
    rintro e w1 ⟨rfl, hb, hx⟩
    clear hv
    obtain ⟨v, hv, own⟩ := hx l HD.out
    have HB := b0.trans hb
    have z0 := cell_of_one hv
    clear hx hb b0
    go_wp2_with fail
    go_ret2
    exact ⟨HB, .inr ⟨l, v, HD.out, rfl, own.mono (by omega)⟩⟩
/-- which cell has a key -/
def hasKey (key : List UInt8) (c : Ce) : Bool := c.k == key
theorem has_any (c : Ce) (key : List UInt8) (g : Nat) (w : World) (h : w.cell? ⟨g, 0, none⟩ = some (.string ⟨key.toArray⟩)) (hg : g < w.heap.size) :
    Calls Try.prog 31 #[ceVal c, .pointer (some ⟨g, 0, none⟩)] w fun e w' => e = .returned (.bool (hasKey key c)) ∧ Below w.heap.size w w' := by
  unfold ceVal hasKey
  go_enter Try.func31, Try.ntmps31
  go_wp2_with fail
  go_ret
  exact ⟨rfl, (Below.refl _ _).alloc (Nat.le_refl _) _⟩
/-- the place of the first cell with a key, from a place on -/
def idxKey (key : List UInt8) (l : List Ce) : Option Nat := l.findIdx? (hasKey key)
def idxV : Option Nat → Int
  | none => -1
  | some i => i
theorem findIdx_take (key : List UInt8) (l : List Ce) (k : Nat) (h : ∀ i, i < k → hasKey key (l.getD i Ce.zero) = false) (hk : k < l.length) (hy : hasKey key (l.getD k Ce.zero) = true) : idxKey key l = some k := by
  unfold idxKey
  rw [List.findIdx?_eq_some_iff_getElem]
  refine ⟨hk, by simpa [List.getD, hk] using hy, fun j hj => ?_⟩
  have := h j hj
  simp [List.getD, show j < l.length by omega] at this
  simp [this]
theorem findIdx_none (key : List UInt8) (l : List Ce) (h : ∀ i, i < l.length → hasKey key (l.getD i Ce.zero) = false) : idxKey key l = none := by
  unfold idxKey
  rw [List.findIdx?_eq_none_iff]
  intro x hx
  obtain ⟨i, hi, rfl⟩ := List.mem_iff_getElem.1 hx
  have := h i hi
  simpa [List.getD, hi] using this
theorem indexFunc_any (v : Value) (l : List Ce) (key : List UInt8) (g : Nat) (w : World) (hs : SlAt v l w) (h : w.cell? ⟨g, 0, none⟩ = some (.string ⟨key.toArray⟩)) (hg : g < w.heap.size) :
    Calls Try.prog 30 #[v, .func (.func 31) #[] #[.pointer (some ⟨g, 0, none⟩)]] w fun e w' => e = .returned (.int .i64 (idxV (idxKey key l))) ∧ Below w.heap.size w w' := by
  obtain ⟨A, cap, rfl, h1, h2, h3⟩ := hs
  unfold maxLen at h2
  have H3 := Lib.hid h3
  have HG := Lib.hid h
  obtain ⟨n, hn⟩ : ∃ n, l.length = n := ⟨_, rfl⟩
  have HN := Lib.hid hn
  rw [hn] at h1 ⊢
  clear h3 hn h
  go_enter Try.func30, Try.ntmps30
  go_wp2_with fail
  go_loopw [8] (fun i wr => ∃ k : Nat, k ≤ n ∧ i = .int .i64 k ∧ (∀ i, i < k → hasKey key (l.getD i Ce.zero) = false) ∧ Below w.heap.size w wr) (fun i _ => n - (intOf i).toNat)
  case atStart => exact ⟨0, by omega, rfl, fun i hi => by omega, Below.refl _ _⟩
  case round =>
    obtain ⟨k, hk, rfl, hno, hb⟩ := hrel
    have HO := Lib.hid hno
    clear hno
    by_cases hlt : k < n
    · have hkl : k < l.length := by rw [HN.out]; exact hlt
      obtain ⟨b, o, rfl, hrow⟩ := H3.out (by rw [HN.out]; omega)
      have hlb := hrow.1
      have hrow := hrow.later hb hlb
      obtain ⟨x0, x1, x2⟩ := hrow.cells hkl
      have hc := fun (c : Ce) (w' : World) (e : w'.cell? ⟨g, 0, none⟩ = some (.string ⟨key.toArray⟩)) (e2 : g < w'.heap.size) => has_any c key g w' e e2
      have hg1 : wr.cell? ⟨g, 0, none⟩ = some (.string ⟨key.toArray⟩) := (hb.cell (p := ⟨g, 0, none⟩) hg).trans HG.out
      have cc := hc (l.getD k Ce.zero) wr hg1 (Nat.lt_of_lt_of_le hg hb.size)
      clear hg1 hc hkl
      obtain ⟨y, hy⟩ : ∃ y, hasKey key (l.getD k Ce.zero) = y := ⟨_, rfl⟩
      rw [hy] at cc
      have HY := Lib.hid hy
      clear hy
      have HC0 := Lib.hid (rfl : l.getD k Ce.zero = l.getD k Ce.zero)
      generalize hce : l.getD k Ce.zero = c at *
      have HCE := Lib.hid hce
      clear hce HC0
      unfold ceVal at cc
      have CC := Lib.hid cc
      clear cc
      cases y with
      | true =>
        go_wp2_with fail
        refine CC.out.mono ?_
        rintro e w1 ⟨rfl, b1⟩
        go_wp2_with fail
        go_ret
        exact ⟨ret1 (by rw [findIdx_take key l k HO.out (by rw [HN.out]; exact hlt) (by rw [HCE.out]; exact HY.out)]; rfl), btB hb b1⟩
      | false =>
        go_wp2_with fail
        refine CC.out.mono ?_
        rintro e w1 ⟨rfl, b1⟩
        go_wp2_with fail
        go_roundw
        case rel => 
          refine ⟨k + 1, by omega, by go_num, fun i hi => ?_, btB hb b1⟩
          by_cases h : i < k
          · exact HO.out i h
          · obtain rfl : i = k := by omega
            rw [HCE.out]
            exact HY.out
        case measure => simp [intOf]; omega
    · obtain rfl : k = n := by omega
      go_wp2_with fail
      go_ret
      exact ⟨ret1 (by rw [findIdx_none key l (by rw [HN.out]; exact HO.out)]; rfl), hb⟩
/-- what Find tells -/
def findV (key : List UInt8) (D : Option (List Ce)) : Value :=
  match D.bind fun l => l.find? (hasKey key) with
  | none => .tuple #[ceVal Ce.zero, .bool false]
  | some c => .tuple #[ceVal c, .bool true]
theorem find_idx (key : List UInt8) (l : List Ce) (k : Nat) (h : idxKey key l = some k) : k < l.length ∧ l.find? (hasKey key) = some (l.getD k Ce.zero) := by
  unfold idxKey at h
  rw [List.findIdx?_eq_some_iff_getElem] at h
  obtain ⟨hk, h1, h2⟩ := h
  refine ⟨hk, ?_⟩
  rw [List.find?_eq_some_iff_getElem]
  refine ⟨by simpa [List.getD, hk] using h1, k, hk, by simp [List.getD, hk], fun j hj => by simpa using h2 j hj⟩
theorem find_idx_none (key : List UInt8) (l : List Ce) (h : idxKey key l = none) : l.find? (hasKey key) = none := by
  unfold idxKey at h
  rw [List.findIdx?_eq_none_iff] at h
  rw [List.find?_eq_none]
  intro x hx
  have := h x hx
  simp [this]
set_option maxHeartbeats 4000000 in
theorem findB_any (s key : List UInt8) (w : World) (hs : s.length ≤ 1000000000) :
    Calls Try.prog 14 #[.string ⟨s.toArray⟩, .string ⟨key.toArray⟩] w fun e w' => e = .returned (findV key (decB s)) ∧ Below w.heap.size w w' := by
  have cd := fun W => decodeB_any s W hs
  have CD := Lib.hid cd
  have hmf : ∀ (fn : Fn) (first cap : Array Value) (w : World), (Instr.makeFunc fn first cap).run Try.prog w = .ok (.func fn first cap) w := fun _ _ _ _ => rfl
  have b0 := ((Below.refl w.heap.size w).alloc (Nat.le_refl _) (.cells #[.string ⟨key.toArray⟩] 9)).alloc (by simp) (boxC Ce.zero)
  have q0 := CeAt.boxed Ce.zero (w.alloc (.cells #[.string ⟨key.toArray⟩] 9))
  have z0 : ((w.alloc (.cells #[.string ⟨key.toArray⟩] 9)).alloc (boxC Ce.zero)).cell? ⟨w.heap.size, 0, none⟩ = some (.string ⟨key.toArray⟩) := by go_simp
  have hsz : ((w.alloc (.cells #[.string ⟨key.toArray⟩] 9)).alloc (boxC Ce.zero)).heap.size = w.heap.size + 2 := by simp
  have HS := Lib.hid hsz
  rw [show (w.alloc (.cells #[.string ⟨key.toArray⟩] 9)).heap.size = w.heap.size + 1 by simp] at q0
  obtain ⟨D, hD⟩ : ∃ D, decB s = D := ⟨_, rfl⟩
  have HD := Lib.hid hD
  rw [hD]
  clear cd hD hsz
  unfold boxC Ce.zero at *
  try dsimp only at b0 q0 z0 HS
  go_enter Try.func14, Try.ntmps14
  go_wp2_with fail
  generalize (w.alloc _).alloc _ = w1 at *
  refine (CD.out _).mono ?_
  rintro e w2 ⟨hb, h⟩
  have q1 := q0.later hb q0.lt
  have z1 := (hb.cell (p := ⟨w.heap.size, 0, none⟩) (by have := HS.out; simp; omega)).trans z0
  have HZ := Lib.hid z1
  have B := btB b0 (hb.mono (Nat.le_refl _))
  rcases h with ⟨hn, rfl⟩ | ⟨l, v, hl, rfl, own⟩
  · obtain rfl : D = none := HD.out.symm.trans hn
    have ci := indexFunc_any (.slice none 0 0) [] key w.heap.size w2 ⟨none, 0, rfl, by simp, by unfold maxLen; omega, fun h => by simp at h⟩ z1 (Nat.lt_of_lt_of_le (by have := HS.out; omega) hb.size)
    rw [show idxV (idxKey key []) = -1 from rfl] at ci
    have CI := Lib.hid ci
    have HB0 := Lib.hid B
    clear ci z0 z1 hb b0 q0 B hn
    go_wp2_with fail
    refine CI.out.mono ?_
    rintro e w3 ⟨rfl, b3⟩
    have q2 := q1.later b3 q1.lt
    have HB := Lib.hid (btB HB0.out b3)
    clear b3
    obtain ⟨y0, y1, y2⟩ := q2.cell
    obtain ⟨f0, f1, f2⟩ := q2.frees
    try dsimp only at y0 y1 y2
    go_wp2_with fail
    obtain ⟨q3, b3⟩ := q2.all HB.out (by omega) Ce.zero
    unfold Ce.zero at q3 b3
    generalize ((World.setCell _ _ _).setCell _ _).setCell _ _ = w9 at *
    clear y0 y1 y2 f0 f1 f2
    obtain ⟨y0, y1, y2⟩ := q3.cell
    refine bodyPost_ret (v := .tuple #[.agg #[.string ⟨#[]⟩, .int .i64 0, .string ⟨#[]⟩], .bool false]) (by simp [results, Try.results14, go_sem, *]) rfl ⟨?_, b3⟩
    rfl
  · obtain rfl : D = some l := HD.out.symm.trans hl
    obtain ⟨A, cap, rfl, h1, h2, h3⟩ := slAt_own own
    unfold maxLen at h2
    have ci := indexFunc_any (.slice A l.length cap) l key w.heap.size w2 ⟨A, cap, rfl, h1, by unfold maxLen; omega, h3⟩ z1 (Nat.lt_of_lt_of_le (by have := HS.out; omega) hb.size)
    have HB0 := Lib.hid B
    have H3 := Lib.hid h3
    obtain ⟨r, hr⟩ : ∃ r, idxKey key l = r := ⟨_, rfl⟩
    rw [hr] at ci
    have HR := Lib.hid hr
    have CI := Lib.hid ci
    clear ci z0 z1 hb b0 q0 B hr hl own h3
    cases r with
    | none =>
      have hfv : findV key (some l) = .tuple #[ceVal Ce.zero, .bool false] := by
        unfold findV
        simp only [Option.bind_some, find_idx_none key l HR.out]
      have HFV := Lib.hid hfv
      clear hfv
      simp only [idxV] at CI
      go_wp2_with fail
      refine CI.out.mono ?_
      rintro e w3 ⟨rfl, b3⟩
      have q2 := q1.later b3 q1.lt
      have HB := Lib.hid (btB HB0.out b3)
      clear b3
      obtain ⟨y0, y1, y2⟩ := q2.cell
      obtain ⟨f0, f1, f2⟩ := q2.frees
      try dsimp only at y0 y1 y2
      go_wp2_with fail
      obtain ⟨q3, b3⟩ := q2.all HB.out (by omega) Ce.zero
      unfold Ce.zero at q3 b3
      generalize ((World.setCell _ _ _).setCell _ _).setCell _ _ = w9 at *
      clear y0 y1 y2 f0 f1 f2
      obtain ⟨y0, y1, y2⟩ := q3.cell
      refine bodyPost_ret (v := .tuple #[.agg #[.string ⟨#[]⟩, .int .i64 0, .string ⟨#[]⟩], .bool false]) (by simp [results, Try.results14, go_sem, *]) rfl ⟨?_, b3⟩
      rw [HFV.out]
      rfl
    | some k =>
      obtain ⟨hk, hfd⟩ := find_idx key l k HR.out
      have hfv : findV key (some l) = .tuple #[ceVal (l.getD k Ce.zero), .bool true] := by
        unfold findV
        simp only [Option.bind_some, hfd]
      generalize hce : l.getD k Ce.zero = c at hfv
      have HCE := Lib.hid hce
      have HFV := Lib.hid hfv
      clear hfv hfd hce
      obtain ⟨b, o, rfl, hrow⟩ := H3.out (by omega)
      simp only [idxV] at CI
      go_wp2_with fail
      refine CI.out.mono ?_
      rintro e w3 ⟨rfl, b3⟩
      have q2 := q1.later b3 q1.lt
      have HB := Lib.hid (btB HB0.out b3)
      have hrow := hrow.later b3 hrow.1
      clear b3
      have hcs := hrow.cells hk
      rw [HCE.out] at hcs
      obtain ⟨x0, x1, x2⟩ := hcs
      obtain ⟨y0, y1, y2⟩ := q2.cell
      obtain ⟨f0, f1, f2⟩ := q2.frees
      try dsimp only at y0 y1 y2
      go_wp2_with fail
      obtain ⟨q3, b3⟩ := q2.all HB.out (by omega) c
      generalize ((World.setCell _ _ _).setCell _ _).setCell _ _ = w9 at *
      clear y0 y1 y2 f0 f1 f2
      obtain ⟨y0, y1, y2⟩ := q3.cell
      refine bodyPost_ret (v := .tuple #[.agg #[.string ⟨c.k.toArray⟩, .int .i64 c.q, .string ⟨c.v.toArray⟩], .bool true]) (by simp [results, Try.results14, go_sem, *]) rfl ⟨?_, b3⟩
      rw [HFV.out]
      rfl
end Go.Proofs.Ytglonbkhocnplaa
