/- The walk of BlocksAsk. -/
import Derived.Test.YtglonbkhocnplaaBlocksT
namespace Go.Proofs.Ytglonbkhocnplaa
open Go.RowKit Spoor

theorem sorted_all : ∀ {l : List Ce} {a : Ce}, sortedFrom (some a) l = true → ∀ d ∈ l, aheadC a d = true
  | [], _, _, d, hd => by cases hd
  | c :: l, a, h, d, hd => by
    simp only [sortedFrom, okAfter, Bool.and_eq_true] at h
    rcases List.mem_cons.1 hd with rfl | hd
    · exact h.1.2
    · exact ahead_trans h.1.2 (sorted_all h.2 d hd)
theorem find_sorted : ∀ {l : List Ce} {p : Option Ce}, sortedFrom p l = true → ∀ c ∈ l, ∃ d, l.find? (hasKey c.k) = some d ∧ d.k = c.k ∧ c.q ≤ d.q ∧ (d.q = c.q → d = c)
  | [], _, _, c, hc => by cases hc
  | a :: l, p, h, c, hc => by
    simp only [sortedFrom, Bool.and_eq_true] at h
    by_cases hk : a.k = c.k
    · refine ⟨a, by simp [hasKey, hk], hk, ?_⟩
      rcases List.mem_cons.1 hc with rfl | hc
      · exact ⟨Int.le_refl _, fun _ => rfl⟩
      · have := sorted_all h.2 c hc
        unfold aheadC at this
        rw [hk, bl_irrefl, beq_self_eq_true, Bool.false_or, Bool.true_and, decide_eq_true_iff] at this
        exact ⟨by omega, fun e => by omega⟩
    · rcases List.mem_cons.1 hc with rfl | hc
      · exact absurd rfl hk
      · obtain ⟨d, h1, h2⟩ := find_sorted h.2 c hc
        refine ⟨d, ?_, h2⟩
        rw [List.find?_cons]
        have : hasKey c.k a = false := by unfold hasKey; rw [beq_eq_false_iff_ne]; exact hk
        rw [this]
        exact h1
theorem findF_any (key : List UInt8) (l : List Ce) : findF key (some l) = l.any (hasKey key) := by
  unfold findF
  rw [Bool.eq_iff_iff]
  simp only [Option.getD_some, List.find?_isSome, List.any_eq_true]
theorem findC_none (key : List UInt8) (l : List Ce) (h : l.any (hasKey key) = false) : findC key (some l) = Ce.zero := by
  have : l.find? (hasKey key) = none := by
    rw [List.find?_eq_none]
    rw [List.any_eq_false] at h
    exact h
  unfold findC
  rw [Option.getD_some, this]
  rfl
theorem keys_take (key : List UInt8) (l : List Ce) (k : Nat) (h : k < l.length) : (l.take (k + 1)).any (hasKey key) = ((l.take k).any (hasKey key) || (l.getD k Ce.zero).k == key) := by
  rw [take_ce l k h, List.any_append]
  simp [hasKey]
theorem getD_mem {l : List Ce} {k : Nat} (h : k < l.length) : l.getD k Ce.zero ∈ l := by
  have : l.getD k Ce.zero = l[k] := by simp [List.getD, h]
  rw [this]
  exact List.getElem_mem h
set_option maxRecDepth 100000 in
set_option maxHeartbeats 16000000 in
theorem blocksAsk_yes (w : World) (v : Value) (l : List Ce) (key : List UInt8) (hs : SlAt v l w) (hw : ∀ c ∈ l, WfC c) (hk : ¬ (1000 : Int) < (key.length : Int)) (hg : greatL l 200 = false) (hso : sortedB l = true) :
    Calls Try.prog 5 #[v, .string ⟨key.toArray⟩] w fun e w' => e = .returned (.bool true) ∧ Below w.heap.size w w' := by
  have CDO := Lib.hid bdoes_true
  have cg := greatL_any v l 200 w hs hw (by omega)
  have hf := fits_great hg hw
  have hlen := len_great hg (by omega) hw
  obtain ⟨hl200, _⟩ := great_yes hg
  rw [hg] at cg
  have CG := Lib.hid cg
  have ce := fun W (h : SlAt v l W) => encode_c v l W h hf (fun h => by have := hlen h; omega)
  rw [encV_c, show encS l = blockB l by unfold encS; rw [hso]; rfl, show encE l = 0 by unfold encE; rw [hso]; rfl] at ce
  have hdl : decB (blockB l) = some l := decB_block hso (by omega) (fun c hc => (hw c hc).2.2)
  have cf := fun key W => findB_any (blockB l) key W (by have := hlen hso; omega)
  simp only [hdl, findV_c] at cf
  have HFS : Hid (∀ c ∈ l, ∃ d, l.find? (hasKey c.k) = some d ∧ d.k = c.k ∧ c.q ≤ d.q ∧ (d.q = c.q → d = c)) := Lib.hid (find_sorted hso)
  generalize blockB l = bl at *
  have CE := Lib.hid ce
  have CF := Lib.hid cf
  have HS0 := Lib.hid hs
  have e1 := decide_eq_false hk
  clear cg ce cf hdl hf hlen hso hg hs hw
  go_enter Try.func5, Try.ntmps5
  go_wp2_with fail
  refine CG.out.mono ?_
  rintro e w1 ⟨rfl, b1⟩
  have hs := HS0.out.later b1
  have B := b1
  clear b1
  go_wp2_with fail
  refine (CE.out _ hs).mono ?_
  rintro e w2 ⟨rfl, b2⟩
  have hs := hs.later b2
  have B := btB B b2
  clear b2
  obtain ⟨A, cap, rfl, h1, h2, h3⟩ := slAt_row hs
  unfold maxLen at h2
  have H3 := Lib.hid h3
  obtain ⟨n, hn⟩ : ∃ n, l.length = n := ⟨_, rfl⟩
  have HN := Lib.hid hn
  have HB := Lib.hid B
  rw [hn] at h1 hl200 ⊢
  clear h3 hs hn B
  go_wp2_with fail
  go_loopw [7, 8] (fun b i wr => ∃ k : Nat, k ≤ n ∧ i = .int .i64 k ∧ b = .bool ((l.take k).any (hasKey key)) ∧ Below w2.heap.size w2 wr) (fun _ i _ => n - (intOf i).toNat)
  case atStart => exact ⟨0, by omega, rfl, by simp, Below.refl _ _⟩
  case round =>
    obtain ⟨k, hk, rfl, rfl, hb⟩ := hrel
    by_cases hlt : k < n
    · have hkl : k < l.length := by rw [HN.out]; exact hlt
      obtain ⟨b, o, rfl, hrow⟩ := H3.out (by rw [HN.out]; omega)
      have hrow := hrow.later hb hrow.1
      obtain ⟨x0, x1, x2⟩ := hrow.cells hkl
      have hlb := hrow.1
      have hkt := keys_take key l k hkl
      have HKT := Lib.hid hkt
      obtain ⟨d, d1, d2, d3, d4⟩ := HFS.out _ (getD_mem hkl)
      have c1 := fun W => CF.out (l.getD k Ce.zero).k W
      rw [show findC (l.getD k Ce.zero).k (some l) = d by unfold findC; rw [Option.getD_some, d1]; rfl, show findF (l.getD k Ce.zero).k (some l) = true by unfold findF; rw [Option.getD_some, d1]; rfl] at c1
      clear hkt d1 hrow
      generalize l.getD k Ce.zero = c at *
      generalize (l.take k).any (hasKey key) = a at *
      have neq := fun W => neq_ce d c W
      have q1 := fun (W : World) => CeAt.boxed d W
      have hdk : (d.k == c.k) = true := by rw [d2]; simp
      have hdk2 : (d.k != c.k) = false := by rw [d2]; simp
      have hdq : decide (d.q < c.q) = false := decide_eq_false (by omega)
      unfold ceVal at c1 neq
      unfold boxC at q1
      have C1 := Lib.hid c1
      have K1 := Lib.hid q1
      obtain ⟨h, hh⟩ : ∃ h, (c.k == key) = h := ⟨_, rfl⟩
      rw [hh] at HKT
      have HD2 := Lib.hid d2
      have HD4 := Lib.hid d4
      clear c1 q1 d2 d4
      have both : ∀ x : Bool, (l.take (k + 1)).any (hasKey key) = x → True := fun _ _ => trivial
      clear both
      by_cases hqe : d.q = c.q
      · have hdc : d = c := HD4.out hqe
        have hqb : (d.q == c.q) = true := by simpa using hqe
        rw [decide_eq_true hdc] at neq
        cases a <;> cases h
        all_goals
          clear hqe hdc
          go_wp2_with fail
          refine (C1.out _).mono ?_
          rintro e w3 ⟨rfl, b3⟩
          have q2 := K1.out w3
          have b4 := (Below.refl w3.heap.size w3).alloc (Nat.le_refl _) (.cells #[.string ⟨d.k.toArray⟩, .int .i64 d.q, .string ⟨d.v.toArray⟩] 28)
          have hb2 := btB (btB hb b3) b4
          have x0' := (b4.cell (p := ⟨b, o + k * 3, none⟩) (Nat.lt_of_lt_of_le hlb b3.size)).trans ((b3.cell (p := ⟨b, o + k * 3, none⟩) hlb).trans x0)
          have x1' := (b4.cell (p := ⟨b, o + k * 3 + 1, none⟩) (Nat.lt_of_lt_of_le hlb b3.size)).trans ((b3.cell (p := ⟨b, o + k * 3 + 1, none⟩) hlb).trans x1)
          have x2' := (b4.cell (p := ⟨b, o + k * 3 + 2, none⟩) (Nat.lt_of_lt_of_le hlb b3.size)).trans ((b3.cell (p := ⟨b, o + k * 3 + 2, none⟩) hlb).trans x2)
          clear x0 x1 x2 b3 b4 hb
          obtain ⟨y0, y1, y2⟩ := q2.cell
          go_wp2_with fail
          go_quiet (fail)
          go_wp2_with fail
          go_roundw
          case rel => exact ⟨k + 1, by omega, by go_num, by rw [HKT.out]; rfl, below_drewN hb2 _⟩
          case measure => simp [intOf]; omega
      · have hqb : (d.q == c.q) = false := by rw [beq_eq_false_iff_ne]; exact hqe
        cases a <;> cases h
        all_goals
          clear hqe neq
          go_wp2_with fail
          refine (C1.out _).mono ?_
          rintro e w3 ⟨rfl, b3⟩
          have q2 := K1.out w3
          have b4 := (Below.refl w3.heap.size w3).alloc (Nat.le_refl _) (.cells #[.string ⟨d.k.toArray⟩, .int .i64 d.q, .string ⟨d.v.toArray⟩] 28)
          have hb2 := btB (btB hb b3) b4
          have x0' := (b4.cell (p := ⟨b, o + k * 3, none⟩) (Nat.lt_of_lt_of_le hlb b3.size)).trans ((b3.cell (p := ⟨b, o + k * 3, none⟩) hlb).trans x0)
          have x1' := (b4.cell (p := ⟨b, o + k * 3 + 1, none⟩) (Nat.lt_of_lt_of_le hlb b3.size)).trans ((b3.cell (p := ⟨b, o + k * 3 + 1, none⟩) hlb).trans x1)
          have x2' := (b4.cell (p := ⟨b, o + k * 3 + 2, none⟩) (Nat.lt_of_lt_of_le hlb b3.size)).trans ((b3.cell (p := ⟨b, o + k * 3 + 2, none⟩) hlb).trans x2)
          clear x0 x1 x2 b3 b4 hb
          obtain ⟨y0, y1, y2⟩ := q2.cell
          go_wp2_with fail
          go_quiet (fail)
          go_wp2_with fail
          go_roundw
          case rel => exact ⟨k + 1, by omega, by go_num, by rw [HKT.out]; rfl, below_drewN hb2 _⟩
          case measure => simp [intOf]; omega
    · obtain rfl : k = n := by omega
      rw [List.take_of_length_le (by rw [HN.out]; exact Nat.le_refl _)] at *
      have B := btB HB.out hb
      have c1 := fun W => CF.out key W
      rw [findF_any] at c1
      cases hany : l.any (hasKey key) with
      | true =>
        rw [hany] at c1
        generalize findC key (some l) = c at *
        have q1 := fun (W : World) => CeAt.boxed c W
        unfold ceVal at c1
        unfold boxC at q1
        have C1 := Lib.hid c1
        clear c1 hany
        go_wp2_with fail
        refine (C1.out _).mono ?_
        rintro e w3 ⟨rfl, b3⟩
        have q2 := q1 w3
        have B := btB (btB B b3) ((Below.refl w3.heap.size w3).alloc (Nat.le_refl _) (.cells #[.string ⟨c.k.toArray⟩, .int .i64 c.q, .string ⟨c.v.toArray⟩] 28))
        clear q1 b3
        obtain ⟨y0, y1, y2⟩ := q2.cell
        go_wp2_with fail
        refine (CDO.out _).mono ?_
        rintro e w5 ⟨rfl, b5⟩
        have B := btB B b5
        go_wp2_with fail
        go_ret
        exact ⟨rfl, B⟩
      | false =>
        rw [hany, findC_none key l hany] at c1
        have ne := fun W => eql_ce Ce.zero Ce.zero W
        rw [decide_eq_true rfl] at ne
        have q1 := fun (W : World) => CeAt.boxed Ce.zero W
        unfold ceVal Ce.zero at c1 ne
        unfold boxC Ce.zero at q1
        try dsimp only at c1 ne q1
        have C1 := Lib.hid c1
        clear c1 hany
        go_wp2_with fail
        refine (C1.out _).mono ?_
        rintro e w3 ⟨rfl, b3⟩
        have q2 := q1 w3
        have B := btB (btB B b3) ((Below.refl w3.heap.size w3).alloc (Nat.le_refl _) (.cells #[.string ⟨#[]⟩, .int .i64 0, .string ⟨#[]⟩] 28))
        clear q1 b3
        obtain ⟨y0, y1, y2⟩ := q2.cell
        try dsimp only at y0 y1 y2
        go_wp2_with fail
        refine (CDO.out _).mono ?_
        rintro e w5 ⟨rfl, b5⟩
        have B := btB B b5
        go_wp2_with fail
        go_ret
        exact ⟨rfl, B⟩
theorem blocksAsk_law (w : World) (v : Value) (l : List Ce) (key : ByteArray) (hs : SlAt v l w) (hn : v = .slice none 0 0 ∨ ∃ ad n c, v = .slice (some ad) n c) (hw : ∀ c ∈ l, WfC c) (hkk : key.size ≤ 140737488351232) :
    Calls Try.prog 5 #[v, .string key] w fun e w' => e = .returned (.bool true) ∧ Below w.heap.size w w' := by
  have es : key = ⟨key.data.toList.toArray⟩ := by cases key; simp
  rw [es] at hkk ⊢
  rw [size_of] at hkk
  generalize key.data.toList = key at *
  have cg := greatL_any v l 200 w hs hw (by omega)
  cases hg : greatL l 200 with
  | true =>
    rw [hg] at cg
    have CG := Lib.hid cg
    clear cg hg hw hs
    go_enter Try.func5, Try.ntmps5
    go_wp2_with fail
    refine CG.out.mono ?_
    rintro e w1 ⟨rfl, b1⟩
    go_wp2_with fail
    go_ret
    exact ⟨rfl, b1⟩
  | false =>
    by_cases hk : (1000 : Int) < (key.length : Int)
    · rw [hg] at cg
      have CG := Lib.hid cg
      clear cg hg hw hs
      go_enter Try.func5, Try.ntmps5
      go_wp2_with fail
      refine CG.out.mono ?_
      rintro e w1 ⟨rfl, b1⟩
      go_wp2_with fail
      go_ret
      exact ⟨rfl, b1⟩
    · cases hso : sortedB l with
      | true => exact blocksAsk_yes w v l key hs hw hk hg hso
      | false =>
        have hf := fits_great hg hw
        have hlen := len_great hg (by omega) hw
        have CDO := Lib.hid bdoes_true
        rw [hg] at cg
        have CG := Lib.hid cg
        have ce := fun W (h : SlAt v l W) => encode_c v l W h hf (fun h => by have := hlen h; omega)
        rw [encV_c, show encS l = [] by unfold encS; rw [hso]; rfl, show encE l = 2 by unfold encE; rw [hso]; rfl] at ce
        have CE := Lib.hid ce
        have HS0 := Lib.hid hs
        have e1 := decide_eq_false hk
        clear cg ce hf hlen hso hg hs hw
        go_enter Try.func5, Try.ntmps5
        go_wp2_with fail
        refine CG.out.mono ?_
        rintro e w1 ⟨rfl, b1⟩
        have hs := HS0.out.later b1
        have B := b1
        clear b1
        go_wp2_with fail
        refine (CE.out _ hs).mono ?_
        rintro e w2 ⟨rfl, b2⟩
        have B := btB B b2
        clear b2
        go_wp2_with fail
        refine (CDO.out _).mono ?_
        rintro e w3 ⟨rfl, b3⟩
        have B := btB B b3
        go_wp2_with fail
        go_ret
        exact ⟨rfl, B⟩
end Go.Proofs.Ytglonbkhocnplaa
