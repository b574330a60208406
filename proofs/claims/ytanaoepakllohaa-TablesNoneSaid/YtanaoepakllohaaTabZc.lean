/- TablesNone's walk. -/
import Derived.Test.YtanaoepakllohaaTabV
set_option linter.unusedSimpArgs false
set_option linter.unusedVariables false
namespace Spoor
open Go
/-! cells of one key, the greatest number first -/
def kc (n j : Nat) : Ce := ⟨[107], (n : Int) - (j : Int), []⟩
def kL (n : Nat) : List Ce := (List.range n).map (kc n)
theorem kL_length (n : Nat) : (kL n).length = n := by simp [kL]
theorem kL_mem {n : Nat} {c : Ce} (h : c ∈ kL n) : ∃ j, j < n ∧ c = kc n j := by
  unfold kL at h
  obtain ⟨j, hj, rfl⟩ := List.mem_map.1 h
  exact ⟨j, List.mem_range.1 hj, rfl⟩
theorem kL_sorted (n : Nat) : sortedB (kL n) = true := by
  refine sorted_rise.2 ⟨?_, fun c hc => ?_⟩
  · unfold Rise kL
    rw [List.pairwise_map]
    refine List.Pairwise.imp ?_ List.pairwise_lt_range
    intro a b hab
    unfold aheadC kc
    simp only [beq_self_eq_true, Bool.true_and, Bool.or_eq_true, decide_eq_true_eq]
    right
    omega
  · obtain ⟨j, hj, rfl⟩ := kL_mem hc
    unfold Ce.may kc
    simp only [Bool.and_eq_true, decide_eq_true_eq]
    refine ⟨⟨⟨?_, ?_⟩, ?_⟩, ?_⟩ <;> simp <;> omega
theorem kL_q {n : Nat} (hn : n ≤ 100000) : ∀ c ∈ kL n, c.q ≤ 9223372036854775807 := fun c hc => by
  obtain ⟨j, hj, rfl⟩ := kL_mem hc
  show (n : Int) - (j : Int) ≤ _
  omega
def smallC (c : Ce) : Prop := c.k.length ≤ 1 ∧ c.v = [] ∧ c.q ≤ 9223372036854775807
theorem small_cell {last : List UInt8} {c : Ce} (h : smallC c) : (cellBytes last c).length ≤ 40 := by
  obtain ⟨h1, h2, h3⟩ := h
  obtain ⟨c1, c2⟩ := common_le last c.k
  have a1 := put_length9 (common last c.k) (by omega)
  have a2 := put_length9 (c.k.drop (common last c.k)).length (by rw [List.length_drop]; omega)
  have a3 := put_length9 c.q.toNat (by omega)
  have a4 := put_length9 c.v.length (by rw [h2]; simp)
  unfold cellBytes putText
  simp only [List.length_append]
  rw [h2] at a4 ⊢
  rw [List.length_drop] at a2 ⊢
  simp only [List.length_nil] at a4 ⊢
  omega
theorem small_body : ∀ {l : List Ce} {p : Option Ce}, (∀ c ∈ l, smallC c) → (bodyB p l).length ≤ 40 * l.length
  | [], _, _ => by simp [bodyB]
  | c :: l, p, h => by
    have h1 := small_cell (last := lastKey p) (h c (by simp))
    have h2 := small_body (l := l) (p := some c) (fun d hd => h d (by simp [hd]))
    simp only [bodyB, List.length_append, List.length_cons]
    omega
theorem small_data : ∀ {gs : List (List Ce)}, okG gs → (∀ c ∈ gs.flatten, smallC c) → (dataG gs).length ≤ 180 * gs.length ∧ (idxG gs).length ≤ 20 * gs.length
  | [], _, _ => by simp [dataG, idxG]
  | g :: gs, hok, hq => by
    obtain ⟨h0, h1, h2, h3⟩ := hok
    have hqg : ∀ c ∈ g, smallC c := fun c hc => hq c (by simp [hc])
    have hkl : (keyG g).length ≤ 1 := by
      cases g with
      | nil => exact absurd rfl h0
      | cons c l => exact (hqg c (by simp)).1
    have hb := small_body (p := none) hqg
    have hp := put_length9 g.length (by omega)
    have hbl : (blockB g).length ≤ 170 := by unfold blockB; rw [List.length_append]; omega
    obtain ⟨i1, i2⟩ := small_data h3 (fun c hc => hq c (by simp at hc ⊢; right; exact hc))
    have p1 := put_length9 (keyG g).length (by omega)
    have p2 := put_length9 (blockB g).length (by omega)
    simp only [dataG, idxG, List.flatMap_cons, dataOf, idxOf, putText, List.length_append, sumB_length, List.length_cons] at *
    omega
theorem kL_table {n : Nat} (hn : n ≤ 4096) : (tableB (kL n)).length ≤ 1000000 := by
  have hs : ∀ c ∈ (fours (kL n)).flatten, smallC c := fun c hc => by
    rw [fours_flat] at hc
    have hq := kL_q (show n ≤ 100000 by omega) c hc
    obtain ⟨j, hj, rfl⟩ := kL_mem hc
    exact ⟨by simp [kc], rfl, hq⟩
  have h := small_data (fours_ok (kL n)) hs
  have hl := fours_length (kL n)
  rw [kL_length] at hl
  have p := put_length9 (fours (kL n)).length (by omega)
  unfold tableB tableG indexG
  simp only [List.length_append, sumB_length, big_length]
  have : Spoor.mark.length = 5 := rfl
  omega
end Spoor
namespace Go.Proofs.Ytanaoepakllohaa
set_option maxRecDepth 16000
open Go.RowKit Spoor
set_option linter.unusedVariables false

theorem make_cells (n : Nat) (hn : n ≤ 100000) (W : World) : ∃ cur : Array Value, (Instr.makeSlice 22 (.int .i64 n) (.int .i64 n)).run Try.prog W = .ok (.slice (some ⟨W.heap.size, 0, none⟩) n n) (W.alloc (.cells cur 36)) ∧
    RowW W.heap.size n (List.replicate n Ce.zero) (W.alloc (.cells cur 36)) := by
  obtain ⟨i0, hi, hz0, hz1, hz2⟩ := info_parts info_ce
  have h := run_make W 22 36 i0 _ Try.underlying22 hi hz0 .i64 .i64 (n : Int) (n : Int) (by omega) (by omega) (by rw [hz2]; show (40 : Int) * (n : Int) ≤ 281474976710656; omega) (by omega)
  rw [hz1] at h
  simp only [Int.toNat_natCast] at h
  refine ⟨_, h, _, heap_alloc_new W _, size_madeCells _ _, by simp, fun i hi' j hj => ?_⟩
  rw [List.length_replicate] at hi'
  have hg : (List.replicate n Ce.zero).getD i Ce.zero = Ce.zero := by simp [List.getD, hi']
  rw [hg]
  have e : (Value.agg #[Value.string ⟨#[]⟩, Value.int .i64 0, Value.string ⟨#[]⟩]).cells = #[Value.string ⟨#[]⟩, Value.int .i64 0, Value.string ⟨#[]⟩] := by rfl
  rw [e]
  unfold madeCells
  have hlt : i * 3 + j < n * 3 := by omega
  have hm : (i * 3 + j) % 3 = j := by omega
  have e2 : ∀ f : Nat → Value, ((Array.range (n * 3)).map f)[i * 3 + j]? = some (f (i * 3 + j)) := fun f => by
    rw [Array.getElem?_map]
    have e3 : (Array.range (n * 3))[i * 3 + j]? = some (i * 3 + j) := by
      rw [Array.getElem?_eq_getElem (by simpa using hlt)]
      simp
    rw [e3]
    rfl
  rw [e2]
  show some ((#[Value.string ⟨#[]⟩, Value.int .i64 0, Value.string ⟨#[]⟩] : Array Value)[(i * 3 + j) % 3]!) = _
  rw [hm]
  rcases (by omega : j = 0 ∨ j = 1 ∨ j = 2) with rfl | rfl | rfl <;> rfl
theorem tabAt_none {t : Nat} {W : World} (h : W.heap[t]? = some (.cells #[.slice none 0 0] 57 (0, 0))) : TabAt t [] W :=
  ⟨_, h, none, 0, rfl, by simp, by unfold maxLen; omega, fun _ => .inl ⟨rfl, rfl⟩, fun h0 => by simp at h0⟩
/-- cells that are put one by one -/
def Kg (g n k : Nat) (W : World) : Prop := ∃ M : List Ce, M.length = n ∧ RowW g n M W ∧ ∀ j, j < k → M.getD j Ce.zero = kc n j
theorem Kg.put {g n k : Nat} {W : World} (h : Kg g n k W) (hk : k < n) : ∃ M : List Ce, k < M.length ∧ RowW g n M W ∧ Kg g n (k + 1) (((W.setCell ⟨g, k * 3, none⟩ (.string ⟨(kc n k).k.toArray⟩)).setCell ⟨g, k * 3 + 1, none⟩ (.int .i64 (kc n k).q)).setCell ⟨g, k * 3 + 2, none⟩ (.string ⟨(kc n k).v.toArray⟩)) := by
  obtain ⟨M, h1, h2, h3⟩ := h
  refine ⟨M, by omega, h2, M.set k (kc n k), by rw [List.length_set]; exact h1, h2.put (by omega) _, fun j hj => ?_⟩
  by_cases e : j = k
  · subst e
    simp [List.getD, show j < M.length by omega]
  · have := h3 j (by omega)
    simp only [List.getD, List.getElem?_set, if_neg (Ne.symm e)] at this ⊢
    exact this
theorem Kg.done {g n : Nat} {W : World} (h : Kg g n n W) (hn : n ≤ 100000) : SlAt (.slice (some ⟨g, 0, none⟩) n n) (kL n) W := by
  obtain ⟨M, h1, h2, h3⟩ := h
  have e : M = kL n := by
    apply List.ext_getElem
    · rw [h1, kL_length]
    · intro i hi hi2
      have q := h3 i (by omega)
      simp only [List.getD, List.getElem?_eq_getElem hi, Option.getD_some] at q
      rw [q]
      simp [kL]
  rw [e] at h2
  exact h2.sl (by unfold maxLen; omega) (kL_length n)
set_option maxRecDepth 100000 in
set_option maxHeartbeats 16000000 in
theorem tablesNone_law (key : ByteArray) (over : Int) (hks : key.size ≤ 140737488351232) (hov : (Lit.int IntKind.u8 over).wf = true) (w : World) :
    Calls Try.prog 10 #[.string key, .int .u8 over] w fun e w' => e = .returned (.bool true) ∧ Below w.heap.size w w' := by
  have es : key = ⟨key.data.toList.toArray⟩ := by cases key; simp
  rw [es] at hks ⊢
  rw [size_of] at hks
  generalize key.data.toList = key at *
  clear es
  have hov2 : 0 ≤ over ∧ over ≤ 255 := by simpa [Lit.wf, IntKind.min, IntKind.max, IntKind.signed, IntKind.bits] using hov
  obtain ⟨ov, rfl⟩ : ∃ ov : Nat, over = (ov : Int) := ⟨over.toNat, by omega⟩
  clear hov
  have CDO := Lib.hid tdoes_true
  by_cases hk : (1000 : Int) < (key.length : Int)
  · have f0 := decide_eq_true hk
    go_enter Try.func10, Try.ntmps10
    go_wp2_with fail
    go_ret
    exact ⟨rfl, Below.refl _ _⟩
  have f0 := decide_eq_false hk
  obtain ⟨m, hm⟩ : ∃ m, ov % 4 = m := ⟨_, rfl⟩
  have hrem : Int.tmod (ov : Int) 4 = (m : Int) := by rw [← hm]; rfl
  have hm4 : m < 4 := by omega
  have hw8 : IntKind.u8.wrap (m : Int) = (m : Int) := by
    have : ∀ k : Nat, k < 4 → IntKind.u8.wrap (k : Int) = (k : Int) := by decide
    exact this m hm4
  have hwi : IntKind.i64.wrap (m : Int) = (m : Int) := by rw [IntKind.wrap_i64]; omega
  obtain ⟨n, hnn⟩ : ∃ n, 4094 + m = n := ⟨_, rfl⟩
  have hwn : IntKind.i64.wrap ((4094 : Int) + (m : Int)) = (n : Int) := by rw [IntKind.wrap_i64]; omega
  have HNN := Lib.hid (show n ≤ 4097 by omega)
  have HWN := Lib.hid (And.intro hrem (And.intro hw8 (And.intro hwi hwn)))
  have CG0 := Lib.hid (fun W => getNil_any key W hks)
  have CR0 := Lib.hid (fun W => rangeNil_any key [] W)
  have CG1 := Lib.hid (fun t W (h : TabAt t [] W) => getT_any t [] key W h (by simp [Rise]) (by simp) (by simp) (by simp) hks)
  have CR1 := Lib.hid (fun t W (h : TabAt t [] W) => rangeS_any t [] key [] W h (by simp [Rise]) (by simp) (by simp) (by simp))
  have CA1 := Lib.hid (fun t W (h : TabAt t [] W) => allS_any t [] W h (by simp [Rise]) (by simp) (by simp) (by simp))
  have CL1 := Lib.hid (fun t W (h : TabAt t [] W) => lenT_any t [] W h (by simp) (by simp))
  unfold ceV ceVal Ce.zero at CG0
  rw [show ceV (findC ([] : List (List Ce)).flatten key) = .tuple #[.agg #[.string ⟨#[]⟩, .int .i64 0, .string ⟨#[]⟩], .bool false] from rfl] at CG1
  rw [show rangeC ([] : List (List Ce)).flatten key [] = [] from rfl] at CR1
  rw [show ([] : List (List Ce)).flatten = [] from rfl] at CA1 CL1
  clear hk hrem hw8 hwi hwn hm hnn hov2 hm4 hks
  go_enter Try.func10, Try.ntmps10
  go_wp2_with fail
  go_loopw [5] (fun i wr => ∃ k : Nat, i = .int .i64 k ∧ k ≤ 2 ∧ Hid (Below w.heap.size w wr)) (fun i _ => 2 - (intOf i).toNat)
  case atStart => exact ⟨0, rfl, by omega, Lib.hid (Below.refl _ _)⟩
  case round =>
    obtain ⟨k, rfl, hk2, HB⟩ := hrel
    by_cases hk0 : k = 0
    · subst hk0
      go_wp2_with fail
      refine (CG0.out _).mono ?_
      rintro e w1 ⟨rfl, b1⟩
      have LAT1 := Lib.hid (fun W (hb : Below w1.heap.size w1 W) => btBx HB.out (btBx b1 hb))
      clear b1 HB
      have nb6 := (Below.refl w1.heap.size w1).alloc (Nat.le_refl _) (boxC Ce.zero)
      have q6 := CeAt.boxed Ce.zero w1
      obtain ⟨c6, hc6⟩ : ∃ c6, w1.heap.size = c6 := ⟨_, rfl⟩
      have hcc6 : w1.heap.size ≤ c6 := by omega
      rw [hc6] at q6
      obtain ⟨v6, hv6⟩ : ∃ v6, w1.alloc (boxC Ce.zero) = v6 := ⟨_, rfl⟩
      have hvv6 : w1.alloc (.cells #[.string ⟨#[]⟩, .int .i64 0, .string ⟨#[]⟩] 36) = v6 := hv6
      rw [hv6] at nb6 q6
      obtain ⟨y0, y1, y2⟩ := q6.cell
      obtain ⟨z0, z1, z2⟩ := q6.frees
      unfold Ce.zero at y0 y1 y2
      dsimp only at y0 y1 y2
      have HQ6 := Lib.hid (q6.all nb6 hcc6 Ce.zero)
      have hlt6 := q6.lt
      clear nb6 hv6 q6
      go_wp2_with fail
      have bb6 : Below w1.heap.size w1 (((v6.setCell ⟨c6, 0, none⟩ (.string ⟨#[]⟩)).setCell ⟨c6, 1, none⟩ (.int .i64 0)).setCell ⟨c6, 2, none⟩ (.string ⟨#[]⟩)) := HQ6.out.2
      generalize (((v6.setCell ⟨c6, 0, none⟩ (.string ⟨#[]⟩)).setCell ⟨c6, 1, none⟩ (.int .i64 0)).setCell ⟨c6, 2, none⟩ (.string ⟨#[]⟩)) = w2 at *
      have LAT2 := Lib.hid (fun W (hb : Below w2.heap.size w2 W) => LAT1.out W (btBx bb6 hb))
      clear y0 y1 y2 z0 z1 z2 HQ6 hvv6 bb6 LAT1
      refine (CR0.out _).mono ?_
      rintro e w3 ⟨rfl, b3⟩
      have LAT3 := Lib.hid (fun W (hb : Below w3.heap.size w3 W) => LAT2.out W (btBx b3 hb))
      clear b3 LAT2
      go_wp2_with fail
      refine (allNil_any _).mono ?_
      rintro e w4 ⟨rfl, b4⟩
      have LAT4 := Lib.hid (fun W (hb : Below w4.heap.size w4 W) => LAT3.out W (btBx b4 hb))
      clear b4 LAT3
      go_wp2_with fail
      refine (lenNil_any _).mono ?_
      rintro e w5 ⟨rfl, b5⟩
      have HB5 := Lib.hid (LAT4.out _ b5)
      clear b5 LAT4
      go_wp2_with fail
      go_roundw
      case rel => exact ⟨1, by go_num, by omega, HB5⟩
      case measure => simp [intOf]
    · by_cases hk1 : k = 1
      · subst hk1
        go_wp2_with fail
        have nbt := (Below.refl wr.heap.size wr).alloc (Nat.le_refl _) (.cells #[.slice none 0 0] 57)
        have ht := tabAt_none (heap_alloc_new wr (.cells #[.slice none 0 0] 57))
        obtain ⟨t, htt⟩ : ∃ t, wr.heap.size = t := ⟨_, rfl⟩
        rw [htt] at ht ⊢
        obtain ⟨w0, hw0⟩ : ∃ w0, wr.alloc (.cells #[.slice none 0 0] 57) = w0 := ⟨_, rfl⟩
        rw [hw0] at ht nbt ⊢
        have LAT0 := Lib.hid (fun W (hb : Below w0.heap.size w0 W) => And.intro (ht.later hb) (btBx HB.out (btBx nbt hb)))
        clear nbt ht htt hw0 HB
        refine (CG1.out _ _ (LAT0.out _ (Below.refl _ _)).1).mono ?_
        rintro e w1 ⟨rfl, b1⟩
        have LAT1 := Lib.hid (fun W (hb : Below w1.heap.size w1 W) => LAT0.out W (btBx b1 hb))
        clear b1 LAT0
        have nb6 := (Below.refl w1.heap.size w1).alloc (Nat.le_refl _) (boxC Ce.zero)
        have q6 := CeAt.boxed Ce.zero w1
        obtain ⟨c6, hc6⟩ : ∃ c6, w1.heap.size = c6 := ⟨_, rfl⟩
        have hcc6 : w1.heap.size ≤ c6 := by omega
        rw [hc6] at q6
        obtain ⟨v6, hv6⟩ : ∃ v6, w1.alloc (boxC Ce.zero) = v6 := ⟨_, rfl⟩
        have hvv6 : w1.alloc (.cells #[.string ⟨#[]⟩, .int .i64 0, .string ⟨#[]⟩] 36) = v6 := hv6
        rw [hv6] at nb6 q6
        obtain ⟨y0, y1, y2⟩ := q6.cell
        obtain ⟨z0, z1, z2⟩ := q6.frees
        unfold Ce.zero at y0 y1 y2
        dsimp only at y0 y1 y2
        have HQ6 := Lib.hid (q6.all nb6 hcc6 Ce.zero)
        have hlt6 := q6.lt
        clear nb6 hv6 q6
        go_wp2_with fail
        have bb6 : Below w1.heap.size w1 (((v6.setCell ⟨c6, 0, none⟩ (.string ⟨#[]⟩)).setCell ⟨c6, 1, none⟩ (.int .i64 0)).setCell ⟨c6, 2, none⟩ (.string ⟨#[]⟩)) := HQ6.out.2
        generalize (((v6.setCell ⟨c6, 0, none⟩ (.string ⟨#[]⟩)).setCell ⟨c6, 1, none⟩ (.int .i64 0)).setCell ⟨c6, 2, none⟩ (.string ⟨#[]⟩)) = w2 at *
        have LAT2 := Lib.hid (fun W (hb : Below w2.heap.size w2 W) => LAT1.out W (btBx bb6 hb))
        clear y0 y1 y2 z0 z1 z2 HQ6 hvv6 bb6 LAT1
        refine (CR1.out _ _ (LAT2.out _ (Below.refl _ _)).1).mono ?_
        rintro e w3 ⟨b3, u, rfl, sl3⟩
        obtain ⟨A3, c3, rfl, -⟩ := sl3
        have LAT3 := Lib.hid (fun W (hb : Below w3.heap.size w3 W) => LAT2.out W (btBx b3 hb))
        clear b3 LAT2
        go_wp2_with fail
        refine (CA1.out _ _ (LAT3.out _ (Below.refl _ _)).1).mono ?_
        rintro e w4 ⟨b4, u, rfl, sl4⟩
        obtain ⟨A4, c4, rfl, -⟩ := sl4
        have LAT4 := Lib.hid (fun W (hb : Below w4.heap.size w4 W) => LAT3.out W (btBx b4 hb))
        clear b4 LAT3
        go_wp2_with fail
        refine (CL1.out _ _ (LAT4.out _ (Below.refl _ _)).1).mono ?_
        rintro e w5 ⟨rfl, b5⟩
        have HB5 := Lib.hid (LAT4.out _ b5).2
        clear b5 LAT4
        go_wp2_with fail
        go_roundw
        case rel => exact ⟨2, by go_num, by omega, HB5⟩
        case measure => simp [intOf]
      · obtain rfl : k = 2 := by omega
        obtain ⟨hrem, hw8, hwi, hwn⟩ := HWN.out
        have hn97 := HNN.out
        obtain ⟨cur, hmk, hrw⟩ := make_cells n (by omega) wr
        have nbm := (Below.refl wr.heap.size wr).alloc (Nat.le_refl _) (.cells cur 36)
        have hK0 : Kg wr.heap.size n 0 (wr.alloc (.cells cur 36)) := ⟨_, by simp, hrw, fun j hj => by omega⟩
        have HG0 := Lib.hid (And.intro hK0 (And.intro (btBx HB.out nbm) HB.out.size))
        clear hrw nbm hK0 HB CG0 CR0 CG1 CR1 CA1 CL1 HWN
        go_wp2_with fail
        clear hrem hw8 hwi hwn hmk
        obtain ⟨g, hg⟩ : ∃ g, wr.heap.size = g := ⟨_, rfl⟩
        obtain ⟨w0, hw0⟩ : ∃ w0, wr.alloc (.cells cur 36) = w0 := ⟨_, rfl⟩
        rw [hg, hw0] at HG0
        rw [hg, hw0]
        clear hg hw0
        go_loopw [11] (fun i wq => ∃ k : Nat, i = .int .i64 k ∧ k ≤ n ∧ Hid (Kg g n k wq ∧ Below w.heap.size w wq)) (fun i _ => n - (intOf i).toNat)
        case atStart => exact ⟨0, rfl, by omega, Lib.hid ⟨HG0.out.1, HG0.out.2.1⟩⟩
        case round =>
          obtain ⟨j, rfl, hj, HK⟩ := hrel
          by_cases hjn : j < n
          · obtain ⟨M, hjM, hrw, hK2⟩ := HK.out.1.put hjn
            obtain ⟨x0, x1, x2⟩ := hrw.row.cells (i := j) hjM
            simp only [Nat.zero_add] at x0 x1 x2
            have f1 := hrw.free (j * 3)
            have f2 := hrw.free (j * 3 + 1)
            have f3 := hrw.free (j * 3 + 2)
            have hwj : IntKind.i64.wrap ((n : Int) - (j : Int)) = (n : Int) - (j : Int) := by rw [IntKind.wrap_i64]; omega
            have HK2 := Lib.hid (And.intro hK2 (below_set (below_set (below_set HK.out.2 HG0.out.2.2 (j * 3) (.string ⟨(kc n j).k.toArray⟩)) HG0.out.2.2 (j * 3 + 1) (.int .i64 (kc n j).q)) HG0.out.2.2 (j * 3 + 2) (.string ⟨(kc n j).v.toArray⟩)))
            clear hrw hK2 hjM HK
            go_wp2_with fail
            go_roundw
            case rel => exact ⟨j + 1, by go_num, by omega, Lib.hid HK2.out⟩
            case measure => simp [intOf]; omega
          · obtain rfl : j = n := by omega
            have sl := HK.out.1.done (by omega)
            have HB2 := Lib.hid HK.out.2
            have hf : ∀ c ∈ kL j, FitsC c := fun c hc => by
              have hq := kL_q (show j ≤ 100000 by omega) c hc
              obtain ⟨i, hi, rfl⟩ := kL_mem hc
              exact ⟨by simp [kc], by simp [kc], hq⟩
            have cb := buildT_any (.slice (some ⟨g, 0, none⟩) j j) (kL j) _ sl hf (by rw [kL_length]; omega)
            unfold buildV at cb
            rw [if_pos (kL_sorted j), kL_length] at cb
            by_cases h4 : 4096 < j
            · rw [if_pos h4] at cb
              have h4i : (4096 : Int) < (j : Int) := by omega
              have CB := Lib.hid cb
              clear cb sl hf HK HG0
              go_wp2_with fail
              refine CB.out.mono ?_
              rintro e w4 ⟨rfl, b4⟩
              have HB4 := Lib.hid (btBx HB2.out b4)
              clear b4 CB HB2
              go_wp2_with fail
              refine (CDO.out _).mono ?_
              rintro e w5 ⟨rfl, b5⟩
              have hB := btBx HB4.out b5
              go_wp2_with fail
              go_ret
              exact ⟨rfl, hB⟩
            · rw [if_neg h4] at cb
              have h4i : ¬ (4096 : Int) < (j : Int) := by omega
              have ct := fun W => openT_some (open_build (kL_sorted j) (by rw [kL_length]; omega) (kL_q (by omega))) W (kL_table (by omega))
              obtain ⟨-, -, q3, q4⟩ := fours_facts (kL_sorted j) (by rw [kL_length]; omega)
              have cl := fun t W (h : TabAt t (fours (kL j)) W) => lenT_any t (fours (kL j)) W h (by omega) (by omega)
              rw [fours_flat, kL_length] at cl
              obtain ⟨TS, hTS⟩ : ∃ TS, tableB (kL j) = TS := ⟨_, rfl⟩
              rw [hTS] at cb ct
              have CB := Lib.hid cb
              have CT := Lib.hid ct
              have CL := Lib.hid cl
              clear cb ct cl sl hf HK HG0 q3 q4 hTS
              go_wp2_with fail
              refine CB.out.mono ?_
              rintro e w4 ⟨rfl, b4⟩
              have HB4 := Lib.hid (btBx HB2.out b4)
              clear b4 CB HB2
              go_wp2_with fail
              refine (CT.out _).mono ?_
              rintro e w5 ⟨b5, t, rfl, ht⟩
              have HB5 := Lib.hid (btBx HB4.out b5)
              clear b5 CT HB4
              go_wp2_with fail
              refine (CL.out _ _ ht).mono ?_
              rintro e w6 ⟨rfl, b6⟩
              have HB6 := Lib.hid (btBx HB5.out b6)
              clear b6 CL HB5 ht
              have k6 : ((j : Int) == (j : Int)) = true := by simp
              go_wp2_with fail
              refine (CDO.out _).mono ?_
              rintro e w7 ⟨rfl, b7⟩
              have hB := btBx HB6.out b7
              go_wp2_with fail
              go_ret
              exact ⟨rfl, hB⟩
end Go.Proofs.Ytanaoepakllohaa
