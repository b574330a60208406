/- Rows of spans that a slice owns; the walk on a batch's decoding. Printed by wip/gen/postsH.py. -/
import Derived.Test.YtheeekmhmbkncaaPostsG
import Derived.OneCell
import Derived.Deep.Onto
import Derived.Deep.RegionLaw
import Derived.Deep.AppendLies
namespace Go.Proofs.Ytheeekmhmbkncaa
open Go.RowKit Spoor

def rowS (l : List Sp) : List Value := l.flatMap spRow
theorem rowS_snoc (l : List Sp) (c : Sp) : rowS (l ++ [c]) = rowS l ++ spRow c := by simp [rowS]
theorem rowS_length : ∀ l : List Sp, (rowS l).length = l.length * 8
  | [] => rfl
  | c :: l => by
    have := rowS_length l
    show (spRow c ++ rowS l).length = _
    rw [List.length_append, this]
    simp [spRow]
    omega
theorem rowS_at : ∀ (l : List Sp) (i j : Nat), i < l.length → j < 8 → (rowS l)[i * 8 + j]? = (spRow (l.getD i Sp.zero))[j]?
  | c :: l, 0, j, _, hj => by
    show (spRow c ++ rowS l)[0 * 8 + j]? = _
    rw [List.getElem?_append_left (by simp [spRow]; omega)]
    simp
  | c :: l, i + 1, j, h, hj => by
    show (spRow c ++ rowS l)[(i + 1) * 8 + j]? = _
    rw [List.getElem?_append_right (by simp [spRow]; omega)]
    have := rowS_at l i j (by simpa using h) hj
    rw [show (i + 1) * 8 + j - (spRow c).length = i * 8 + j by simp [spRow]; omega, this]
    simp
/-- what owns a row of spans is a slice that holds them -/
theorem slS_own {w : World} {base : Nat} {v : Value} {l : List Sp} (h : w.ownsRow base 29 8 v l.length (rowS l)) : SlS v l w := by
  have hc := fun g (hg : v.ownBlock = some g) => h.cells hg
  have hlt := h.lt
  rcases h.2 with ⟨rfl, h0⟩ | ⟨g, cap, cur, rfl, hb, hg, hn, hm, _⟩
  · exact ⟨none, 0, by rw [h0], by omega, by unfold maxLen; omega, fun hl => by omega⟩
  · refine ⟨some ⟨g, 0, none⟩, cap, rfl, hn, hm, fun _ => ⟨g, 0, rfl, (hlt g rfl).2, fun i hi j v hv => ?_⟩⟩
    have hj : j < 8 := by
      have := (List.getElem?_eq_some_iff.1 hv).1
      simpa [spRow] using this
    have := hc g rfl (i * 8 + j) v (by rw [rowS_at l i j hi hj]; exact hv)
    rw [Addr.add_lit] at this
    rw [← Nat.add_assoc] at this
    exact this
theorem info_sp : (Try.prog.info? 29).map (fun i => (i.zero, i.size, i.bytes)) = some (some (.agg #[.int .i64 0, .int .i64 0, .int .i64 0, .string ⟨#[]⟩, .string ⟨#[]⟩, .int .i64 0, .int .i64 0, .string ⟨#[]⟩]), 8, 88) := by kernel_rfl
theorem spRow_one (c : Sp) : ∀ u ∈ spRow c, u.oneCell' = true := by
  intro u hu
  simp only [spRow, List.mem_cons, List.not_mem_nil, or_false] at hu
  rcases hu with rfl | rfl | rfl | rfl | rfl | rfl | rfl | rfl <;> rfl
theorem own_laterS {w w' : World} {base n : Nat} {v : Value} {xs : List Value} {e : TypeId} (h : w.ownsRow base e 8 v n xs) (hb : Below w.heap.size w w') : w'.ownsRow base e 8 v n xs :=
  h.kept (row := none) ⟨hb.os, hb.tape, hb.output, hb.size, fun k hk _ => hb.block k hk⟩ (by cases h : v.ownBlock <;> simp)
def baZero : Value := .agg #[.int .i64 0, .int .i64 0, .slice none 0 0]
def DecBaEx (s : List UInt8) (w : World) (e : Ending) (w' : World) : Prop :=
  Below w.heap.size w w' ∧ ((decBa s = none ∧ e = .returned (.tuple #[baZero, .int .i64 30])) ∨ ∃ b v, decBa s = some b ∧ e = .returned (.tuple #[baVal b v, .int .i64 0]) ∧ w'.ownsRow w.heap.size 29 8 v b.sp.length (rowS b.sp))
def finB (h f : Nat) (acc : List Sp) : Option (List Sp × List UInt8) → Option Ba
  | some (sp, []) => some ⟨(h : Int), (f : Int), acc ++ sp⟩
  | _ => none
theorem decBa_gets (s : List UInt8) : decBa s = match getsR 66 s with
    | some ([h, f, m], r) => if numsOk h f m = true then finB h f [] (spansR m r) else none
    | _ => none := by
  unfold decBa getsR
  cases behind 66 s with
  | none => rfl
  | some l =>
    simp only
    split <;> simp_all
    split
    · unfold finB
      split <;> simp_all
    · rfl
theorem finB_step {h f m : Nat} {acc : List Sp} {r t : List UInt8} {j : Nat} {x : Sp} (h1 : getText r = some (t, j)) (h2 : decodeSp t = some x) : finB h f acc (spansR (m + 1) r) = finB h f (acc ++ [x]) (spansR m (r.drop j)) := by
  rw [spansR, h1]
  simp only [h2]
  cases hs : spansR m (r.drop j) with
  | none => rfl
  | some q =>
    obtain ⟨sp, rr⟩ := q
    cases rr <;> simp [finB]
theorem finB_no1 {h f m : Nat} {acc : List Sp} {r : List UInt8} (h1 : getText r = none) : finB h f acc (spansR (m + 1) r) = none := by
  rw [spansR, h1]; rfl
theorem finB_no2 {h f m : Nat} {acc : List Sp} {r t : List UInt8} {j : Nat} (h1 : getText r = some (t, j)) (h2 : decodeSp t = none) : finB h f acc (spansR (m + 1) r) = none := by
  rw [spansR, h1]; simp only [h2]; rfl
/-- the batch's variable, of which so many numbers are laid; the third one lies elsewhere -/
def BaN (b : Nat) (ns : List Nat) (W : World) : Prop := W.heap[b]? = some (.cells #[.int .i64 (ns.getD 0 0 : Nat), .int .i64 (ns.getD 1 0 : Nat), .slice none 0 0] 24 (0, 0))
def IntN (b : Nat) (n : Nat) (W : World) : Prop := W.heap[b]? = some (.cells #[.int .i64 (n : Nat)] 3 (0, 0))
def BaZ (b : Nat) (W : World) : Prop := W.heap[b]? = some (.cells #[.int .i64 0, .int .i64 0, .slice none 0 0] 24 (0, 0))
def pB (b m : Nat) (i : Nat) : Addr := if i = 2 then ⟨m, 0, none⟩ else ⟨b, i, none⟩
structure ZB (w : World) (r b m g : Nat) (ns : List Nat) (W : World) : Prop where
  len : ns.length ≤ 3
  res : BaZ r W
  at' : BaN b ns W
  man : IntN m (ns.getD 2 0) W
  ptr : Pt3 g (pB b m) W
  bel : Below w.heap.size w W
theorem three_batch (w : World) (r b m g : Nat) (h1 : r ≠ b) (h2 : b ≠ g) (h3 : r ≠ m) (h4 : b ≠ m) (h5 : m ≠ g) (h6 : w.heap.size ≤ b) (h7 : w.heap.size ≤ m) : Three g (pB b m) (fun ns W => ZB w r b m g ns W) := by
  refine ⟨?_, ?_, ?_, ?_⟩
  · intro ns W W' h hb
    exact ⟨h.len, blk_later h.res hb, blk_later h.at' hb, blk_later h.man hb, blk_later h.ptr hb, btP h.bel hb⟩
  · intro ns W i h hi
    exact h.ptr.at i hi
  · intro ns W i h hi
    match i, hi with
    | 0, _ => exact ⟨⟨_, by rw [show pB b m 0 = ⟨b, 0, none⟩ from rfl, cell_of_row W b _ _ _ _ h.at']; rfl⟩, frozen_of_row W b 0 _ _ h.at'⟩
    | 1, _ => exact ⟨⟨_, by rw [show pB b m 1 = ⟨b, 1, none⟩ from rfl, cell_of_row W b _ _ _ _ h.at']; rfl⟩, frozen_of_row W b 1 _ _ h.at'⟩
    | 2, _ => exact ⟨⟨_, by rw [show pB b m 2 = ⟨m, 0, none⟩ from rfl, cell_of_row W m _ _ _ _ h.man]; rfl⟩, frozen_of_row W m 0 _ _ h.man⟩
  · intro ns W n h hl
    match ns, hl, h with
    | [], _, h =>
      refine ⟨by simp, blk_other h.res _ h1 _, ?_, blk_other h.man _ (fun e => h4 e.symm) _, blk_other h.ptr _ (fun e => h2 e.symm) _, h.bel.setCell (p := ⟨b, 0, none⟩) h6 _⟩
      have := h.at'
      unfold BaN at this ⊢
      exact (heap_setCell_same W b 0 _ _ _ this).trans rfl
    | [_], _, h =>
      refine ⟨by simp, blk_other h.res _ h1 _, ?_, blk_other h.man _ (fun e => h4 e.symm) _, blk_other h.ptr _ (fun e => h2 e.symm) _, h.bel.setCell (p := ⟨b, 1, none⟩) h6 _⟩
      have := h.at'
      unfold BaN at this ⊢
      exact (heap_setCell_same W b 1 _ _ _ this).trans rfl
    | [_, _], _, h =>
      refine ⟨by simp, blk_other h.res _ h3 _, blk_other h.at' _ h4 _, ?_, blk_other h.ptr _ (fun e => h5 e.symm) _, h.bel.setCell (p := ⟨m, 0, none⟩) h7 _⟩
      have := h.man
      unfold IntN at this ⊢
      exact (heap_setCell_same W m 0 _ _ _ this).trans rfl
/-- where the reading stands: so many spans are laid -/
structure DB (w : World) (s : List UInt8) (h f m k : Nat) (rest : List UInt8) (acc : List Sp) (v : Value) (wr : World) : Prop where
  le : k ≤ m
  small : m ≤ 8
  len : acc.length = k
  size : rest.length ≤ s.length
  own : wr.ownsRow (w.heap.size + 4) 29 8 v acc.length (rowS acc)
  res : BaZ w.heap.size wr
  at' : BaAt (w.heap.size + 1) ⟨(h : Int), (f : Int), []⟩ v wr
  room : w.heap.size + 4 ≤ wr.heap.size
  bel : Below w.heap.size w wr
  dec : decBa s = finB h f acc (spansR (m - k) rest)
theorem DB.later {w : World} {s : List UInt8} {h f m k : Nat} {rest : List UInt8} {acc : List Sp} {v : Value} {wr w' : World} (E : DB w s h f m k rest acc v wr) (hb : Below wr.heap.size wr w') : DB w s h f m k rest acc v w' :=
  ⟨E.le, E.small, E.len, E.size, own_laterS E.own hb, blk_later E.res hb, E.at'.later hb, Nat.le_trans E.room hb.size, btP E.bel hb, E.dec⟩
theorem DB.blk {w : World} {s : List UInt8} {h f m k : Nat} {rest : List UInt8} {acc : List Sp} {v : Value} {W4 W5 : World} {o : Obj} (E : DB w s h f m k rest acc v W4) (hgr : (W4.drew.alloc o).grownBy W5 v.ownBlock) (b : Nat) (hb : b < w.heap.size + 4) : W5.heap[b]? = W4.heap[b]? := by
  have hr := E.room
  have hne : v.ownBlock ≠ some b := fun e => by have := (E.own.lt b e).1; omega
  rw [hgr.block b (by simp; omega) (fun e => hne e.symm)]
  exact heap_alloc_old W4.drew o (by show b < W4.heap.size; omega)
theorem DB.step {w : World} {s : List UInt8} {h f m k : Nat} {rest t : List UInt8} {j : Nat} {x : Sp} {acc : List Sp} {v v' : Value} {W4 W5 : World} {o : Obj} (E : DB w s h f m k rest acc v W4) (hk : k < m) (ht : getText rest = some (t, j)) (hx : decodeSp t = some x)
    (hgr : (W4.drew.alloc o).grownBy W5 v.ownBlock) (own5 : W5.ownsRow (w.heap.size + 4) 29 8 v' (acc.length + 1) (rowS acc ++ spRow x)) : DB w s h f m (k + 1) (rest.drop j) (acc ++ [x]) v' (W5.setCell ⟨w.heap.size + 1, 2, none⟩ v') := by
  have hr := E.room
  have hs5 := hgr.size
  simp only [alloc_size] at hs5
  have hs6 : W4.drew.heap.size = W4.heap.size := rfl
  have hbel : Below w.heap.size w W5 := Below.grown (w := W4.drew.alloc o) ((E.bel.drew).alloc (by omega) _) hgr (by simp; omega) (fun b hb => by have := (E.own.lt b hb).1; omega)
  have hgl : v'.ownBlock ≠ some (w.heap.size + 1) := fun e => by have := (own5.lt _ e).1; omega
  refine ⟨by omega, E.small, by simp [E.len], ?_, ?_, ?_, ?_, ?_, ?_, ?_⟩
  · rw [List.length_drop]; have := E.size; omega
  · rw [rowS_snoc, List.length_append]
    exact ownsRow_setCell_other own5 (a := ⟨w.heap.size + 1, 2, none⟩) hgl _
  · have h1 := E.res
    unfold BaZ at h1 ⊢
    rw [Below.heap_setCell _ _ _ _ (by simp), E.blk hgr _ (by omega)]
    exact h1
  · have h1 := E.at'
    unfold BaAt at h1 ⊢
    rw [← E.blk hgr _ (by omega)] at h1
    exact (heap_setCell_same W5 (w.heap.size + 1) 2 _ _ _ h1).trans rfl
  · show w.heap.size + 4 ≤ (W5.setCell _ _).heap.size
    have : (W5.setCell ⟨w.heap.size + 1, 2, none⟩ v').heap.size = W5.heap.size := by simp
    omega
  · exact hbel.setCell (p := ⟨w.heap.size + 1, 2, none⟩) (by simp) _
  · obtain ⟨q, hq⟩ : ∃ q, m - k = q + 1 := ⟨m - k - 1, by omega⟩
    rw [E.dec, hq, finB_step ht hx, show m - (k + 1) = q by omega]
theorem getTextN_any (s : List UInt8) (n : Nat) (W : World) (hs : s.length ≤ 140737488351232) :
    Calls Try.prog 33 #[.string ⟨s.toArray⟩, .int .i64 n] W fun e w' => e = .returned (getTextV n (getText (s.drop n))) ∧ W = w' := by
  have h := getText_any ⟨s.toArray⟩ (n : Int) W (by show s.toArray.size ≤ maxLen; simp [maxLen]; omega)
  have e : getTextAt s (n : Int) = getTextV n (getText (s.drop n)) := by unfold getTextAt; rw [if_neg (by omega), Int.toNat_natCast]
  rw [← e]
  exact h
theorem decodeL_any (t : List UInt8) (W : World) (hs : t.length ≤ 140737488351232) :
    Calls Try.prog 34 #[.string ⟨t.toArray⟩] W fun e w' => e = .returned (decodeV (decodeSp t)) ∧ Below W.heap.size W w' :=
  decode_any ⟨t.toArray⟩ W (by show t.toArray.size ≤ _; simpa using hs)
theorem decode_nil : decodeSp [] = none := by rfl
theorem DB.fin {w : World} {s : List UInt8} {h f m : Nat} {acc : List Sp} {rest : List UInt8} {v : Value} {W : World} (E : DB w s h f m m rest acc v W) : decBa s = match rest with | [] => some ⟨(h : Int), (f : Int), acc⟩ | _ => none := by
  rw [E.dec, Nat.sub_self, spansR]
  cases rest <;> simp [finB]
theorem BaZ.facts {r : Nat} {W : World} (h : BaZ r W) : (W.cell? ⟨r, 0, none⟩ = some (.int .i64 0) ∧ W.cell? ⟨r, 1, none⟩ = some (.int .i64 0) ∧ W.cell? ⟨r, 2, none⟩ = some (.slice none 0 0)) ∧ W.frozen? ⟨r, 0, none⟩ = false ∧ W.frozen? ⟨r, 1, none⟩ = false ∧ W.frozen? ⟨r, 2, none⟩ = false := by
  refine ⟨⟨?_, ?_, ?_⟩, ?_, ?_, ?_⟩
  all_goals first
    | (rw [cell_of_row W _ _ _ _ _ h]; rfl)
    | exact frozen_of_row W _ _ _ _ h
set_option maxHeartbeats 16000000 in
theorem decodeBatch_any (s : List UInt8) (w : World) (hs : s.length ≤ 1000000000) : Calls Try.prog 16 #[.string ⟨s.toArray⟩] w (DecBaEx s w) := by
  have CG := Lib.hid (fun (W : World) (hz : ZB w w.heap.size (w.heap.size + 1) (w.heap.size + 2) (w.heap.size + 3) [] W) => gets_any 66 s (w.heap.size + 3) (pB (w.heap.size + 1) (w.heap.size + 2)) (fun ns W => ZB w w.heap.size (w.heap.size + 1) (w.heap.size + 2) (w.heap.size + 3) ns W) W (three_batch w w.heap.size (w.heap.size + 1) (w.heap.size + 2) (w.heap.size + 3) (by omega) (by omega) (by omega) (by omega) (by omega) (by omega) (by omega)) hz (by omega))
  have HD := Lib.hid (decBa_gets s)
  have HS := Lib.hid hs
  clear hs
  go_enter Try.func16, Try.ntmps16
  go_wp2_with fail
  refine (CG.out _ ?_).mono ?_
  · refine ⟨by simp, ?_, ?_, ?_, ?_, ?_⟩
    · unfold BaZ
      rw [heap_alloc_old _ _ (by simp; omega), heap_alloc_old _ _ (by simp; omega), heap_alloc_old _ _ (by simp)]
      exact heap_alloc_new w _
    · unfold BaN
      rw [heap_alloc_old _ _ (by simp), heap_alloc_old _ _ (by simp)]
      exact heap_new_at _ _ _ (by simp)
    · unfold IntN
      rw [heap_alloc_old _ _ (by simp)]
      exact heap_new_at _ _ _ (by simp)
    · exact heap_new_at _ _ _ (by simp)
    · exact ((((Below.refl _ _).alloc (Nat.le_refl _) _).alloc (by simp) _).alloc (by simp; omega) _).alloc (by simp; omega) _
  clear CG
  rintro e w1 hx
  rcases hx with ⟨ns, r, hR, rfl, z⟩ | ⟨hR, rfl, ns, z⟩
  rotate_left
  · have hdn : decBa s = none := by rw [HD.out, hR]
    have B1 := Lib.hid z.bel
    obtain ⟨⟨g0, g1, g2⟩, f0, f1, f2⟩ := z.res.facts
    clear HD z
    go_wp2_with fail
    refine bodyPost_ret (v := .tuple #[baZero, .int .i64 30]) (by simp [results, baZero, Try.results16, go_sem, *]) rfl ⟨(((B1.out).setCell (p := ⟨w.heap.size, 0, none⟩) (Nat.le_refl _) _).setCell (p := ⟨w.heap.size, 1, none⟩) (Nat.le_refl _) _).setCell (p := ⟨w.heap.size, 2, none⟩) (Nat.le_refl _) _, .inl ⟨hdn, rfl⟩⟩
  · obtain ⟨hl3, hsz, hbig⟩ : ns.length = 3 ∧ r.length ≤ s.length ∧ ∀ n ∈ ns, n ≤ 9223372036854775807 := by
      unfold getsR at hR
      cases hb : behind 66 s with
      | none => rw [hb] at hR; cases hR
      | some l =>
        rw [hb] at hR
        obtain ⟨q1, q2, q3⟩ := nums_some hR
        refine ⟨q1, ?_, q3⟩
        rw [behind_some hb, q2, List.length_cons, List.length_append]
        omega
    match ns, hl3 with
    | [h, f, m], _ =>
    have hh := hbig h (by simp)
    have hf := hbig f (by simp)
    have hm := hbig m (by simp)
    have hd := HD.out
    rw [hR] at hd
    simp only at hd
    have B1 := Lib.hid z.bel
    obtain ⟨⟨g0, g1, g2⟩, f0, f1, f2⟩ := z.res.facts
    have k0 := cell_of_row w1 (w.heap.size + 1) 0 _ _ _ z.at'
    have k1 := cell_of_row w1 (w.heap.size + 1) 1 _ _ _ z.at'
    have k2 := cell_of_row w1 (w.heap.size + 1) 2 _ _ _ z.at'
    have k3 := cell_of_row w1 (w.heap.size + 2) 0 _ _ _ z.man
    have hlt : w.heap.size + 3 < w1.heap.size := (Array.getElem?_eq_some_iff.1 z.ptr).1
    simp at k0 k1 k2 k3
    have c1 := fun W => host_any h W
    have c2 := fun W => record_any f W
    have c3 := fun W => record_any ((f : Int) + (m : Int)) W
    have hnum : numsOk h f m = (hoOk h && (reOk f && (reOk ((f : Int) + (m : Int)) && decide (1 ≤ m ∧ m ≤ 8)))) := rfl
    clear hR HD hbig
    by_cases h4 : 1 ≤ m ∧ m ≤ 8
    rotate_left
    · have hdn : decBa s = none := by rw [hd, hnum, decide_eq_false h4]; simp
      clear hd c1 c2 c3 hnum z
      by_cases hm0 : m = 0
      · have hm1 : ((m : Int) < 1) := by omega
        generalize (m : Int) = mi at *
        clear hm0 h4
        go_wp2_with fail
        refine bodyPost_ret (v := .tuple #[baZero, .int .i64 30]) (by simp [results, baZero, Try.results16, go_sem, *]) rfl ⟨(((B1.out).setCell (p := ⟨w.heap.size, 0, none⟩) (Nat.le_refl _) _).setCell (p := ⟨w.heap.size, 1, none⟩) (Nat.le_refl _) _).setCell (p := ⟨w.heap.size, 2, none⟩) (Nat.le_refl _) _, .inl ⟨hdn, rfl⟩⟩
      · have hm1 : ¬ ((m : Int) < 1) := by omega
        have hm8 : ((8 : Int) < (m : Int)) := by omega
        go_wp2_with fail
        refine bodyPost_ret (v := .tuple #[baZero, .int .i64 30]) (by simp [results, baZero, Try.results16, go_sem, *]) rfl ⟨(((B1.out).setCell (p := ⟨w.heap.size, 0, none⟩) (Nat.le_refl _) _).setCell (p := ⟨w.heap.size, 1, none⟩) (Nat.le_refl _) _).setCell (p := ⟨w.heap.size, 2, none⟩) (Nat.le_refl _) _, .inl ⟨hdn, rfl⟩⟩
    have hm1 : ¬ ((m : Int) < 1) := by omega
    have hm8 : ¬ ((8 : Int) < (m : Int)) := by omega
    cases hho : hoOk h with
    | false =>
      have hdn : decBa s = none := by rw [hd, hnum, hho]; simp
      rw [hho] at c1
      have CH := Lib.hid c1
      clear hd c1 c2 c3 hho hnum z
      go_wp2_with fail
      refine (CH.out _).mono ?_
      rintro e w2 ⟨rfl, rfl⟩
      go_wp2_with fail
      refine bodyPost_ret (v := .tuple #[baZero, .int .i64 30]) (by simp [results, baZero, Try.results16, go_sem, *]) rfl ⟨(((B1.out).setCell (p := ⟨w.heap.size, 0, none⟩) (Nat.le_refl _) _).setCell (p := ⟨w.heap.size, 1, none⟩) (Nat.le_refl _) _).setCell (p := ⟨w.heap.size, 2, none⟩) (Nat.le_refl _) _, .inl ⟨hdn, rfl⟩⟩
    | true =>
      rw [hho] at c1
      have CH := Lib.hid c1
      clear c1
      cases hre : reOk f with
      | false =>
        have hdn : decBa s = none := by rw [hd, hnum, hho, hre]; simp
        rw [hre] at c2
        have CR := Lib.hid c2
        clear hd c2 c3 hho hre hnum z
        go_wp2_with fail
        refine (CH.out _).mono ?_
        rintro e w2 ⟨rfl, rfl⟩
        go_wp2_with fail
        refine (CR.out _).mono ?_
        rintro e w2 ⟨rfl, rfl⟩
        go_wp2_with fail
        refine bodyPost_ret (v := .tuple #[baZero, .int .i64 30]) (by simp [results, baZero, Try.results16, go_sem, *]) rfl ⟨(((B1.out).setCell (p := ⟨w.heap.size, 0, none⟩) (Nat.le_refl _) _).setCell (p := ⟨w.heap.size, 1, none⟩) (Nat.le_refl _) _).setCell (p := ⟨w.heap.size, 2, none⟩) (Nat.le_refl _) _, .inl ⟨hdn, rfl⟩⟩
      | true =>
        rw [hre] at c2
        have CR := Lib.hid c2
        clear c2
        have hf2 : (f : Int) ≤ 2147483647 := by simp [reOk] at hre; omega
        cases hrm : reOk ((f : Int) + (m : Int)) with
        | false =>
          have hdn : decBa s = none := by rw [hd, hnum, hho, hre, hrm]; simp
          rw [hrm] at c3
          have CM := Lib.hid c3
          clear hd c3 hho hre hrm hnum z
          go_wp2_with fail
          refine (CH.out _).mono ?_
          rintro e w2 ⟨rfl, rfl⟩
          go_wp2_with fail
          refine (CR.out _).mono ?_
          rintro e w2 ⟨rfl, rfl⟩
          go_wp2_with fail
          refine (CM.out _).mono ?_
          rintro e w2 ⟨rfl, rfl⟩
          go_wp2_with fail
          refine bodyPost_ret (v := .tuple #[baZero, .int .i64 30]) (by simp [results, baZero, Try.results16, go_sem, *]) rfl ⟨(((B1.out).setCell (p := ⟨w.heap.size, 0, none⟩) (Nat.le_refl _) _).setCell (p := ⟨w.heap.size, 1, none⟩) (Nat.le_refl _) _).setCell (p := ⟨w.heap.size, 2, none⟩) (Nat.le_refl _) _, .inl ⟨hdn, rfl⟩⟩
        | true =>
          rw [hrm] at c3
          have CM := Lib.hid c3
          have E0 : DB w s h f m 0 r [] (.slice none 0 0) w1 := by
            refine ⟨by omega, h4.2, rfl, hsz, World.ownsRow_nil _ _ _ _, z.res, z.at', by omega, z.bel, ?_⟩
            rw [hd, hnum, hho, hre, hrm, decide_eq_true h4]; rfl
          clear hd c3 hho hre hrm hnum z
          go_wp2_with fail
          refine (CH.out _).mono ?_
          rintro e w2 ⟨rfl, rfl⟩
          go_wp2_with fail
          refine (CR.out _).mono ?_
          rintro e w2 ⟨rfl, rfl⟩
          go_wp2_with fail
          refine (CM.out _).mono ?_
          rintro e w2 ⟨rfl, rfl⟩
          go_wp2_with fail
          clear CH CR CM g0 g1 g2 f0 f1 f2 k0 k1 k2 k3 hlt B1 hm1 hm8 hf2 hf hh h4
          go_loopw [6, 53] (fun a i wr => ∃ (k : Nat) (rest : List UInt8) (acc : List Sp) (v : Value), i = .int .i64 k ∧ a = .string ⟨rest.toArray⟩ ∧ DB w s h f m k rest acc v wr) (fun _ i _ => m - (intOf i).toNat)
          case atStart => exact ⟨0, r, [], _, rfl, rfl, E0⟩
          case round =>
            clear E0
            obtain ⟨k, rest, acc, v, rfl, rfl, E⟩ := hrel
            have hk := E.le
            have hm9 := E.small
            by_cases hlt : k < m
            · have hdec := E.dec
              obtain ⟨q, hq⟩ : ∃ q, m - k = q + 1 := ⟨m - k - 1, by omega⟩
              rw [hq] at hdec
              have hsr := E.size
              have h9 := HS.out
              have c1 := fun W => getTextN_any rest 0 W (by omega)
              rw [List.drop_zero] at c1
              obtain ⟨⟨g0, g1, g2⟩, f0, f1, f2⟩ := E.res.facts
              have y2 := E.at'.cell.2.2
              have ff := frozen_of_row wr (w.heap.size + 1) 2 _ _ E.at'
              have hroom := E.room
              have B1 := Lib.hid E.bel
              cases ht : getText rest with
              | none =>
                have hdn : decBa s = none := by rw [hdec, finB_no1 ht]
                rw [ht] at c1
                unfold getTextV at c1
                have c2 := fun W => decodeL_any [] W (by simp)
                rw [decode_nil] at c2
                unfold decodeV spVal Sp.zero at c2
                have C1 := Lib.hid c1
                have C2 := Lib.hid c2
                have EE := Lib.hid E
                clear c1 c2 hdec E B1 y2 ff g0 g1 g2 f0 f1 f2
                go_wp2_with fail
                refine (C1.out _).mono ?_
                rintro e w2 ⟨rfl, rfl⟩
                go_wp2_with fail
                refine (C2.out _).mono ?_
                rintro e w3 ⟨rfl, b3⟩
                have E3 := EE.out.later b3
                have hr3 := E3.room
                obtain ⟨⟨g0, g1, g2⟩, f0, f1, f2⟩ := E3.res.facts
                have hlt0 : w.heap.size < w3.heap.size := by omega
                have B3 := Lib.hid (E3.bel)
                clear E3 b3 EE
                go_wp2_with fail
                refine bodyPost_ret (v := .tuple #[baZero, .int .i64 30]) (by simp [results, baZero, Try.results16, go_sem, *]) rfl ⟨(((B3.out.setCell (p := ⟨w.heap.size, 0, none⟩) (Nat.le_refl _) _).setCell (p := ⟨w.heap.size, 1, none⟩) (Nat.le_refl _) _).setCell (p := ⟨w.heap.size, 2, none⟩) (Nat.le_refl _) _).alloc (by simp; omega) _, .inl ⟨hdn, rfl⟩⟩
              | some q1 =>
                obtain ⟨t, j⟩ := q1
                obtain ⟨gk, gl, _⟩ := getText_some ht
                rw [ht] at c1
                unfold getTextV at c1
                have C1 := Lib.hid c1
                have c2 := fun W => decodeL_any t W (by omega)
                cases hx : decodeSp t with
                | none =>
                  have hdn : decBa s = none := by rw [hdec, finB_no2 ht hx]
                  rw [hx] at c2
                  unfold decodeV spVal Sp.zero at c2
                  have C2 := Lib.hid c2
                  have EE := Lib.hid E
                  clear c1 c2 hdec E B1 y2 ff g0 g1 g2 f0 f1 f2
                  go_wp2_with fail
                  refine (C1.out _).mono ?_
                  rintro e w2 ⟨rfl, rfl⟩
                  go_wp2_with fail
                  refine (C2.out _).mono ?_
                  rintro e w3 ⟨rfl, b3⟩
                  have E3 := EE.out.later b3
                  have hr3 := E3.room
                  obtain ⟨⟨g0, g1, g2⟩, f0, f1, f2⟩ := E3.res.facts
                  have hlt0 : w.heap.size < w3.heap.size := by omega
                  have B3 := Lib.hid (E3.bel)
                  clear E3 b3 EE
                  go_wp2_with fail
                  refine bodyPost_ret (v := .tuple #[baZero, .int .i64 30]) (by simp [results, baZero, Try.results16, go_sem, *]) rfl ⟨(((B3.out.setCell (p := ⟨w.heap.size, 0, none⟩) (Nat.le_refl _) _).setCell (p := ⟨w.heap.size, 1, none⟩) (Nat.le_refl _) _).setCell (p := ⟨w.heap.size, 2, none⟩) (Nat.le_refl _) _).alloc (by simp; omega) _, .inl ⟨hdn, rfl⟩⟩
                | some x =>
                  rw [hx] at c2
                  unfold decodeV spVal at c2
                  have C2 := Lib.hid c2
                  have EE := Lib.hid E
                  have HT := Lib.hid ht
                  have HX := Lib.hid hx
                  clear c1 c2 hdec E B1 y2 ff g0 g1 g2 f0 f1 f2 ht hx
                  go_wp2_with fail
                  refine (C1.out _).mono ?_
                  rintro e w2 ⟨rfl, rfl⟩
                  go_wp2_with fail
                  refine (C2.out _).mono ?_
                  rintro e w3 ⟨rfl, b3⟩
                  have b4 := (Below.refl w3.heap.size w3).alloc (Nat.le_refl _) (.cells #[.int .i64 x.tr, .int .i64 x.id, .int .i64 x.pa, .string ⟨x.sv.toArray⟩, .string ⟨x.ho.toArray⟩, .int .i64 x.st, .int .i64 x.du, .string ⟨x.no.toArray⟩] 29)
                  have E3 := (EE.out.later b3).later b4
                  have hr3 := (EE.out.later b3).room
                  have q4 := SpAt.boxed x w3
                  have Q4 := Lib.hid q4
                  have B4 := Lib.hid b4
                  have E4 := Lib.hid E3
                  have hlt0 : w3.heap.size ≠ w.heap.size + 1 := by omega
                  have z2 := E3.at'.cell.2.2
                  have z2f := frozen_of_row _ (w.heap.size + 1) 2 _ _ E3.at'
                  have hs4 : (w3.alloc (.cells #[.int .i64 x.tr, .int .i64 x.id, .int .i64 x.pa, .string ⟨x.sv.toArray⟩, .string ⟨x.ho.toArray⟩, .int .i64 x.st, .int .i64 x.du, .string ⟨x.no.toArray⟩] 29)).heap.size = w3.heap.size + 1 := by simp
                  have HS4 := Lib.hid hs4
                  have hacc := E3.len
                  have hmaxl : acc.length + 1 ≤ maxLen := by unfold maxLen; omega
                  have hbd : (acc.length + 1) * 88 ≤ 140737488355328 := by omega
                  have DK := Lib.hid hlt
                  clear E3 b3 EE b4 q4 hs4 C1 C2
                  go_wp2_with fail
                  obtain ⟨i0, hi, hz0, hz1, hz2⟩ := info_parts info_sp
                  generalize hw4 : w3.alloc _ = w4 at *
                  obtain ⟨x0, x1, x2, x3, x4, x5, x6, x7⟩ := Q4.out.cell
                  have hlt1 : w3.heap.size < w4.heap.size := by have := HS4.out; omega
                  have hlt2 : w.heap.size + 1 < w4.heap.size := by have := HS4.out; omega
                  clear hw4
                  go_region_law (refine step_append_lies _ rfl _ _ 22 rfl (w.heap.size + 4) 29 i0 (.agg #[.int .i64 0, .int .i64 0, .int .i64 0, .string ⟨#[]⟩, .string ⟨#[]⟩, .int .i64 0, .int .i64 0, .string ⟨#[]⟩]) 8 88 Try.underlying22 hi hz0 hz1 hz2 rfl (by decide) v acc.length (rowS acc) rfl ((own_laterS E4.out.own (Below.refl _ _).drew).alloc _) ⟨w4.heap.size, 0, none⟩ 1 1 (spRow x) rfl rfl (World.news_of_block (heap_alloc_new w4.drew _)) (spRow_one x) (by decide) hmaxl hbd (by simp; omega) _ rfl ?_; intro g cap w5 own5 gr5 _ hlt5; have q5 : BaAt (w.heap.size + 1) ⟨(h : Int), (f : Int), []⟩ v w5 := (E4.out.blk gr5 _ (by omega)).trans E4.out.at'; have zz := q5.cell.2.2; have zf := q5.frees.2.2; have E5 := Lib.hid (E4.out.step (DK.out) HT.out HX.out gr5 own5))
                  all_goals
                    go_wp2_with fail
                    go_roundw
                    case rel => exact ⟨k + 1, rest.drop j, acc ++ [x], _, by go_num, by rw [extract_bytes]; simp [List.take_of_length_le], by have := E5.out; rw [hacc] at this; exact this⟩
                    case measure => simp [intOf]; omega
            · obtain rfl : k = m := by omega
              have hfin := E.fin
              obtain ⟨⟨g0, g1, g2⟩, f0, f1, f2⟩ := E.res.facts
              obtain ⟨y0, y1, y2⟩ := E.at'.cell
              have B1 := Lib.hid E.bel
              have hroom := E.room
              cases rest with
              | cons c l =>
                have hdn : decBa s = none := by rw [hfin]
                clear E hfin
                go_wp2_with fail
                refine bodyPost_ret (v := .tuple #[baZero, .int .i64 30]) (by simp [results, baZero, Try.results16, go_sem, *]) rfl ⟨(((B1.out).setCell (p := ⟨w.heap.size, 0, none⟩) (Nat.le_refl _) _).setCell (p := ⟨w.heap.size, 1, none⟩) (Nat.le_refl _) _).setCell (p := ⟨w.heap.size, 2, none⟩) (Nat.le_refl _) _, .inl ⟨hdn, rfl⟩⟩
              | nil =>
                simp only at hfin
                have HF := Lib.hid hfin
                obtain ⟨A, cap, rfl, _⟩ := slS_own E.own
                have EE := Lib.hid E
                clear E hfin
                go_wp2_with fail
                have hne : ∀ i, i = w.heap.size → (Value.slice A acc.length cap).ownBlock ≠ some i := fun i hi e => by have := (EE.out.own.lt i e).1; omega
                exact bodyPost_ret (v := .tuple #[baVal ⟨(h : Int), (f : Int), acc⟩ (.slice A acc.length cap), .int .i64 0]) (by simp [results, baVal, Try.results16, go_sem, *]) rfl
                  ⟨((B1.out.setCell (p := ⟨w.heap.size, 0, none⟩) (Nat.le_refl _) _).setCell (p := ⟨w.heap.size, 1, none⟩) (Nat.le_refl _) _).setCell (p := ⟨w.heap.size, 2, none⟩) (Nat.le_refl _) _, .inr ⟨_, _, HF.out, rfl,
                    ownsRow_setCell_other (ownsRow_setCell_other (ownsRow_setCell_other (EE.out.own.mono (by omega)) (a := ⟨w.heap.size, 0, none⟩) (hne _ rfl) _) (a := ⟨w.heap.size, 1, none⟩) (hne _ rfl) _) (a := ⟨w.heap.size, 2, none⟩) (hne _ rfl) _⟩⟩
end Go.Proofs.Ytheeekmhmbkncaa
