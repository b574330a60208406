/- The reference's Cut, Join; laid. -/
import Derived.Test.YtpcapifjbhaeeaaMemT
import Derived.Deep.AppendLies
namespace Go.Proofs.Ytpcapifjbhaeeaa
set_option maxRecDepth 16000
open Go.RowKit Spoor
set_option linter.unusedVariables false

theorem RefM.of_own {r base : Nat} {L : List Ce} {v : Value} {w : World} (h : w.heap[r]? = some (.cells #[v] 29 (0, 0))) (own : w.ownsRow base 33 3 v L.length (rowOf L)) :
    ∃ fs, RefM r L fs w ∧ ∀ x ∈ fs, x = r ∨ (v.ownBlock = some x ∧ base ≤ x) := by
  have hrl := (Array.getElem?_eq_some_iff.1 h).1
  obtain ⟨A, cap, rfl, h1, h2, h3⟩ := slAt_own own
  rcases Nat.eq_zero_or_pos L.length with h0 | h0
  · refine ⟨[r], ⟨A, cap, h, by simp, fun x hx => by rw [List.mem_singleton] at hx; omega, h1, h2, fun _ => ?_, fun h => by omega⟩, fun x hx => .inl (by simpa using hx)⟩
    rcases own.2 with ⟨e, _⟩ | ⟨g, cap', cur, e, _⟩
    · injection e with e1 e2 e3
      exact .inl ⟨e1, e3⟩
    · injection e with e1 e2 e3
      exact .inr ⟨g, e1⟩
  · obtain ⟨b, o, rfl, hrow⟩ := h3 h0
    refine ⟨[r, b], ⟨_, cap, h, by simp, fun x hx => ?_, h1, h2, fun h => by omega, fun _ => ⟨b, o, rfl, by simp, hrow⟩⟩, fun x hx => ?_⟩
    · rcases List.mem_cons.1 hx with rfl | hx
      · exact hrl
      · rw [List.mem_singleton] at hx
        subst hx
        exact hrow.1
    · rcases List.mem_cons.1 hx with rfl | hx
      · exact .inl rfl
      · rw [List.mem_singleton] at hx
        subst hx
        refine .inr ⟨rfl, ?_⟩
        rcases own.2 with ⟨_, e⟩ | ⟨g, cap', cur, e, hg, _⟩
        · omega
        · injection e with e1 e2 e3
          injection e1 with e4
          injection e4 with e5
          omega
theorem run_append_at {base : Nat} {v u : Value} {l m : List Ce} {w : World} (own : w.ownsRow base 33 3 v l.length (rowOf l)) (hb : base ≤ w.heap.size) (hu : SlAt u m w) (hm0 : 0 < m.length) (hsz : l.length + m.length ≤ 100000) :
    ∃ v' w', (Builtin.append_ #[22, 22] 22 #[v, u]).run Try.prog w = .ok v' w' ∧ w'.ownsRow base 33 3 v' (l ++ m).length (rowOf (l ++ m)) ∧ Below base w w' ∧ (∀ k, k < w.heap.size → some k ≠ v.ownBlock → w'.heap[k]? = w.heap[k]?) ∧ (v'.ownBlock = v.ownBlock ∨ v'.ownBlock = some w.heap.size) := by
  obtain ⟨j0, gi, gz0, gz1, gz2⟩ := info_one info_ce
  obtain ⟨A, cap, rfl, h1, h2, h3⟩ := hu
  obtain ⟨b, o, rfl, hrow⟩ := h3 hm0
  obtain ⟨v', w', hr, r1, r2, -, r4⟩ := run_append_own_at (P := Try.prog) w base 22 22 33 j0 _ 3 40 Try.underlying22 gi gz0 gz1 gz2 rfl (by decide) v l.length (rowOf l) own ⟨b, o, none⟩ m.length cap (rowOf m) (rowOf_length m)
    (row_all hrow) (rowOf_one m) (by unfold maxLen; omega) (by omega) hb
  refine ⟨v', w', hr, ?_, ?_, r2.block, r4⟩
  · rw [List.length_append]
    have : rowOf (l ++ m) = rowOf l ++ rowOf m := by simp [rowOf]
    rw [this]
    exact r1
  · refine (Below.refl base w).grown r2 hb fun k hk => ?_
    rcases own.2 with ⟨rfl, _⟩ | ⟨g, c, cur, rfl, hg, _⟩
    · simp [Value.ownBlock] at hk
    · have : g = k := by simpa [Value.ownBlock] using hk
      omega
theorem own_lt {base : Nat} {v : Value} {n : Nat} {xs : List Value} {w : World} {e : TypeId} (h : w.ownsRow base e 3 v n xs) {k : Nat} (hk : v.ownBlock = some k) : base ≤ k ∧ k < w.heap.size := by
  rcases h.2 with ⟨rfl, _⟩ | ⟨g, cap, cur, rfl, hb, hg, h4⟩
  · simp [Value.ownBlock] at hk
  · obtain rfl : g = k := by simpa [Value.ownBlock] using hk
    exact ⟨hb, (Array.getElem?_eq_some_iff.1 hg).1⟩
/-- two of the reference's memories that grow beside one another: their cells at p and q, their rows in blocks from base on -/
structure Par (p q base : Nat) (va vb : Value) (La Lb : List Ce) (lo : Nat) (w0 W : World) : Prop where
  hp : W.heap[p]? = some (.cells #[va] 29 (0, 0))
  hq : W.heap[q]? = some (.cells #[vb] 29 (0, 0))
  ne : p ≠ q
  pl : p < base
  ql : q < base
  bs : base ≤ W.heap.size
  oa : W.ownsRow base 33 3 va La.length (rowOf La)
  ob : W.ownsRow base 33 3 vb Lb.length (rowOf Lb)
  ap : ∀ k, va.ownBlock = some k → vb.ownBlock ≠ some k
  bl : Below lo w0 W
  lp : lo ≤ p
  lq : lo ≤ q
theorem Par.symm {p q base : Nat} {va vb : Value} {La Lb : List Ce} {lo : Nat} {w0 W : World} (h : Par p q base va vb La Lb lo w0 W) : Par q p base vb va Lb La lo w0 W :=
  ⟨h.hq, h.hp, fun e => h.ne e.symm, h.ql, h.pl, h.bs, h.ob, h.oa, fun k hk hm => h.ap k hm hk, h.bl, h.lq, h.lp⟩
theorem Par.later {p q base : Nat} {va vb : Value} {La Lb : List Ce} {lo : Nat} {w0 W W' : World} (h : Par p q base va vb La Lb lo w0 W) (hlo : lo ≤ W.heap.size) (hb : Below W.heap.size W W') : Par p q base va vb La Lb lo w0 W' :=
  ⟨(hb.block p (Nat.lt_of_lt_of_le h.pl h.bs)).trans h.hp, (hb.block q (Nat.lt_of_lt_of_le h.ql h.bs)).trans h.hq, h.ne, h.pl, h.ql, Nat.le_trans h.bs hb.size, own_same h.oa (fun k hk => hb.block k (own_lt h.oa hk).2), own_same h.ob (fun k hk => hb.block k (own_lt h.ob hk).2), h.ap, h.bl.trans (hb.mono hlo), h.lp, h.lq⟩
theorem Par.add {p q base : Nat} {va vb : Value} {La Lb : List Ce} {lo : Nat} {w0 W : World} (h : Par p q base va vb La Lb lo w0 W) (hlo : lo ≤ base) (d : Ce) (hsz : La.length ≤ 1000) :
    ∃ v' W', (Builtin.append_ #[22, 22] 22 #[va, .slice (some ⟨W.heap.size, 0, none⟩) 1 1]).run Try.prog (W.alloc (boxC d)) = .ok v' W' ∧ Below base W W' ∧ W'.heap[p]? = some (.cells #[va] 29 (0, 0)) ∧
      Par p q base v' vb (La ++ [d]) Lb lo w0 (W'.setCell ⟨p, 0, none⟩ v') := by
  have nb := (Below.refl W.heap.size W).alloc (Nat.le_refl _) (boxC d)
  have hg : (W.alloc (boxC d)).heap[W.heap.size]? = some (boxC d) := heap_alloc_new W _
  have h1 := h.later (Nat.le_trans hlo h.bs) nb
  obtain ⟨v', W', hr, own, b1, keep, at'⟩ := run_append_at h1.oa h1.bs (sl_box hg) (by simp) (by simp only [List.length_cons, List.length_nil]; omega)
  have hp1 : W'.heap[p]? = some (.cells #[va] 29 (0, 0)) := (b1.block p h1.pl).trans h1.hp
  have hq1 : W'.heap[q]? = some (.cells #[vb] 29 (0, 0)) := (b1.block q h1.ql).trans h1.hq
  have b2 := (nb.mono h.bs).trans b1
  have hbs : base ≤ W'.heap.size := Nat.le_trans h1.bs b1.size
  refine ⟨v', W', hr, b2, hp1, ?_, ?_, h.ne, h.pl, h.ql, by simpa [World.setCell] using hbs, ?_, ?_, ?_, ?_, h.lp, h.lq⟩
  · rw [heap_setCell_same W' p 0 _ _ v' hp1]
    rfl
  · rw [Below.heap_setCell W' ⟨p, 0, none⟩ v' q (fun e => h.ne e.symm)]
    exact hq1
  · exact own_same own (fun k hk => Below.heap_setCell W' ⟨p, 0, none⟩ v' k (fun e => by have := (own_lt own hk).1; have := h.pl; simp at e; omega))
  · refine own_same h1.ob (fun k hk => ?_)
    have h2 := own_lt h1.ob hk
    rw [Below.heap_setCell W' ⟨p, 0, none⟩ v' k (fun e => by have := h2.1; have := h.pl; simp at e; omega)]
    exact keep k h2.2 (fun e => h1.ap k e.symm hk)
  · intro k hk hm
    rcases at' with e | e
    · exact h1.ap k (by rw [← e]; exact hk) hm
    · rw [hk] at e
      have := (own_lt h1.ob hm).2
      injection e with e
      omega
  · exact (h.bl.trans (b2.mono hlo)).trans (below_set (Below.refl lo W') h.lp 0 v')
theorem low_take {L : List Ce} {key : List UInt8} {k : Nat} (hk : k < L.length) : lowC (L.take (k + 1)) key = lowC (L.take k) key ++ (if Op.bytesLess (L.getD k Ce.zero).k key then [L.getD k Ce.zero] else []) := by
  rw [List.take_succ_eq_append_getElem hk]
  have hg : L.getD k Ce.zero = L[k] := by simp [List.getD, hk]
  rw [hg]
  unfold lowC
  rw [List.filter_append]
  congr 1
  by_cases h : Op.bytesLess L[k].k key = true
  · rw [if_pos h]; simp [h]
  · rw [if_neg h]; simp [h]
theorem high_take {L : List Ce} {key : List UInt8} {k : Nat} (hk : k < L.length) : highC (L.take (k + 1)) key = highC (L.take k) key ++ (if Op.bytesLess (L.getD k Ce.zero).k key then [] else [L.getD k Ce.zero]) := by
  rw [List.take_succ_eq_append_getElem hk]
  have hg : L.getD k Ce.zero = L[k] := by simp [List.getD, hk]
  rw [hg]
  unfold highC
  rw [List.filter_append]
  congr 1
  by_cases h : Op.bytesLess L[k].k key = true
  · rw [if_pos h]; simp [h]
  · rw [if_neg h]; simp [h]
set_option maxRecDepth 100000 in
set_option maxHeartbeats 8000000 in
theorem refCutM_any (r : Nat) (L : List Ce) (fs : List Nat) (key : List UInt8) (w : World) (M : RefM r L fs w) (hbig : L.length ≤ 1000) :
    Calls Try.prog 21 #[.pointer (some ⟨r, 0, none⟩), .string ⟨key.toArray⟩] w fun e w' => ∃ pa fa pb fb, e = .returned (.tuple #[.pointer (some ⟨pa, 0, none⟩), .pointer (some ⟨pb, 0, none⟩)]) ∧
      RefM pa (lowC L key) fa w' ∧ RefM pb (highC L key) fb w' ∧ (∀ x ∈ fa, w.heap.size ≤ x) ∧ (∀ x ∈ fb, w.heap.size ≤ x) ∧ (∀ x ∈ fa, x ∉ fb) ∧ Below w.heap.size w w' := by
  obtain ⟨A, cap, h1, -, -, h4, h5, -, h7⟩ := M
  obtain ⟨n, hn⟩ : ∃ n, L.length = n := ⟨_, rfl⟩
  have HN := Lib.hid hn
  rw [hn] at h1 h4 h7 hbig
  have hrl := (Array.getElem?_eq_some_iff.1 h1).1
  have H1 := Lib.hid h1
  have h5' : cap ≤ 9223372036854775807 := by unfold maxLen at h5; omega
  have H7 := Lib.hid (fun (h0 : 0 < n) => h7 h0)
  have b1 := (Below.refl w.heap.size w).alloc (Nat.le_refl _) (.cells #[.slice none 0 0] 29)
  have b2 := b1.alloc b1.size (.cells #[.slice none 0 0] 29)
  have g1 := heap_alloc_new w (.cells #[.slice none 0 0] 29)
  have g2 := heap_alloc_new (w.alloc (.cells #[.slice none 0 0] 29)) (.cells #[.slice none 0 0] 29)
  have g3 := Below.heap_alloc (w.alloc (.cells #[.slice none 0 0] 29)) (.cells #[.slice none 0 0] 29) w.heap.size (by simp)
  rw [← g3] at g1
  have hs1 : (w.alloc (.cells #[.slice none 0 0] 29)).heap.size = w.heap.size + 1 := by simp
  rw [hs1] at g2
  have P0 : Par w.heap.size (w.heap.size + 1) (w.heap.size + 2) (.slice none 0 0) (.slice none 0 0) [] [] w.heap.size w ((w.alloc (.cells #[.slice none 0 0] 29)).alloc (.cells #[.slice none 0 0] 29)) :=
    ⟨g1, g2, by omega, by omega, by omega, by simp, World.ownsRow_nil _ _ _ _, World.ownsRow_nil _ _ _ _, fun k hk => by simp [Value.ownBlock] at hk, b2, Nat.le_refl _, by omega⟩
  have HP0 := Lib.hid P0
  clear h1 h5 h7 hn b1 b2 g1 g2 g3 hs1 P0
  go_enter Try.func21, Try.ntmps21
  go_wp2_with fail
  generalize (w.alloc _).alloc _ = wA at *
  obtain ⟨pa, hpa⟩ : ∃ pa, w.heap.size = pa := ⟨_, rfl⟩
  obtain ⟨pb, hpb⟩ : ∃ pb, pa + 1 = pb := ⟨_, rfl⟩
  obtain ⟨base, hba⟩ : ∃ base, pa + 2 = base := ⟨_, rfl⟩
  rw [hpa] at HP0 ⊢
  rw [hpb, hba] at HP0
  rw [hpb]
  have HPA := Lib.hid (And.intro hpa (And.intro hpb hba))
  have hrb : r < base := by omega
  have HLB := Lib.hid (show pa ≤ base by omega)
  clear hpb hba
  go_loopw [8] (fun i wr => ∃ k : Nat, i = .int .i64 k ∧ k ≤ n ∧ Hid (∃ va vb, Par pa pb base va vb (lowC (L.take k) key) (highC (L.take k) key) pa w wr)) (fun i _ => n - (intOf i).toNat)
  case atStart => exact ⟨0, rfl, by omega, Lib.hid ⟨_, _, HP0.out⟩⟩
  case round =>
    obtain ⟨k, rfl, hk, HPE⟩ := hrel
    clear HP0
    obtain ⟨va, vb, hp⟩ := HPE.out
    have HP := Lib.hid hp
    clear hp HPE
    have h1 := (HP.out.bl.block r (by have := HPA.out.1; omega)).trans H1.out
    have hcr : wr.cell? ⟨r, 0, none⟩ = some (.slice A n cap) := by simp [World.cell?, h1]
    clear h1
    by_cases hlt : k < n
    · have hkl : k < L.length := by rw [HN.out]; exact hlt
      obtain ⟨b, o, rfl, -, hrow⟩ := H7.out (by omega)
      have hbb : b < base := by have := hrow.1; obtain ⟨q1, q2, q3⟩ := HPA.out; omega
      have hrow2 := hrow.later HP.out.bl (by have := hrow.1; have := HPA.out.1; omega)
      obtain ⟨x0, x1, x2⟩ := hrow2.cells hkl
      obtain ⟨d, hd⟩ : ∃ d, L.getD k Ce.zero = d := ⟨_, rfl⟩
      rw [hd] at x0 x1 x2
      have hn1 := low_take (key := key) hkl
      have hn2 := high_take (key := key) hkl
      rw [hd] at hn1 hn2
      have HSZ := Lib.hid (show (lowC (L.take k) key).length ≤ 1000 ∧ (highC (L.take k) key).length ≤ 1000 from by
        have e1 := List.length_filter_le (fun c : Ce => Op.bytesLess c.k key) (L.take k)
        have e3 := List.length_filter_le (fun c : Ce => !Op.bytesLess c.k key) (L.take k)
        have e2 : (L.take k).length ≤ L.length := (List.take_sublist k L).length_le
        unfold lowC highC
        have := HN.out
        omega)
      clear hrow hrow2 hd
      cases hb : Op.bytesLess d.k key with
      | true =>
        rw [hb] at hn1 hn2
        have HNX := Lib.hid (show lowC (L.take (k + 1)) key = lowC (L.take k) key ++ [d] ∧ highC (L.take (k + 1)) key = highC (L.take k) key from ⟨by simpa using hn1, by simpa using hn2⟩)
        clear hn1 hn2
        go_wp2_with fail
        have bz := Below.drew (Below.refl wr.heap.size wr)
        have PR := HP.out.later (Nat.le_trans HLB.out HP.out.bs) bz
        have hS : wr.drew.cell? ⟨pa, 0, none⟩ = some va ∧ wr.drew.cell? ⟨r, 0, none⟩ = some (.slice (some ⟨b, o, none⟩) n cap) ∧ wr.drew.cell? ⟨b, o + k * 3, none⟩ = some (.string ⟨d.k.toArray⟩) ∧ wr.drew.cell? ⟨b, o + k * 3 + 1, none⟩ = some (.int .i64 d.q) ∧ wr.drew.cell? ⟨b, o + k * 3 + 2, none⟩ = some (.string ⟨d.v.toArray⟩) := ⟨by have := PR.hp; simp [World.cell?, this], hcr, x0, x1, x2⟩
        have HZ := Lib.hid (And.intro (show r < base from hrb) (show b < base from hbb))
        clear x0 x1 x2 hcr HP bz
        refine (wpIn_wide (n := 5)).1 ?_
        refine wpIn_region_lit_late (fun w' => w'.cell? ⟨pa, 0, none⟩ = some va ∧ w'.cell? ⟨r, 0, none⟩ = some (.slice (some ⟨b, o, none⟩) n cap) ∧ w'.cell? ⟨b, o + k * 3, none⟩ = some (.string ⟨d.k.toArray⟩) ∧ w'.cell? ⟨b, o + k * 3 + 1, none⟩ = some (.int .i64 d.q) ∧ w'.cell? ⟨b, o + k * 3 + 2, none⟩ = some (.string ⟨d.v.toArray⟩)) (fun j => j == 16) (k := 17) (listed := #[false, false, false, false, false, false, false, false, false, false, false, false, false, false, false, false, false]) (by kernel_rfl) (by kernel_rfl) (by kernel_rfl) ?_
        generalize wr.drew = wz at *
        refine AnyS.get (i := 0) (some 32) ?_ rfl rfl (by kernel_rfl) (by kernel_rfl) (by kernel_rfl) (by kernel_rfl) (fun _ _ _ h => h) (Reads.yes (by kernel_rfl) ?_ (fun _ => rfl)) hS ?_
        rotate_left
        · intro w' hw'
          go_simp
          with_reducible rfl
        simp only [Act.put, List.setIfInBounds_toArray, List.set_cons_succ, List.set_cons_zero]
        refine AnyS.get (i := 1) (some 33) ?_ rfl rfl (by kernel_rfl) (by kernel_rfl) (by kernel_rfl) (by kernel_rfl) (fun _ _ _ h => h) (Reads.yes (by kernel_rfl) ?_ (fun _ => rfl)) hS ?_
        rotate_left
        · intro w' hw'
          go_simp
          with_reducible rfl
        simp only [Act.put, List.setIfInBounds_toArray, List.set_cons_succ, List.set_cons_zero]
        refine AnyS.get (i := 2) (some 34) ?_ rfl rfl (by kernel_rfl) (by kernel_rfl) (by kernel_rfl) (by kernel_rfl) (fun _ _ _ h => h) (Reads.yes (by kernel_rfl) ?_ (fun _ => rfl)) hS ?_
        rotate_left
        · intro w' hw'
          go_simp
          with_reducible rfl
        simp only [Act.put, List.setIfInBounds_toArray, List.set_cons_succ, List.set_cons_zero]
        refine AnyS.get (i := 3) (some 35) ?_ rfl rfl (by kernel_rfl) (by kernel_rfl) (by kernel_rfl) (by kernel_rfl) (fun _ _ _ h => h) (Reads.yes (by kernel_rfl) ?_ (fun _ => rfl)) hS ?_
        rotate_left
        · intro w' hw'
          go_simp
          with_reducible rfl
        simp only [Act.put, List.setIfInBounds_toArray, List.set_cons_succ, List.set_cons_zero]
        refine AnyS.get (i := 4) (some 36) ?_ rfl rfl (by kernel_rfl) (by kernel_rfl) (by kernel_rfl) (by kernel_rfl) (fun _ _ _ h => h) (Reads.yes (by kernel_rfl) ?_ (fun _ => rfl)) hS ?_
        rotate_left
        · intro w' hw'
          obtain ⟨t1, t2, t3, t4, t5⟩ := hw'
          go_simp
          with_reducible rfl
        simp only [Act.put, List.setIfInBounds_toArray, List.set_cons_succ, List.set_cons_zero]
        refine AnyS.get (i := 5) (some 37) ?_ rfl rfl (by kernel_rfl) (by kernel_rfl) (by kernel_rfl) (by kernel_rfl) (fun _ _ _ h => h) (Reads.yes (by kernel_rfl) ?_ (fun _ => rfl)) hS ?_
        rotate_left
        · intro w' hw'
          go_simp
          with_reducible rfl
        simp only [Act.put, List.setIfInBounds_toArray, List.set_cons_succ, List.set_cons_zero]
        refine AnyS.get (i := 6) (some 38) ?_ rfl rfl (by kernel_rfl) (by kernel_rfl) (by kernel_rfl) (by kernel_rfl) (fun _ _ _ h => h) (Reads.yes (by kernel_rfl) ?_ (fun _ => rfl)) hS ?_
        rotate_left
        · intro w' hw'
          go_simp
          with_reducible rfl
        simp only [Act.put, List.setIfInBounds_toArray, List.set_cons_succ, List.set_cons_zero]
        refine AnyS.get (i := 7) (some 39) ?_ rfl rfl (by kernel_rfl) (by kernel_rfl) (by kernel_rfl) (by kernel_rfl) (fun _ _ _ h => h) (Reads.yes (by kernel_rfl) ?_ (fun _ => rfl)) hS ?_
        rotate_left
        · intro w' hw'
          go_simp
          with_reducible rfl
        simp only [Act.put, List.setIfInBounds_toArray, List.set_cons_succ, List.set_cons_zero]
        refine AnyS.get (i := 8) (some 40) ?_ rfl rfl (by kernel_rfl) (by kernel_rfl) (by kernel_rfl) (by kernel_rfl) (fun _ _ _ h => h) (Reads.yes (by kernel_rfl) ?_ (fun _ => rfl)) hS ?_
        rotate_left
        · intro w' hw'
          obtain ⟨t1, t2, t3, t4, t5⟩ := hw'
          go_simp
          with_reducible rfl
        simp only [Act.put, List.setIfInBounds_toArray, List.set_cons_succ, List.set_cons_zero]
        refine AnyS.get (i := 9) (some 41) ?_ rfl rfl (by kernel_rfl) (by kernel_rfl) (by kernel_rfl) (by kernel_rfl) (fun _ _ _ h => h) (Reads.yes (by kernel_rfl) ?_ (fun _ => rfl)) hS ?_
        rotate_left
        · intro w' hw'
          go_simp
          with_reducible rfl
        simp only [Act.put, List.setIfInBounds_toArray, List.set_cons_succ, List.set_cons_zero]
        refine AnyS.get (i := 10) (some 42) ?_ rfl rfl (by kernel_rfl) (by kernel_rfl) (by kernel_rfl) (by kernel_rfl) (fun _ _ _ h => h) (Reads.yes (by kernel_rfl) ?_ (fun _ => rfl)) hS ?_
        rotate_left
        · intro w' hw'
          go_simp
          with_reducible rfl
        simp only [Act.put, List.setIfInBounds_toArray, List.set_cons_succ, List.set_cons_zero]
        refine AnyS.get (i := 11) (some 43) ?_ rfl rfl (by kernel_rfl) (by kernel_rfl) (by kernel_rfl) (by kernel_rfl) (fun _ _ _ h => h) (Reads.yes (by kernel_rfl) ?_ (fun _ => rfl)) hS ?_
        rotate_left
        · intro w' hw'
          obtain ⟨t1, t2, t3, t4, t5⟩ := hw'
          go_simp
          with_reducible rfl
        simp only [Act.put, List.setIfInBounds_toArray, List.set_cons_succ, List.set_cons_zero]
        obtain ⟨v', W', run, bw, hpw, PN⟩ := PR.add HLB.out d HSZ.out.1
        obtain ⟨g', nn, cap2, rfl⟩ : ∃ g' nn cap2, v' = .slice (some ⟨g', 0, none⟩) nn cap2 := by
          obtain ⟨g', cap2, e, -⟩ := rowW_own' PN.oa (by simp)
          exact ⟨g', _, cap2, e⟩
        have RUN := Lib.hid run
        have hS1 := fun W2 (hb : Below base wz W2) (hp2 : W2.cell? ⟨pa, 0, none⟩ = some va) => And.intro hp2 (And.intro ((hb.cell (p := ⟨r, 0, none⟩) HZ.out.1).trans hS.2.1) (And.intro ((hb.cell (p := ⟨b, o + k * 3, none⟩) HZ.out.2).trans hS.2.2.1) (And.intro ((hb.cell (p := ⟨b, o + k * 3 + 1, none⟩) HZ.out.2).trans hS.2.2.2.1) ((hb.cell (p := ⟨b, o + k * 3 + 2, none⟩) HZ.out.2).trans hS.2.2.2.2))))
        have HS1 := Lib.hid hS1
        have nb := (Below.refl wz.heap.size wz).alloc (Nat.le_refl _) (boxC d)
        have hpn : (wz.alloc (boxC d)).cell? ⟨pa, 0, none⟩ = some va := (nb.cell (p := ⟨pa, 0, none⟩) (Nat.lt_of_lt_of_le PR.pl PR.bs)).trans hS.1
        have HSB := Lib.hid (HS1.out _ (nb.mono PR.bs) hpn)
        have hcw : W'.cell? ⟨pa, 0, none⟩ = some va := by simp [World.cell?, hpw]
        have hfw : W'.frozen? ⟨pa, 0, none⟩ = false := by simp [World.frozen?, hpw]
        have HSW := Lib.hid (HS1.out _ bw hcw)
        have HPN := Lib.hid PN
        clear run hS1 HS1 nb hpn hS PR bw hpw PN
        unfold boxC at RUN HSB
        refine AnyS.next (i := 12) rfl (by kernel_rfl) (by kernel_rfl) fun K' hK' => ?_
        refine want_yes (by kernel_rfl) ?_
        go_simp
        refine hK' _ _ (fun _ => HSB.out) ?_
        clear hK' K' HSB
        simp only [Act.put, List.setIfInBounds_toArray, List.set_cons_succ, List.set_cons_zero]
        refine AnyS.next (i := 13) rfl (by kernel_rfl) (by kernel_rfl) fun K' hK' => ?_
        refine want_yes (by kernel_rfl) ?_
        simp only [List.getElem_toArray, List.getElem_cons_succ, List.getElem_cons_zero]
        refine opIn_value _ (fun c h => by cases h) rfl (exec_append (s := .tmp 36) (x := .tmp 44) rfl rfl rfl RUN.out) ?_
        refine hK' _ _ (fun _ => HSW.out) ?_
        clear hK' K' RUN
        simp only [Act.put, List.setIfInBounds_toArray, List.set_cons_succ, List.set_cons_zero]
        refine AnyS.next (i := 14) rfl (by kernel_rfl) (by kernel_rfl) fun K' hK' => ?_
        refine want_yes (by kernel_rfl) ?_
        go_simp
        refine hK' _ _ (fun _ => HSW.out) ?_
        clear hK' K'
        simp only [Act.put, List.setIfInBounds_toArray, List.set_cons_succ, List.set_cons_zero]
        refine AnyS.next (i := 15) rfl (by kernel_rfl) (by kernel_rfl) fun K' hK' => ?_
        refine want_yes (by kernel_rfl) ?_
        go_simp
        refine hK' _ _ (fun _ => HSW.out) ?_
        clear hK' K'
        simp only [Act.put, List.setIfInBounds_toArray, List.set_cons_succ, List.set_cons_zero]
        clear HSW
        refine AnyS.next (i := 16) rfl (by kernel_rfl) (by kernel_rfl) fun K' hK' => ?_
        refine want_yes (by kernel_rfl) ?_
        go_simp
        refine hK' _ _ (fun h => by cases h) ?_
        clear hK' K' hcw hfw
        refine AnyS.done (by kernel_rfl) ?_ _
        go_wp2_with fail
        go_roundw
        case rel =>
          refine ⟨k + 1, rfl, by omega, Lib.hid ?_⟩
          rw [HNX.out.1, HNX.out.2]
          exact ⟨_, _, HPN.out⟩
        case measure => simp [intOf]; omega
      | false =>
        rw [hb] at hn1 hn2
        have HNX := Lib.hid (show lowC (L.take (k + 1)) key = lowC (L.take k) key ∧ highC (L.take (k + 1)) key = highC (L.take k) key ++ [d] from ⟨by simpa using hn1, by simpa using hn2⟩)
        clear hn1 hn2
        go_wp2_with fail
        have bz := Below.drew (Below.refl wr.heap.size wr)
        have PR := HP.out.symm.later (Nat.le_trans HLB.out HP.out.bs) bz
        have hS : wr.drew.cell? ⟨pb, 0, none⟩ = some vb ∧ wr.drew.cell? ⟨r, 0, none⟩ = some (.slice (some ⟨b, o, none⟩) n cap) ∧ wr.drew.cell? ⟨b, o + k * 3, none⟩ = some (.string ⟨d.k.toArray⟩) ∧ wr.drew.cell? ⟨b, o + k * 3 + 1, none⟩ = some (.int .i64 d.q) ∧ wr.drew.cell? ⟨b, o + k * 3 + 2, none⟩ = some (.string ⟨d.v.toArray⟩) := ⟨by have := PR.hp; simp [World.cell?, this], hcr, x0, x1, x2⟩
        have HZ := Lib.hid (And.intro (show r < base from hrb) (show b < base from hbb))
        clear x0 x1 x2 hcr HP bz
        refine (wpIn_wide (n := 5)).1 ?_
        refine wpIn_region_lit_late (fun w' => w'.cell? ⟨pb, 0, none⟩ = some vb ∧ w'.cell? ⟨r, 0, none⟩ = some (.slice (some ⟨b, o, none⟩) n cap) ∧ w'.cell? ⟨b, o + k * 3, none⟩ = some (.string ⟨d.k.toArray⟩) ∧ w'.cell? ⟨b, o + k * 3 + 1, none⟩ = some (.int .i64 d.q) ∧ w'.cell? ⟨b, o + k * 3 + 2, none⟩ = some (.string ⟨d.v.toArray⟩)) (fun j => j == 16) (k := 17) (listed := #[false, false, false, false, false, false, false, false, false, false, false, false, false, false, false, false, false]) (by kernel_rfl) (by kernel_rfl) (by kernel_rfl) ?_
        generalize wr.drew = wz at *
        refine AnyS.get (i := 0) (some 48) ?_ rfl rfl (by kernel_rfl) (by kernel_rfl) (by kernel_rfl) (by kernel_rfl) (fun _ _ _ h => h) (Reads.yes (by kernel_rfl) ?_ (fun _ => rfl)) hS ?_
        rotate_left
        · intro w' hw'
          go_simp
          with_reducible rfl
        simp only [Act.put, List.setIfInBounds_toArray, List.set_cons_succ, List.set_cons_zero]
        refine AnyS.get (i := 1) (some 49) ?_ rfl rfl (by kernel_rfl) (by kernel_rfl) (by kernel_rfl) (by kernel_rfl) (fun _ _ _ h => h) (Reads.yes (by kernel_rfl) ?_ (fun _ => rfl)) hS ?_
        rotate_left
        · intro w' hw'
          go_simp
          with_reducible rfl
        simp only [Act.put, List.setIfInBounds_toArray, List.set_cons_succ, List.set_cons_zero]
        refine AnyS.get (i := 2) (some 50) ?_ rfl rfl (by kernel_rfl) (by kernel_rfl) (by kernel_rfl) (by kernel_rfl) (fun _ _ _ h => h) (Reads.yes (by kernel_rfl) ?_ (fun _ => rfl)) hS ?_
        rotate_left
        · intro w' hw'
          go_simp
          with_reducible rfl
        simp only [Act.put, List.setIfInBounds_toArray, List.set_cons_succ, List.set_cons_zero]
        refine AnyS.get (i := 3) (some 51) ?_ rfl rfl (by kernel_rfl) (by kernel_rfl) (by kernel_rfl) (by kernel_rfl) (fun _ _ _ h => h) (Reads.yes (by kernel_rfl) ?_ (fun _ => rfl)) hS ?_
        rotate_left
        · intro w' hw'
          go_simp
          with_reducible rfl
        simp only [Act.put, List.setIfInBounds_toArray, List.set_cons_succ, List.set_cons_zero]
        refine AnyS.get (i := 4) (some 52) ?_ rfl rfl (by kernel_rfl) (by kernel_rfl) (by kernel_rfl) (by kernel_rfl) (fun _ _ _ h => h) (Reads.yes (by kernel_rfl) ?_ (fun _ => rfl)) hS ?_
        rotate_left
        · intro w' hw'
          obtain ⟨t1, t2, t3, t4, t5⟩ := hw'
          go_simp
          with_reducible rfl
        simp only [Act.put, List.setIfInBounds_toArray, List.set_cons_succ, List.set_cons_zero]
        refine AnyS.get (i := 5) (some 53) ?_ rfl rfl (by kernel_rfl) (by kernel_rfl) (by kernel_rfl) (by kernel_rfl) (fun _ _ _ h => h) (Reads.yes (by kernel_rfl) ?_ (fun _ => rfl)) hS ?_
        rotate_left
        · intro w' hw'
          go_simp
          with_reducible rfl
        simp only [Act.put, List.setIfInBounds_toArray, List.set_cons_succ, List.set_cons_zero]
        refine AnyS.get (i := 6) (some 54) ?_ rfl rfl (by kernel_rfl) (by kernel_rfl) (by kernel_rfl) (by kernel_rfl) (fun _ _ _ h => h) (Reads.yes (by kernel_rfl) ?_ (fun _ => rfl)) hS ?_
        rotate_left
        · intro w' hw'
          go_simp
          with_reducible rfl
        simp only [Act.put, List.setIfInBounds_toArray, List.set_cons_succ, List.set_cons_zero]
        refine AnyS.get (i := 7) (some 55) ?_ rfl rfl (by kernel_rfl) (by kernel_rfl) (by kernel_rfl) (by kernel_rfl) (fun _ _ _ h => h) (Reads.yes (by kernel_rfl) ?_ (fun _ => rfl)) hS ?_
        rotate_left
        · intro w' hw'
          go_simp
          with_reducible rfl
        simp only [Act.put, List.setIfInBounds_toArray, List.set_cons_succ, List.set_cons_zero]
        refine AnyS.get (i := 8) (some 56) ?_ rfl rfl (by kernel_rfl) (by kernel_rfl) (by kernel_rfl) (by kernel_rfl) (fun _ _ _ h => h) (Reads.yes (by kernel_rfl) ?_ (fun _ => rfl)) hS ?_
        rotate_left
        · intro w' hw'
          obtain ⟨t1, t2, t3, t4, t5⟩ := hw'
          go_simp
          with_reducible rfl
        simp only [Act.put, List.setIfInBounds_toArray, List.set_cons_succ, List.set_cons_zero]
        refine AnyS.get (i := 9) (some 57) ?_ rfl rfl (by kernel_rfl) (by kernel_rfl) (by kernel_rfl) (by kernel_rfl) (fun _ _ _ h => h) (Reads.yes (by kernel_rfl) ?_ (fun _ => rfl)) hS ?_
        rotate_left
        · intro w' hw'
          go_simp
          with_reducible rfl
        simp only [Act.put, List.setIfInBounds_toArray, List.set_cons_succ, List.set_cons_zero]
        refine AnyS.get (i := 10) (some 58) ?_ rfl rfl (by kernel_rfl) (by kernel_rfl) (by kernel_rfl) (by kernel_rfl) (fun _ _ _ h => h) (Reads.yes (by kernel_rfl) ?_ (fun _ => rfl)) hS ?_
        rotate_left
        · intro w' hw'
          go_simp
          with_reducible rfl
        simp only [Act.put, List.setIfInBounds_toArray, List.set_cons_succ, List.set_cons_zero]
        refine AnyS.get (i := 11) (some 59) ?_ rfl rfl (by kernel_rfl) (by kernel_rfl) (by kernel_rfl) (by kernel_rfl) (fun _ _ _ h => h) (Reads.yes (by kernel_rfl) ?_ (fun _ => rfl)) hS ?_
        rotate_left
        · intro w' hw'
          obtain ⟨t1, t2, t3, t4, t5⟩ := hw'
          go_simp
          with_reducible rfl
        simp only [Act.put, List.setIfInBounds_toArray, List.set_cons_succ, List.set_cons_zero]
        obtain ⟨v', W', run, bw, hpw, PN⟩ := PR.add HLB.out d HSZ.out.2
        obtain ⟨g', nn, cap2, rfl⟩ : ∃ g' nn cap2, v' = .slice (some ⟨g', 0, none⟩) nn cap2 := by
          obtain ⟨g', cap2, e, -⟩ := rowW_own' PN.oa (by simp)
          exact ⟨g', _, cap2, e⟩
        have RUN := Lib.hid run
        have hS1 := fun W2 (hb : Below base wz W2) (hp2 : W2.cell? ⟨pb, 0, none⟩ = some vb) => And.intro hp2 (And.intro ((hb.cell (p := ⟨r, 0, none⟩) HZ.out.1).trans hS.2.1) (And.intro ((hb.cell (p := ⟨b, o + k * 3, none⟩) HZ.out.2).trans hS.2.2.1) (And.intro ((hb.cell (p := ⟨b, o + k * 3 + 1, none⟩) HZ.out.2).trans hS.2.2.2.1) ((hb.cell (p := ⟨b, o + k * 3 + 2, none⟩) HZ.out.2).trans hS.2.2.2.2))))
        have HS1 := Lib.hid hS1
        have nb := (Below.refl wz.heap.size wz).alloc (Nat.le_refl _) (boxC d)
        have hpn : (wz.alloc (boxC d)).cell? ⟨pb, 0, none⟩ = some vb := (nb.cell (p := ⟨pb, 0, none⟩) (Nat.lt_of_lt_of_le PR.pl PR.bs)).trans hS.1
        have HSB := Lib.hid (HS1.out _ (nb.mono PR.bs) hpn)
        have hcw : W'.cell? ⟨pb, 0, none⟩ = some vb := by simp [World.cell?, hpw]
        have hfw : W'.frozen? ⟨pb, 0, none⟩ = false := by simp [World.frozen?, hpw]
        have HSW := Lib.hid (HS1.out _ bw hcw)
        have HPN := Lib.hid PN
        clear run hS1 HS1 nb hpn hS PR bw hpw PN
        unfold boxC at RUN HSB
        refine AnyS.next (i := 12) rfl (by kernel_rfl) (by kernel_rfl) fun K' hK' => ?_
        refine want_yes (by kernel_rfl) ?_
        go_simp
        refine hK' _ _ (fun _ => HSB.out) ?_
        clear hK' K' HSB
        simp only [Act.put, List.setIfInBounds_toArray, List.set_cons_succ, List.set_cons_zero]
        refine AnyS.next (i := 13) rfl (by kernel_rfl) (by kernel_rfl) fun K' hK' => ?_
        refine want_yes (by kernel_rfl) ?_
        simp only [List.getElem_toArray, List.getElem_cons_succ, List.getElem_cons_zero]
        refine opIn_value _ (fun c h => by cases h) rfl (exec_append (s := .tmp 52) (x := .tmp 60) rfl rfl rfl RUN.out) ?_
        refine hK' _ _ (fun _ => HSW.out) ?_
        clear hK' K' RUN
        simp only [Act.put, List.setIfInBounds_toArray, List.set_cons_succ, List.set_cons_zero]
        refine AnyS.next (i := 14) rfl (by kernel_rfl) (by kernel_rfl) fun K' hK' => ?_
        refine want_yes (by kernel_rfl) ?_
        go_simp
        refine hK' _ _ (fun _ => HSW.out) ?_
        clear hK' K'
        simp only [Act.put, List.setIfInBounds_toArray, List.set_cons_succ, List.set_cons_zero]
        refine AnyS.next (i := 15) rfl (by kernel_rfl) (by kernel_rfl) fun K' hK' => ?_
        refine want_yes (by kernel_rfl) ?_
        go_simp
        refine hK' _ _ (fun _ => HSW.out) ?_
        clear hK' K'
        simp only [Act.put, List.setIfInBounds_toArray, List.set_cons_succ, List.set_cons_zero]
        clear HSW
        refine AnyS.next (i := 16) rfl (by kernel_rfl) (by kernel_rfl) fun K' hK' => ?_
        refine want_yes (by kernel_rfl) ?_
        go_simp
        refine hK' _ _ (fun h => by cases h) ?_
        clear hK' K' hcw hfw
        refine AnyS.done (by kernel_rfl) ?_ _
        go_wp2_with fail
        go_roundw
        case rel =>
          refine ⟨k + 1, rfl, by omega, Lib.hid ?_⟩
          rw [HNX.out.1, HNX.out.2]
          exact ⟨_, _, HPN.out.symm⟩
        case measure => simp [intOf]; omega
    · obtain rfl : k = n := by omega
      have hpp : Par pa pb base va vb (lowC L key) (highC L key) pa w wr := by have := HP.out; rwa [← HN.out, List.take_length] at this
      have HPP := Lib.hid hpp
      clear HP hpp
      go_wp2_with fail
      obtain ⟨fa, MA, ha⟩ := RefM.of_own HPP.out.hp HPP.out.oa
      obtain ⟨fb, MB, hb⟩ := RefM.of_own HPP.out.hq HPP.out.ob
      refine bodyPost_ret (v := .tuple #[.pointer (some ⟨pa, 0, none⟩), .pointer (some ⟨pb, 0, none⟩)]) (by simp [results, Try.results21, go_sem]) rfl ?_
      obtain ⟨q1, q2, q3⟩ := HPA.out
      refine ⟨pa, fa, pb, fb, rfl, MA, MB, fun x hx => ?_, fun x hx => ?_, fun x hx hm => ?_, by rw [HPA.out.1]; exact HPP.out.bl⟩
      · rcases ha x hx with h | ⟨_, h⟩ <;> omega
      · rcases hb x hx with h | ⟨_, h⟩ <;> omega
      · rcases ha x hx with h | ⟨e, h⟩ <;> rcases hb x hm with h' | ⟨e', h'⟩
        · omega
        · omega
        · omega
        · exact HPP.out.ap x e e'
end Go.Proofs.Ytpcapifjbhaeeaa
