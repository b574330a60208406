/- The laws' laid, and what stays while tablets are made. The laws' Made: what stands while it goes. -/
import Derived.Test.YtoglloafpnopaaaGreatTV
import Derived.Test.YtoglloafpnopaaaGreatMN
import Derived.Test.YtoglloafpnopaaaGreatTlC
set_option linter.unusedSimpArgs false
set_option linter.unusedVariables false
namespace Go.Proofs.YtoglloafpnopaaaGreat
set_option maxRecDepth 16000
open Go.RowKit Spoor
set_option maxHeartbeats 4000000 in
theorem laidT_any (s : Value) (l : List Ce) (w : World) (hs : SlAt s l w) (hbig : l.length ≤ 900) (hf : ∀ c ∈ l, FitsC c) :
 Calls Tryz.prog 27 #[s] w fun e w' => ∃ p fs v, e = .returned (.tuple #[.pointer (some ⟨p, 0, none⟩), v]) ∧
  Mem p (putsC [] l) fs w' ∧ (∀ x ∈ fs, w.heap.size ≤ x) ∧ w'.ownsRow w.heap.size 38 3 v (putsC [] l).length (rowOf (putsC [] l)) ∧ Below w.heap.size w w' := by
 have FT := Lib.hid (fun k (hk : k < l.length) => getD_lt hf hk)
 have ST := Lib.hid (fun k => puts_short [] l k)
 obtain ⟨A, cap, rfl, hc1, hc2, hrow⟩ := hs
 unfold maxLen at hc2
 have HR := Lib.hid hrow
 obtain ⟨n, hn⟩ : ∃ n, l.length = n := ⟨_, rfl⟩
 have HN := Lib.hid hn
 rw [hn] at hbig hc1 ⊢
 clear hrow hf hn
 go_enter Tryz.func27, Tryz.ntmps27
 go_wp2_with fail
 refine (newM_any _).mono ?_
 rintro e w1 ⟨rfl, M1, B1⟩
 have HM1 := Lib.hid M1
 clear M1
 go_wp2_with fail
 go_loopw [5] (fun i wr => ∃ (k : Nat) (fs' : List Nat), i = .int .i64 k ∧ k ≤ n ∧ Hid (Mem w.heap.size (putsC [] (l.take k)) fs' wr ∧ (∀ x ∈ fs', w.heap.size ≤ x)) ∧ Below w.heap.size w wr) (fun i _ => n - (intOf i).toNat)
 case atStart => exact ⟨0, [w.heap.size], rfl, by omega, Lib.hid ⟨by simpa [putsC] using HM1.out, by simp⟩, B1⟩
 case round =>
  obtain ⟨k, fs', rfl, hk, HM, B⟩ := hrel
  by_cases hlt : k < n
  · have hkl : k < l.length := by rw [HN.out]; exact hlt
    obtain ⟨M, hge⟩ := HM.out
    obtain ⟨b, o, rfl, hrow⟩ := HR.out (by omega)
    have hcs := (hrow.later B hrow.1).cells hkl
    obtain ⟨c, hc⟩ : ∃ c, l.getD k Ce.zero = c := ⟨_, rfl⟩
    rw [hc] at hcs
    have hfc : FitsC c := hc ▸ FT.out k hkl
    have hnext := puts_take (La := []) hkl
    rw [hc] at hnext
    obtain ⟨x0, x1, x2⟩ := hcs
    have pc := putM_any w.heap.size _ fs' c wr M (Nat.le_trans (ST.out k) (by have := HN.out; simp; omega)) hfc
    have HP := Lib.hid pc
    have HG := Lib.hid (And.intro hge (And.intro hnext B))
    clear M hge hrow hc hfc hnext pc HM B
    unfold ceVal at HP
    go_wp2_with fail
    refine HP.out.mono ?_
    rintro e w5 ⟨rfl, fs2, M5, g5, f5⟩
    obtain ⟨h1, h4, hB⟩ := HG.out
    rw [← h4] at M5
    have B5 : Below w.heap.size w w5 := hB.trans (f5.below hB.size h1)
    have h7 : ∀ x ∈ fs2, w.heap.size ≤ x := fun x hx => by
     rcases g5 x hx with h | h
     · exact h1 x h
     · have := hB.size
       omega
    have HF := Lib.hid (And.intro M5 h7)
    clear HP HG h1 h4 h7 g5 f5 M5 hB
    go_wp2_with fail
    go_roundw
    case rel => exact ⟨k + 1, fs2, rfl, by omega, Lib.hid HF.out, B5⟩
    case measure => simp [intOf]; omega
  · obtain rfl : k = n := by omega
    have MF : Mem w.heap.size (putsC [] l) fs' wr := by
     have := HM.out.1
     rwa [← HN.out, List.take_length] at this
    have hpl : (putsC [] l).length ≤ 900 := by have := puts_length l []; have := HN.out; simp at *; omega
    have RC := Lib.hid (rangeM_any _ _ _ [] [] wr MF (by omega))
    rw [rangeC_all] at RC
    have HMF := Lib.hid (And.intro MF (And.intro HM.out.2 B))
    clear MF HM HR B hpl
    go_wp2_with fail
    refine RC.out.mono ?_
    rintro e w6 ⟨b6, v, rfl, own⟩
    have HE := Lib.hid (And.intro (HMF.out.1.later b6) (And.intro (own.mono HMF.out.2.2.size) (HMF.out.2.2.trans (b6.mono HMF.out.2.2.size))))
    obtain ⟨A6, c6, rfl⟩ := own_slice own
    clear b6 own
    go_wp2_with fail
    refine bodyPost_ret (v := .tuple #[.pointer (some ⟨w.heap.size, 0, none⟩), .slice A6 (putsC [] l).length c6]) (by simp [results, Tryz.results27, go_sem, *]) rfl ?_
    exact ⟨w.heap.size, fs', _, rfl, HE.out.1, HMF.out.2.1, HE.out.2.1, HE.out.2.2⟩
def Aside (k : Nat) (W : World) : Prop := ∃ cur t, W.heap[k]? = some (.cells cur t (0, 0)) ∧ (t = 22 ∨ t = 47 ∨ t = 31 ∨ t = 33) ∧ ∀ x A n c, ¬ (cur[0]? = some (.string x) ∧ cur[1]? = some (.slice A n c))
def AsF (W W' : World) : Prop := W.heap.size ≤ W'.heap.size ∧ ∀ k, k < W.heap.size → ¬ Aside k W → W'.heap[k]? = W.heap[k]?
theorem Aside.not {k : Nat} {W : World} {cur : Array Value} {t : TypeId} (h : W.heap[k]? = some (.cells cur t (0, 0))) (ht : t ≠ 22 ∧ t ≠ 47 ∧ t ≠ 31 ∧ t ≠ 33) : ¬ Aside k W := fun ⟨cur', t', h', ht', _⟩ => by
 rw [h] at h'
 simp only [Option.some.injEq, Obj.cells.injEq] at h'
 obtain ⟨-, rfl, -⟩ := h'
 rcases ht' with e | e | e | e
 · exact ht.1 e
 · exact ht.2.1 e
 · exact ht.2.2.1 e
 · exact ht.2.2.2 e
theorem AsF.cells {W W' : World} (f : AsF W W') {k : Nat} {cur : Array Value} {t : TypeId} (h : W.heap[k]? = some (.cells cur t (0, 0))) (ht : t ≠ 22 ∧ t ≠ 47 ∧ t ≠ 31 ∧ t ≠ 33) : W'.heap[k]? = W.heap[k]? :=
 f.2 k (Go.ltA h) (Aside.not h ht)
theorem SlC.asf {v : Value} {l : List Ce} {W W' : World} (h : SlC v l W) (f : AsF W W') : SlC v l W' := h.same f.1 fun b e => by
 obtain ⟨cur, hc⟩ := h.2 b e
 exact f.cells hc (by decide)
theorem PageAt.ty' {s : Value} {g : List Ce} {b : Nat} {W : World} (h : PageAt s g b W) : (∃ A n c, s = .slice A n c) ∧ ∃ cur, W.heap[b]? = some (.cells cur 38 (0, 0)) := by
 obtain ⟨cap, cur, e, h1, h2, h3, -⟩ := h
 exact ⟨⟨_, _, _, e⟩, cur, h3⟩
theorem TabAt.asf {t : Nat} {gs : List (List Ce)} {W W' : World} (h : TabAt t gs W) (f : AsF W W') : TabAt t gs W' := by
 obtain ⟨v, h1, A, cap, e, k1, k2, hz, k3⟩ := h
 refine ⟨v, (f.cells h1 (by decide)).trans h1, A, cap, e, k1, k2, hz, fun h0 => ?_⟩
 obtain ⟨g, e2, hl, hg, hc⟩ := k3 h0
 have hkg : W'.heap[g]? = W.heap[g]? := f.2 g hg fun ⟨cur, t', hb, _, hn⟩ => by
  obtain ⟨c1, s, b, c2, c3, c4⟩ := hc 0 h0
  obtain ⟨⟨A', n', c', rfl⟩, -⟩ := c4.ty'
  rw [cell_of_row W g _ _ _ _ hb] at c1 c2
  exact hn _ _ _ _ ⟨c1, c2⟩
 refine ⟨g, e2, hl, Nat.lt_of_lt_of_le hg f.1, fun i hi => ?_⟩
 obtain ⟨c1, s, b, c2, c3, c4⟩ := hc i hi
 obtain ⟨-, cur, hb⟩ := c4.ty'
 exact ⟨(World.cell?_of_block (a := ⟨g, i * 2, none⟩) hkg).trans c1, s, b, (World.cell?_of_block (a := ⟨g, i * 2 + 1, none⟩) hkg).trans c2, c3, c4.same (f.cells hb (by decide))⟩
theorem Mem.asf {p : Nat} {L : List Ce} {fs : List Nat} {W W' : World} (h : Mem p L fs W) (f : AsF W W') : Mem p L fs W' := by
 refine h.same fun b hb => ?_
 obtain ⟨gs, ⟨v, fs', rfl, hp, hP⟩, ok, hL⟩ := h
 rcases List.mem_cons.1 hb with rfl | hb
 · exact f.cells hp (by decide)
 · by_cases h0 : 0 < gs.length
   · obtain ⟨g, cap, cur, bs, -, -, -, h4, -, rfl, -, h7⟩ := hP.open h0
     rcases List.mem_cons.1 hb with rfl | hb
     · exact f.cells h4 (by decide)
     · obtain ⟨c, hc⟩ := h7.ty b hb
       exact f.cells hc (by decide)
   · rcases hP with ⟨_, _, rfl⟩ | ⟨_, _, _, _, _, h, _⟩
     · cases hb
     · exact absurd h h0
theorem MemPtr.asf {M : Option Addr} {L : List Ce} {W W' : World} (h : MemPtr M L W) (f : AsF W W') : MemPtr M L W' := by
 rcases h with h | ⟨p, fs, e, h⟩
 · exact .inl h
 · exact .inr ⟨p, fs, e, h.asf f⟩
theorem TabPtr.asf {P : Option Addr} {r : List Ce} {W W' : World} (h : TabPtr P r W) (f : AsF W W') : TabPtr P r W' := by
 rcases h with h | ⟨t, gs, e, h, h2⟩
 · exact .inl h
 · exact .inr ⟨t, gs, e, h.asf f, h2⟩
theorem AsF.refl (W : World) : AsF W W := ⟨Nat.le_refl _, fun _ _ _ => rfl⟩
theorem AsF.of {W W' : World} (h : Below W.heap.size W W') : AsF W W' := ⟨h.size, fun k hk _ => h.block k hk⟩
theorem AsF.trans {a b c : World} (h : AsF a b) (k : AsF b c) : AsF a c := ⟨Nat.le_trans h.1 k.1, fun x hx hn => by
 have e := h.2 x hx hn
 refine (k.2 x (Nat.lt_of_lt_of_le hx h.1) fun ⟨cur, t, h1, h2, h3⟩ => hn ⟨cur, t, e ▸ h1, h2, h3⟩).trans e⟩
theorem AsF.grown {W W' : World} {row : Option Nat} (h : W.grownBy W' row) (ha : ∀ k, row = some k → Aside k W) : AsF W W' := ⟨h.size, fun k hk hn => h.block k hk fun e => hn (ha k e.symm)⟩
theorem AsF.set {W : World} {b o : Nat} (v : Value) (h : Aside b W) : AsF W (W.setCell ⟨b, o, none⟩ v) := ⟨by rw [World.size_setCell]; exact Nat.le_refl _, fun k _ hn => Below.heap_setCell W ⟨b, o, none⟩ v k fun e => hn (by have : k = b := e; rw [this]; exact h)⟩
def PtrsGat (lo : Nat) (v : Value) (Ts : List (List Ce)) (W : World) : Prop := ∃ ptrs, W.ownsRow lo 47 1 v ptrs.length ptrs ∧ ptrs.length = Ts.length ∧ (Ts = [] → v = .slice none 0 0) ∧ ∀ j, j < Ts.length → ∃ P, ptrs.getD j undef = .pointer P ∧ TabPtr P (Ts.getD j []) W
theorem RowsGat.asf {lo : Nat} {v : Value} {Rs : List (List Ce)} {W W' : World} (h : RowsGat lo v Rs W) (f : AsF W W') (hk : ∀ g, v.ownBlock = some g → W'.heap[g]? = W.heap[g]?) : RowsGat lo v Rs W' := by
 obtain ⟨vals, h1, h2, h3⟩ := h
 exact ⟨vals, ownRow_same h1 hk, h2, fun j hj => (h3 j hj).asf f⟩
theorem PtrsGat.asf {lo : Nat} {v : Value} {Ts : List (List Ce)} {W W' : World} (h : PtrsGat lo v Ts W) (f : AsF W W') (hk : ∀ g, v.ownBlock = some g → W'.heap[g]? = W.heap[g]?) : PtrsGat lo v Ts W' := by
 obtain ⟨ptrs, h1, h2, h4, h3⟩ := h
 refine ⟨ptrs, ownRow_same h1 hk, h2, h4, fun j hj => ?_⟩
 obtain ⟨P, e, hp⟩ := h3 j hj
 exact ⟨P, e, hp.asf f⟩
theorem PtrsGat.aside {lo : Nat} {v : Value} {Ts : List (List Ce)} {W : World} (h : PtrsGat lo v Ts W) : ∀ g, v.ownBlock = some g → lo ≤ g ∧ (∃ cur, W.heap[g]? = some (.cells cur 47 (0, 0))) ∧ Aside g W := fun g hg => by
 obtain ⟨ptrs, h1, h2, h4, h3⟩ := h
 rcases h1.2 with ⟨rfl, _⟩ | ⟨g2, cap, cur, rfl, hlo, hgb, hn, hm, hs, ht⟩
 · simp [Value.ownBlock] at hg
 · have e2 : g2 = g := by simpa [Value.ownBlock] using hg
   subst e2
   refine ⟨hlo, ⟨cur, hgb⟩, cur, _, hgb, .inr (.inl rfl), fun x A n c e => ?_⟩
   have hpos : 0 < Ts.length := by
    rcases Nat.eq_zero_or_pos Ts.length with h0 | h0
    · have := h4 (List.eq_nil_of_length_eq_zero h0); cases this
    · exact h0
   obtain ⟨P, e3, -⟩ := h3 0 hpos
   have h5 : cur[0]? = some (.pointer P) := by
    have := congrArg (fun l => l[0]?) ht
    simp only [List.getElem?_take, Array.getElem?_toList] at this
    rw [if_pos (by omega)] at this
    rw [this, ← e3]
    simp [List.getD, show 0 < ptrs.length by omega]
   rw [h5] at e
   cases e.1
theorem RowsGat.aside {lo : Nat} {v : Value} {Rs : List (List Ce)} {W : World} (h : RowsGat lo v Rs W) (hpos : 0 < Rs.length) : ∀ g, v.ownBlock = some g → lo ≤ g ∧ (∃ cur, W.heap[g]? = some (.cells cur 22 (0, 0))) ∧ Aside g W := fun g hg => by
 obtain ⟨vals, h1, h2, h3⟩ := h
 rcases h1.2 with ⟨rfl, _⟩ | ⟨g2, cap, cur, rfl, hlo, hgb, hn, hm, hs, ht⟩
 · simp [Value.ownBlock] at hg
 · have e2 : g2 = g := by simpa [Value.ownBlock] using hg
   subst e2
   refine ⟨hlo, ⟨cur, hgb⟩, cur, _, hgb, .inl rfl, fun x A n c e => ?_⟩
   obtain ⟨A0, c0, e3, -⟩ := (h3 0 hpos).1
   have h5 : cur[0]? = some (vals.getD 0 undef) := by
    have := congrArg (fun l => l[0]?) ht
    simp only [List.getElem?_take, Array.getElem?_toList] at this
    rw [if_pos (by omega)] at this
    rw [this]
    simp [List.getD, show 0 < vals.length by omega]
   rw [h5, e3] at e
   cases e.1
theorem info_tp : (Tryz.prog.info? 47).map (fun i => (i.zero, i.size, i.bytes)) = some (some (.pointer none), 1, 8) := by kernel_rfl
theorem PtrsGat.append {lo : Nat} {v : Value} {Ts : List (List Ce)} {P : Option Addr} {r : List Ce} {W : World} (h : PtrsGat lo v Ts W) (hb : lo ≤ W.heap.size) (hn : Ts.length ≤ 1000) (hp : TabPtr P r W) :
 ∃ v' w', (Builtin.append_ #[29, 29] 29 #[v, .slice (some ⟨W.heap.size, 0, none⟩) 1 1]).run Tryz.prog (W.alloc (.cells #[.pointer P] 47)) = .ok v' w' ∧ PtrsGat lo v' (Ts ++ [r]) w' ∧ Below lo W w' ∧ AsF W w' ∧ (∀ (k : Nat) (cur : Array Value) (t : TypeId), W.heap[k]? = some (.cells cur t (0, 0)) → t ≠ 47 → w'.heap[k]? = some (.cells cur t (0, 0))) ∧ (∃ g c', v' = .slice (some ⟨g, 0, none⟩) (Ts.length + 1) c') := by
 have nb := (Below.refl W.heap.size W).alloc (Nat.le_refl _) (.cells #[.pointer P] 47)
 have hx := heap_alloc_new W (.cells #[.pointer P] 47)
 have f0 := AsF.of nb
 have h' : PtrsGat lo v Ts (W.alloc (.cells #[.pointer P] 47)) := h.asf f0 fun g hg => by
  obtain ⟨_, ⟨cur, hc⟩, _⟩ := h.aside g hg
  exact nb.block g (Go.ltA hc)
 have hp' := hp.asf f0
 generalize W.alloc (.cells #[.pointer P] 47) = W2 at nb hx f0 h' hp' ⊢
 obtain ⟨i, hi, hz0, hz1, hz2⟩ := info_one info_tp
 have ha := h'.aside
 obtain ⟨ptrs, h1, h2, h4, h3⟩ := h'
 obtain ⟨v', w', hrun, r1, r2, r3⟩ := run_append_own (P := Tryz.prog) W2 lo 29 29 47 i _ 1 8 Tryz.underlying29 hi hz0 hz1 hz2 rfl (by decide) v ptrs.length ptrs h1 ⟨W.heap.size, 0, none⟩ 1 1 [.pointer P] rfl
  (fun j u hj => by
    match j, hj with
    | 0, hj => simp at hj; subst hj; simp [World.cell?, hx, Addr.add]
    | j + 1, hj => simp at hj) (by simp [Value.oneCell']) (by unfold maxLen; omega) (by omega) (Nat.le_trans hb nb.size)
 have f1 : AsF W2 w' := AsF.grown r2 fun k e => (ha k e).2.2
 refine ⟨v', w', hrun, ⟨_, by rw [List.length_append]; exact r1, by simp [h2], fun e => by simp at e, fun j hj => ?_⟩, ?_, f0.trans f1, fun k cur t hk ht => ?_, ?_⟩
 · rw [List.length_append, List.length_singleton] at hj
   by_cases e : j < Ts.length
   · have e1 : (ptrs ++ [Value.pointer P]).getD j undef = ptrs.getD j undef := by simp [List.getD, List.getElem?_append_left (show j < ptrs.length by omega)]
     have e2 : (Ts ++ [r]).getD j [] = Ts.getD j [] := by simp [List.getD, List.getElem?_append_left e]
     rw [e1, e2]
     obtain ⟨P', e3, hp3⟩ := h3 j e
     exact ⟨P', e3, hp3.asf f1⟩
   · obtain rfl : j = Ts.length := by omega
     have e1 : (ptrs ++ [Value.pointer P]).getD Ts.length undef = .pointer P := by rw [← h2]; simp [List.getD]
     have e2 : (Ts ++ [r]).getD Ts.length [] = r := by simp [List.getD]
     rw [e1, e2]
     exact ⟨P, rfl, hp'.asf f1⟩
 · exact (nb.mono hb).trans ((Below.refl lo W2).grown r2 (Nat.le_trans hb nb.size) fun k hk => (ha k hk).1)
 · have hk2 := (nb.block k (Go.ltA hk)).trans hk
   refine (r2.block k (Go.ltA hk2) fun e => ?_).trans hk2
   obtain ⟨_, ⟨cur', hc⟩, _⟩ := ha k e.symm
   rw [hk2] at hc
   simp only [Option.some.injEq, Obj.cells.injEq] at hc
   exact ht hc.2.1
 · rw [← h2]; exact ownsRow_succ r1
theorem RowsGat.append2 {lo : Nat} {v : Value} {Rs : List (List Ce)} {A : Option Addr} {n c : Nat} {r : List Ce} {W : World} (h : RowsGat lo v Rs W) (hpos : 0 < Rs.length) (hb : lo ≤ W.heap.size) (hn : Rs.length ≤ 1000) (hs : SlC (.slice A n c) r W) :
 ∃ v' w', (Builtin.append_ #[23, 23] 23 #[v, .slice (some ⟨W.heap.size, 0, none⟩) 1 1]).run Tryz.prog (W.alloc (.cells #[.slice A n c] 22)) = .ok v' w' ∧ RowsGat lo v' (Rs ++ [r]) w' ∧ Below lo W w' ∧ AsF W w' ∧ (∀ (k : Nat) (cur : Array Value) (t : TypeId), W.heap[k]? = some (.cells cur t (0, 0)) → t ≠ 22 → w'.heap[k]? = some (.cells cur t (0, 0))) ∧ (∃ g c', v' = .slice (some ⟨g, 0, none⟩) (Rs.length + 1) c') := by
 have nb := (Below.refl W.heap.size W).alloc (Nat.le_refl _) (.cells #[.slice A n c] 22)
 have hx := heap_alloc_new W (.cells #[.slice A n c] 22)
 have f0 := AsF.of nb
 have h' : RowsGat lo v Rs (W.alloc (.cells #[.slice A n c] 22)) := h.later nb
 have hs2 := hs.later nb
 generalize W.alloc (.cells #[.slice A n c] 22) = W2 at nb hx f0 h' hs2 ⊢
 have ha := h'.aside hpos
 obtain ⟨i, hi, hz0, hz1, hz2⟩ := info_one info_sl
 obtain ⟨vals, h1, h2, h3⟩ := h'
 obtain ⟨v', w', hrun, r1, r2, r3⟩ := run_append_own (P := Tryz.prog) W2 lo 23 23 22 i _ 1 24 Tryz.underlying23 hi hz0 hz1 hz2 rfl (by decide) v vals.length vals h1 ⟨W.heap.size, 0, none⟩ 1 1 [.slice A n c] rfl
  (fun j u hj => by
    match j, hj with
    | 0, hj => simp at hj; subst hj; simp [World.cell?, hx, Addr.add]
    | j + 1, hj => simp at hj) (by simp [Value.oneCell']) (by unfold maxLen; omega) (by omega) (Nat.le_trans hb nb.size)
 have f1 : AsF W2 w' := AsF.grown r2 fun k e => (ha k e).2.2
 refine ⟨v', w', hrun, ⟨_, by rw [List.length_append]; exact r1, by simp [h2], fun j hj => ?_⟩, ?_, f0.trans f1, fun k cur t hk ht => ?_, by rw [← h2]; exact ownsRow_succ r1⟩
 · rw [List.length_append, List.length_singleton] at hj
   by_cases e : j < Rs.length
   · have e1 : (vals ++ [Value.slice A n c]).getD j undef = vals.getD j undef := by simp [List.getD, List.getElem?_append_left (show j < vals.length by omega)]
     have e2 : (Rs ++ [r]).getD j [] = Rs.getD j [] := by simp [List.getD, List.getElem?_append_left e]
     rw [e1, e2]
     exact (h3 j e).asf f1
   · obtain rfl : j = Rs.length := by omega
     have e1 : (vals ++ [Value.slice A n c]).getD Rs.length undef = .slice A n c := by rw [← h2]; simp [List.getD]
     have e2 : (Rs ++ [r]).getD Rs.length [] = r := by simp [List.getD]
     rw [e1, e2]
     exact hs2.asf f1
 · exact (nb.mono hb).trans ((Below.refl lo W2).grown r2 (Nat.le_trans hb nb.size) fun k hk => (ha k hk).1)
 · have hk2 := (nb.block k (Go.ltA hk)).trans hk
   refine (r2.block k (Go.ltA hk2) fun e => ?_).trans hk2
   obtain ⟨_, ⟨cur', hc⟩, _⟩ := ha k e.symm
   rw [hk2] at hc
   simp only [Option.some.injEq, Obj.cells.injEq] at hc
   exact ht hc.2.1
structure MadeAt (w : World) (lo b7 b8 r2 r3 xb : Nat) (F T : List UInt8) (xs : Array Value) (p : Nat) (fs : List Nat) (L : List Ce) (tv rv : Value) (Ts : List (List Ce)) (W : World) : Prop where
 h7 : W.heap[b7]? = some (.cells #[.string ⟨F.toArray⟩, .string ⟨T.toArray⟩, .pointer (some ⟨p, 0, none⟩), tv] 31 (0, 0))
 h8 : W.heap[b8]? = some (.cells #[.string ⟨F.toArray⟩, .string ⟨T.toArray⟩, rv] 33 (0, 0))
 ptrs : PtrsGat lo tv Ts W
 rows : RowsGat lo rv (L :: Ts) W
 mem : Mem p L fs W
 below : Below lo w W
 hr2 : W.heap[r2]? = some (.cells #[.string ⟨#[]⟩, .string ⟨#[]⟩, .pointer none, .slice none 0 0] 31 (0, 0))
 hr3 : W.heap[r3]? = some (.cells #[.string ⟨#[]⟩, .string ⟨#[]⟩, .slice none 0 0] 33 (0, 0))
 hx : W.heap[xb]? = some (.cells xs 25 (0, 0))
theorem MadeAt.later {w : World} {lo b7 b8 r2 r3 xb : Nat} {F T : List UInt8} {xs : Array Value} {p : Nat} {fs : List Nat} {L : List Ce} {tv rv : Value} {Ts : List (List Ce)} {W W' : World} (h : MadeAt w lo b7 b8 r2 r3 xb F T xs p fs L tv rv Ts W) (hlo : lo ≤ w.heap.size) (hb : Below W.heap.size W W') : MadeAt w lo b7 b8 r2 r3 xb F T xs p fs L tv rv Ts W' := by
 have k : ∀ {i : Nat} {o : Obj}, W.heap[i]? = some o → W'.heap[i]? = some o := fun {i o} e => (hb.block i (Go.ltA e)).trans e
 refine ⟨k h.h7, k h.h8, h.ptrs.asf (AsF.of hb) fun g hg => ?_, h.rows.later hb, h.mem.later hb, h.below.trans (hb.mono (Nat.le_trans hlo h.below.size)), k h.hr2, k h.hr3, k h.hx⟩
 obtain ⟨_, ⟨cur, hc⟩, _⟩ := h.ptrs.aside g hg
 exact hb.block g (Go.ltA hc)
theorem set_at4 {b : Nat} {W : World} {x0 x1 x2 x3 v : Value} {t : TypeId} (h : W.heap[b]? = some (.cells #[x0, x1, x2, x3] t (0, 0))) : (W.setCell ⟨b, 3, none⟩ v).heap[b]? = some (.cells #[x0, x1, x2, v] t (0, 0)) := by
 rw [heap_setCell_same W b 3 _ _ _ h]; rfl
theorem set_at3 {b : Nat} {W : World} {x0 x1 x2 v : Value} {t : TypeId} (h : W.heap[b]? = some (.cells #[x0, x1, x2] t (0, 0))) : (W.setCell ⟨b, 2, none⟩ v).heap[b]? = some (.cells #[x0, x1, v] t (0, 0)) := by
 rw [heap_setCell_same W b 2 _ _ _ h]; rfl
theorem MadeAt.step {w : World} {lo b7 b8 r2 r3 xb : Nat} {F T : List UInt8} {xs : Array Value} {p : Nat} {fs : List Nat} {L : List Ce} {tv rv : Value} {Ts : List (List Ce)} {W : World} (h : MadeAt w lo b7 b8 r2 r3 xb F T xs p fs L tv rv Ts W)
 (hlo : lo ≤ w.heap.size) (h72 : b7 ≠ r2) (h83 : b8 ≠ r3) (h7l : lo ≤ b7) (h8l : lo ≤ b8) (hl : Ts.length ≤ 100) {P : Option Addr} {r : List Ce} (hp : TabPtr P r W) {A : Option Addr} {n c : Nat} (hs : SlC (.slice A n c) r W) :
 ∃ g c' w6, (Builtin.append_ #[29, 29] 29 #[tv, .slice (some ⟨W.heap.size, 0, none⟩) 1 1]).run Tryz.prog (W.alloc (.cells #[.pointer P] 47)) = .ok (.slice (some ⟨g, 0, none⟩) (Ts.length + 1) c') w6 ∧ w6.cell? ⟨b7, 3, none⟩ = some tv ∧ w6.frozen? ⟨b7, 3, none⟩ = false ∧
  ∃ W7, w6.setCell ⟨b7, 3, none⟩ (.slice (some ⟨g, 0, none⟩) (Ts.length + 1) c') = W7 ∧ W7.cell? ⟨b8, 2, none⟩ = some rv ∧
  ∃ g2 c2 w8, (Builtin.append_ #[23, 23] 23 #[rv, .slice (some ⟨W7.heap.size, 0, none⟩) 1 1]).run Tryz.prog (W7.alloc (.cells #[.slice A n c] 22)) = .ok (.slice (some ⟨g2, 0, none⟩) ((L :: Ts).length + 1) c2) w8 ∧ w8.cell? ⟨b8, 2, none⟩ = some rv ∧ w8.frozen? ⟨b8, 2, none⟩ = false ∧
  MadeAt w lo b7 b8 r2 r3 xb F T xs p fs L (.slice (some ⟨g, 0, none⟩) (Ts.length + 1) c') (.slice (some ⟨g2, 0, none⟩) ((L :: Ts).length + 1) c2) (Ts ++ [r]) (w8.setCell ⟨b8, 2, none⟩ (.slice (some ⟨g2, 0, none⟩) ((L :: Ts).length + 1) c2)) := by
 obtain ⟨v', w6, run6, p6, B6, f6, k6, g, c', rfl⟩ := h.ptrs.append (Nat.le_trans hlo h.below.size) (by omega) hp
 have e7 := k6 _ _ _ h.h7 (by decide)
 have e8 := k6 _ _ _ h.h8 (by decide)
 have ha7 : Aside b7 w6 := ⟨_, _, e7, .inr (.inr (.inl rfl)), fun x A n c e => by cases e.2⟩
 refine ⟨g, c', w6, run6, by rw [cell_of_row w6 b7 _ _ _ _ e7]; rfl, by simp [World.frozen?, e7], ?_⟩
 obtain ⟨W7, hW7⟩ : ∃ W7, w6.setCell ⟨b7, 3, none⟩ (.slice (some ⟨g, 0, none⟩) (Ts.length + 1) c') = W7 := ⟨_, rfl⟩
 have f7 : AsF w6 W7 := by rw [← hW7]; exact AsF.set _ ha7
 have k7 : ∀ k, k ≠ b7 → W7.heap[k]? = w6.heap[k]? := fun k hk => by rw [← hW7]; exact Below.heap_setCell w6 ⟨b7, 3, none⟩ _ k hk
 have s7 := set_at4 (v := .slice (some ⟨g, 0, none⟩) (Ts.length + 1) c') e7
 rw [hW7] at s7
 have h78 : b8 ≠ b7 := fun e => by rw [e, e7] at e8; simp at e8
 have e8' := (k7 b8 h78).trans e8
 have sz7 : W7.heap.size = w6.heap.size := by rw [← hW7, World.size_setCell]
 have lo7 : lo ≤ W7.heap.size := by rw [sz7]; exact Nat.le_trans (Nat.le_trans hlo h.below.size) B6.size
 have R7 : RowsGat lo rv (L :: Ts) W7 := h.rows.asf (f6.trans f7) fun y hy => by
  obtain ⟨_, ⟨cur, hc⟩, _⟩ := h.rows.aside (by simp) y hy
  have h1 := k6 _ _ _ hc (by decide)
  exact (k7 y fun e => by rw [e, e7] at h1; simp at h1).trans (h1.trans hc.symm)
 have P7 : PtrsGat lo (.slice (some ⟨g, 0, none⟩) (Ts.length + 1) c') (Ts ++ [r]) W7 := p6.asf f7 fun y hy => by
  obtain ⟨_, ⟨cur, hc⟩, _⟩ := p6.aside y hy
  exact k7 y fun e => by rw [e, e7] at hc; simp at hc
 refine ⟨W7, hW7, by rw [cell_of_row W7 b8 _ _ _ _ e8']; rfl, ?_⟩
 obtain ⟨v2, w8, run8, r8, B8, f8, k8, g2, c2, rfl⟩ := R7.append2 (by simp) lo7 (by simp; omega) ((hs.asf f6).asf f7)
 have a8 := k8 _ _ _ e8' (by decide)
 have a7 := k8 _ _ _ s7 (by decide)
 have ha8 : Aside b8 w8 := ⟨_, _, a8, .inr (.inr (.inr rfl)), fun x A n c e => by cases e.2⟩
 refine ⟨g2, c2, w8, run8, by rw [cell_of_row w8 b8 _ _ _ _ a8]; rfl, by simp [World.frozen?, a8], ?_⟩
 have f9 : AsF w8 (w8.setCell ⟨b8, 2, none⟩ (.slice (some ⟨g2, 0, none⟩) ((L :: Ts).length + 1) c2)) := AsF.set _ ha8
 have k9 : ∀ k, k ≠ b8 → (w8.setCell ⟨b8, 2, none⟩ (.slice (some ⟨g2, 0, none⟩) ((L :: Ts).length + 1) c2)).heap[k]? = w8.heap[k]? := fun k hk => Below.heap_setCell w8 ⟨b8, 2, none⟩ _ k hk
 have s9 := set_at3 (v := .slice (some ⟨g2, 0, none⟩) ((L :: Ts).length + 1) c2) a8
 have keep : ∀ (k : Nat) (cur : Array Value) (t : TypeId), W.heap[k]? = some (.cells cur t (0, 0)) → t ≠ 47 → t ≠ 22 → k ≠ b7 → k ≠ b8 → (w8.setCell ⟨b8, 2, none⟩ (.slice (some ⟨g2, 0, none⟩) ((L :: Ts).length + 1) c2)).heap[k]? = some (.cells cur t (0, 0)) := fun k cur t hk t1 t2 n7 n8 =>
  (k9 k n8).trans (k8 k cur t ((k7 k n7).trans (k6 k cur t hk t1)) t2)
 have n27 : r2 ≠ b8 := fun e => by have := h.hr2; rw [e, h.h8] at this; simp at this
 have n37 : r3 ≠ b7 := fun e => by have := h.hr3; rw [e, h.h7] at this; simp at this
 have nx7 : xb ≠ b7 := fun e => by have := h.hx; rw [e, h.h7] at this; simp at this
 have nx8 : xb ≠ b8 := fun e => by have := h.hx; rw [e, h.h8] at this; simp at this
 refine ⟨(k9 b7 (Ne.symm h78)).trans a7, s9, ?_, ?_, (((h.mem.asf f6).asf f7).asf f8).asf f9, ?_, keep _ _ _ h.hr2 (by decide) (by decide) (Ne.symm h72) n27, keep _ _ _ h.hr3 (by decide) (by decide) n37 (Ne.symm h83), keep _ _ _ h.hx (by decide) (by decide) nx7 nx8⟩
 · refine P7.asf (f8.trans f9) fun y hy => ?_
   obtain ⟨_, ⟨cur, hc⟩, _⟩ := P7.aside y hy
   have h1 := k8 _ _ _ hc (by decide)
   exact (k9 y fun e => by rw [e, a8] at h1; simp at h1).trans (h1.trans hc.symm)
 · have : (L :: Ts) ++ [r] = L :: (Ts ++ [r]) := rfl
   rw [← this]
   refine r8.asf f9 fun y hy => ?_
   obtain ⟨_, ⟨cur, hc⟩, _⟩ := r8.aside (by simp) y hy
   exact k9 y fun e => by rw [e, a8] at hc; simp at hc
 · have b7' : Below lo w W7 := by rw [← hW7]; exact below_set (h.below.trans B6) h7l 3 _
   exact below_set (b7'.trans B8) h8l 2 _
end Go.Proofs.YtoglloafpnopaaaGreat
