/- The laws' laid, and what stays while tablets are made. -/
import Derived.Test.YtoglloafpnopaaaGreatTV
import Derived.Test.YtoglloafpnopaaaGreatMN
import Derived.Test.YtoglloafpnopaaaGreatTlC
set_option linter.unusedSimpArgs false
set_option linter.unusedVariables false
namespace Go.Proofs.YtoglloafpnopaaaGreat
set_option maxRecDepth 16000
open Go.RowKit Spoor
set_option linter.unusedVariables false
set_option linter.unusedSimpArgs false

set_option maxHeartbeats 4000000 in
theorem laidT_any (s : Value) (l : List Ce) (w : World) (hs : SlAt s l w) (hbig : l.length ≤ 900) (hf : ∀ c ∈ l, FitsC c) :
 Calls Tryz.prog 27 #[s] w fun e w' => ∃ p fs v, e = .returned (.tuple #[.pointer (some ⟨p, 0, none⟩), v]) ∧
  Mem p (putsC [] l) fs w' ∧ (∀ x ∈ fs, w.heap.size ≤ x) ∧ w'.ownsRow w.heap.size 38 3 v (putsC [] l).length (rowOf (putsC [] l)) ∧ Below w.heap.size w w' := by
 have FT := Lib.hid (fun k (hk : k < l.length) => getD_lt hf hk)
 have ST := Lib.hid (fun k => puts_short [] l k)
 obtain ⟨A, cap, rfl, hc1, hc2, hrow⟩ := hs
 unfold maxLen at hc2
 have HR := Lib.hid hrow
 obtain ⟨n, hn⟩ : ∃ n, l.length = n := ⟨_, rfl⟩
 have HN := Lib.hid hn
 rw [hn] at hbig hc1 ⊢
 clear hrow hf hn
 go_enter Tryz.func27, Tryz.ntmps27
 go_wp2_with fail
 refine (newM_any _).mono ?_
 rintro e w1 ⟨rfl, M1, B1⟩
 have HM1 := Lib.hid M1
 clear M1
 go_wp2_with fail
 go_loopw [5] (fun i wr => ∃ (k : Nat) (fs' : List Nat), i = .int .i64 k ∧ k ≤ n ∧ Hid (Mem w.heap.size (putsC [] (l.take k)) fs' wr ∧ (∀ x ∈ fs', w.heap.size ≤ x)) ∧ Below w.heap.size w wr) (fun i _ => n - (intOf i).toNat)
 case atStart => exact ⟨0, [w.heap.size], rfl, by omega, Lib.hid ⟨by simpa [putsC] using HM1.out, by simp⟩, B1⟩
 case round =>
  obtain ⟨k, fs', rfl, hk, HM, B⟩ := hrel
  by_cases hlt : k < n
  · have hkl : k < l.length := by rw [HN.out]; exact hlt
    obtain ⟨M, hge⟩ := HM.out
    obtain ⟨b, o, rfl, hrow⟩ := HR.out (by omega)
    have hcs := (hrow.later B hrow.1).cells hkl
    obtain ⟨c, hc⟩ : ∃ c, l.getD k Ce.zero = c := ⟨_, rfl⟩
    rw [hc] at hcs
    have hfc : FitsC c := hc ▸ FT.out k hkl
    have hnext := puts_take (La := []) hkl
    rw [hc] at hnext
    obtain ⟨x0, x1, x2⟩ := hcs
    have pc := putM_any w.heap.size _ fs' c wr M (Nat.le_trans (ST.out k) (by have := HN.out; simp; omega)) hfc
    have HP := Lib.hid pc
    have HG := Lib.hid (And.intro hge (And.intro hnext B))
    clear M hge hrow hc hfc hnext pc HM B
    unfold ceVal at HP
    go_wp2_with fail
    refine HP.out.mono ?_
    rintro e w5 ⟨rfl, fs2, M5, g5, f5⟩
    obtain ⟨h1, h4, hB⟩ := HG.out
    rw [← h4] at M5
    have B5 : Below w.heap.size w w5 := hB.trans (f5.below hB.size h1)
    have h7 : ∀ x ∈ fs2, w.heap.size ≤ x := fun x hx => by
     rcases g5 x hx with h | h
     · exact h1 x h
     · have := hB.size
       omega
    have HF := Lib.hid (And.intro M5 h7)
    clear HP HG h1 h4 h7 g5 f5 M5 hB
    go_wp2_with fail
    go_roundw
    case rel => exact ⟨k + 1, fs2, rfl, by omega, Lib.hid HF.out, B5⟩
    case measure => simp [intOf]; omega
  · obtain rfl : k = n := by omega
    have MF : Mem w.heap.size (putsC [] l) fs' wr := by
     have := HM.out.1
     rwa [← HN.out, List.take_length] at this
    have hpl : (putsC [] l).length ≤ 900 := by have := puts_length l []; have := HN.out; simp at *; omega
    have RC := Lib.hid (rangeM_any _ _ _ [] [] wr MF (by omega))
    rw [rangeC_all] at RC
    have HMF := Lib.hid (And.intro MF (And.intro HM.out.2 B))
    clear MF HM HR B hpl
    go_wp2_with fail
    refine RC.out.mono ?_
    rintro e w6 ⟨b6, v, rfl, own⟩
    have HE := Lib.hid (And.intro (HMF.out.1.later b6) (And.intro (own.mono HMF.out.2.2.size) (HMF.out.2.2.trans (b6.mono HMF.out.2.2.size))))
    obtain ⟨A6, c6, rfl⟩ := own_slice own
    clear b6 own
    go_wp2_with fail
    refine bodyPost_ret (v := .tuple #[.pointer (some ⟨w.heap.size, 0, none⟩), .slice A6 (putsC [] l).length c6]) (by simp [results, Tryz.results27, go_sem, *]) rfl ?_
    exact ⟨w.heap.size, fs', _, rfl, HE.out.1, HMF.out.2.1, HE.out.2.1, HE.out.2.2⟩
/-- a block of rows, of tables' places, or of a tablet's fields: no part of a memory or a table -/
def Aside (k : Nat) (W : World) : Prop := ∃ cur t, W.heap[k]? = some (.cells cur t (0, 0)) ∧ (t = 22 ∨ t = 47 ∨ t = 31 ∨ t = 33) ∧ ∀ x A n c, ¬ (cur[0]? = some (.string x) ∧ cur[1]? = some (.slice A n c))
/-- nothing but such blocks was turned -/
def AsF (W W' : World) : Prop := W.heap.size ≤ W'.heap.size ∧ ∀ k, k < W.heap.size → ¬ Aside k W → W'.heap[k]? = W.heap[k]?
theorem Aside.not {k : Nat} {W : World} {cur : Array Value} {t : TypeId} (h : W.heap[k]? = some (.cells cur t (0, 0))) (ht : t ≠ 22 ∧ t ≠ 47 ∧ t ≠ 31 ∧ t ≠ 33) : ¬ Aside k W := fun ⟨cur', t', h', ht', _⟩ => by
 rw [h] at h'
 simp only [Option.some.injEq, Obj.cells.injEq] at h'
 obtain ⟨-, rfl, -⟩ := h'
 rcases ht' with e | e | e | e
 · exact ht.1 e
 · exact ht.2.1 e
 · exact ht.2.2.1 e
 · exact ht.2.2.2 e
theorem AsF.cells {W W' : World} (f : AsF W W') {k : Nat} {cur : Array Value} {t : TypeId} (h : W.heap[k]? = some (.cells cur t (0, 0))) (ht : t ≠ 22 ∧ t ≠ 47 ∧ t ≠ 31 ∧ t ≠ 33) : W'.heap[k]? = W.heap[k]? :=
 f.2 k (Array.getElem?_eq_some_iff.1 h).1 (Aside.not h ht)
theorem SlC.asf {v : Value} {l : List Ce} {W W' : World} (h : SlC v l W) (f : AsF W W') : SlC v l W' := h.same f.1 fun b e => by
 obtain ⟨cur, hc⟩ := h.2 b e
 exact f.cells hc (by decide)
theorem PageAt.ty' {s : Value} {g : List Ce} {b : Nat} {W : World} (h : PageAt s g b W) : (∃ A n c, s = .slice A n c) ∧ ∃ cur, W.heap[b]? = some (.cells cur 38 (0, 0)) := by
 obtain ⟨cap, cur, e, h1, h2, h3, -⟩ := h
 exact ⟨⟨_, _, _, e⟩, cur, h3⟩
theorem TabAt.asf {t : Nat} {gs : List (List Ce)} {W W' : World} (h : TabAt t gs W) (f : AsF W W') : TabAt t gs W' := by
 obtain ⟨v, h1, A, cap, e, k1, k2, hz, k3⟩ := h
 refine ⟨v, (f.cells h1 (by decide)).trans h1, A, cap, e, k1, k2, hz, fun h0 => ?_⟩
 obtain ⟨g, e2, hl, hg, hc⟩ := k3 h0
 have hkg : W'.heap[g]? = W.heap[g]? := f.2 g hg fun ⟨cur, t', hb, _, hn⟩ => by
  obtain ⟨c1, s, b, c2, c3, c4⟩ := hc 0 h0
  obtain ⟨⟨A', n', c', rfl⟩, -⟩ := c4.ty'
  rw [cell_of_row W g _ _ _ _ hb] at c1 c2
  exact hn _ _ _ _ ⟨c1, c2⟩
 refine ⟨g, e2, hl, Nat.lt_of_lt_of_le hg f.1, fun i hi => ?_⟩
 obtain ⟨c1, s, b, c2, c3, c4⟩ := hc i hi
 obtain ⟨-, cur, hb⟩ := c4.ty'
 exact ⟨(World.cell?_of_block (a := ⟨g, i * 2, none⟩) hkg).trans c1, s, b, (World.cell?_of_block (a := ⟨g, i * 2 + 1, none⟩) hkg).trans c2, c3, c4.same (f.cells hb (by decide))⟩
theorem Mem.asf {p : Nat} {L : List Ce} {fs : List Nat} {W W' : World} (h : Mem p L fs W) (f : AsF W W') : Mem p L fs W' := by
 refine h.same fun b hb => ?_
 obtain ⟨gs, ⟨v, fs', rfl, hp, hP⟩, ok, hL⟩ := h
 rcases List.mem_cons.1 hb with rfl | hb
 · exact f.cells hp (by decide)
 · by_cases h0 : 0 < gs.length
   · obtain ⟨g, cap, cur, bs, -, -, -, h4, -, rfl, -, h7⟩ := hP.open h0
     rcases List.mem_cons.1 hb with rfl | hb
     · exact f.cells h4 (by decide)
     · obtain ⟨c, hc⟩ := h7.ty b hb
       exact f.cells hc (by decide)
   · rcases hP with ⟨_, _, rfl⟩ | ⟨_, _, _, _, _, h, _⟩
     · cases hb
     · exact absurd h h0
theorem MemPtr.asf {M : Option Addr} {L : List Ce} {W W' : World} (h : MemPtr M L W) (f : AsF W W') : MemPtr M L W' := by
 rcases h with h | ⟨p, fs, e, h⟩
 · exact .inl h
 · exact .inr ⟨p, fs, e, h.asf f⟩
theorem TabPtr.asf {P : Option Addr} {r : List Ce} {W W' : World} (h : TabPtr P r W) (f : AsF W W') : TabPtr P r W' := by
 rcases h with h | ⟨t, gs, e, h, h2⟩
 · exact .inl h
 · exact .inr ⟨t, gs, e, h.asf f, h2⟩
end Go.Proofs.YtoglloafpnopaaaGreat
