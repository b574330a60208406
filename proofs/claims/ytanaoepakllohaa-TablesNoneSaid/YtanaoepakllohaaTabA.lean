/- strings.Builder beside other memory: which blocks a text more changes. -/
import Derived.Test.YtanaoepakllohaaBuilder
import Derived.Test.YtanaoepakllohaaTabG
import Derived.Test.YtanaoepakllohaaTables0
set_option linter.unusedSimpArgs false
set_option linter.unusedVariables false
namespace Go.Proofs.Ytanaoepakllohaa
set_option maxRecDepth 16000
open Go.RowKit Spoor
set_option linter.unusedVariables false

/-- block b is a builder that holds these bytes, in the blocks fs -/
def BldF (b : Nat) (l : List UInt8) (fs : List Nat) (w : World) : Prop :=
  b ∈ fs ∧ (∀ x ∈ fs, x < w.heap.size) ∧ ∃ p v, (p = .pointer none ∨ p = .pointer (some ⟨b, 0, none⟩)) ∧ w.heap[b]? = some (.cells #[p, v] 62 (0, 0)) ∧ w.ownsRow 0 5 1 v l.length (Lib.byteCells l) ∧ ∀ k, v.ownBlock = some k → k ∈ fs ∧ k ≠ b
theorem byteCells_length (l : List UInt8) : (Lib.byteCells l).length = l.length := by simp [Lib.byteCells]
theorem BldF.bld {b : Nat} {l : List UInt8} {fs : List Nat} {w : World} (h : BldF b l fs w) : Bld 0 b l w := by
  obtain ⟨h1, h2, p, v, hp, h3, h4, h5⟩ := h
  have hv : v.ownBlock ≠ some b := fun e => (h5 b e).2 rfl
  rcases hp with rfl | rfl
  · exact .inl ⟨Nat.zero_le _, v, h3, by rw [byteCells_length]; exact h4, hv⟩
  · exact .inr ⟨Nat.zero_le _, v, h3, by rw [byteCells_length]; exact h4, hv⟩
theorem BldF.same {b : Nat} {l : List UInt8} {fs : List Nat} {w w' : World} (h : BldF b l fs w) (hk : ∀ x ∈ fs, w'.heap[x]? = w.heap[x]?) (hs : w.heap.size ≤ w'.heap.size) : BldF b l fs w' := by
  obtain ⟨h1, h2, p, v, hp, h3, h4, h5⟩ := h
  refine ⟨h1, fun x hx => Nat.lt_of_lt_of_le (h2 x hx) hs, p, v, hp, (hk b h1).trans h3, ?_, h5⟩
  refine ⟨h4.1, ?_⟩
  rcases h4.2 with h | ⟨g, cap, cur, rfl, hb, hg, h6⟩
  · exact .inl h
  · exact .inr ⟨g, cap, cur, rfl, hb, (hk g (h5 g rfl).1).trans hg, h6⟩
theorem BldF.fr {b : Nat} {l : List UInt8} {fs S : List Nat} {w w' : World} (h : BldF b l fs w) (f : Fr S w w') (hd : ∀ x ∈ fs, x ∉ S) : BldF b l fs w' := by
  have h2 := h.2.1
  exact h.same (fun x hx => f.block x (h2 x hx) (hd x hx)) f.size
theorem BldF.later {b : Nat} {l : List UInt8} {fs : List Nat} {w w' : World} (h : BldF b l fs w) (hb : Below w.heap.size w w') : BldF b l fs w' := h.fr (S := []) (Fr.of_below hb) (by simp)
theorem BldF.fresh (w : World) : BldF w.heap.size [] [w.heap.size] (w.alloc (.cells #[.pointer none, .slice none 0 0] 62)) :=
  ⟨by simp, fun x hx => by rw [List.mem_singleton] at hx; subst hx; simp, _, _, .inl rfl, heap_alloc_new w _, World.ownsRow_nil _ _ _ _, fun k hk => by simp [Value.ownBlock] at hk⟩
/-- where the new slice lies, after a text is appended -/
theorem append_string_at {w : World} {v v' : Value} {w' : World} {n : Nat} {xs : List Value} {t u ty e : TypeId} {i : TypeInfo} (ht : Try.prog.underlying t = some (.slice e)) (hu : Try.prog.underlying u = some .string) (hi : Try.prog.info? e = some i) (hz : i.zero = some (.int .u8 0)) (hsize : i.size = 1) (hby : i.bytes = 1)
    (own : w.ownsRow 0 e 1 v n xs) (s : ByteArray) (h63 : n + s.size ≤ maxLen) (hbytes : n + s.size ≤ 140737488355328)
    (hr : (Builtin.append_ #[t, u] ty #[v, .string s]).run Try.prog w = .ok v' w') (h4 : v' = .slice none 0 0 ↔ v = .slice none 0 0 ∧ s.size = 0) : v'.ownBlock = v.ownBlock ∨ v'.ownBlock = some w.heap.size := by
  have hsmall : n + s.size ≤ 9223372036854775807 := by simp only [maxLen] at h63; omega
  rcases own.2 with ⟨rfl, rfl⟩ | ⟨g, cap, cur, rfl, hbg, hg, hnc, hcm, hcs, htake⟩
  · by_cases hm : s.size = 0
    · exact .inl (by rw [h4.2 ⟨rfl, hm⟩])
    · have h := run_append_nil_string (P := Try.prog) w t u ty e i (.int .u8 0) ht hu hi hz s (by omega) (by omega) (by rw [hby]; omega)
      rw [h] at hr
      injection hr with e1 e2
      rw [← e1]
      exact .inr rfl
  · by_cases hroom : n + s.size ≤ cap
    · have h := Lib.run_append_room_string (P := Try.prog) w t u ty e i ht hu hi hsize g n cap cur hg s hroom (by omega)
      rw [h] at hr
      injection hr with e1 e2
      rw [← e1]
      exact .inl rfl
    · have hxl : xs.length = n := by simpa using own.1
      have holds : ∀ j u, xs[j]? = some u → w.cell? ((⟨g, 0, none⟩ : Addr).add j) = some u := own.cells (g := g) rfl
      have h := Lib.run_append_grow_string (P := Try.prog) w t u ty e i (.int .u8 0) ht hu hi hz ⟨g, 0, none⟩ n cap xs (by rw [hsize]; simpa using hxl) holds s (by omega) (by omega) (by rw [hby]; exact growslice_fits (by omega) (by omega))
      rw [h] at hr
      injection hr with e1 e2
      rw [← e1]
      exact .inr rfl
theorem copyCheckF_any (b : Nat) (l : List UInt8) (fs : List Nat) (w : World) (h : BldF b l fs w) :
    Calls Try.prog 59 #[.pointer (some ⟨b, 0, none⟩)] w fun e w' => e = .returned (.tuple #[]) ∧ (∃ v, w'.heap[b]? = some (.cells #[.pointer (some ⟨b, 0, none⟩), v] 62 (0, 0)) ∧ w'.ownsRow 0 5 1 v l.length (Lib.byteCells l) ∧ ∀ k, v.ownBlock = some k → k ∈ fs ∧ k ≠ b) ∧ Fr fs w w' := by
  obtain ⟨h1, h2, p, v, hp, h3, h4, h5⟩ := h
  rcases hp with rfl | rfl
  · have hsh : w.shape? b = some (62, 2) := by simp [World.shape?, h3]
    refine (copyCheck_fresh b w (by rw [Lib.cell_of_heap h3]; rfl) hsh (Lib.frozen_of_heap h3 0)).mono ?_
    rintro e w' ⟨rfl, rfl⟩
    refine ⟨rfl, ⟨v, ?_, ?_, h5⟩, (Fr.refl fs w).set ⟨b, 0, none⟩ (.inl h1) _⟩
    · rw [heap_setCell_same w b 0 _ _ _ h3]
      rfl
    · refine ⟨h4.1, ?_⟩
      rcases h4.2 with h | ⟨g, cap, cur, rfl, hb, hg, h6⟩
      · exact .inl h
      · exact .inr ⟨g, cap, cur, rfl, hb, (Below.heap_setCell w ⟨b, 0, none⟩ _ g (h5 g rfl).2).trans hg, h6⟩
  · refine (copyCheck_used b w (by rw [Lib.cell_of_heap h3]; rfl)).mono ?_
    rintro e w' ⟨rfl, rfl⟩
    exact ⟨rfl, ⟨v, h3, h4, h5⟩, Fr.refl _ _⟩
set_option maxRecDepth 100000 in
theorem writeF_any (b : Nat) (l : List UInt8) (fs : List Nat) (s : List UInt8) (w : World) (h : BldF b l fs w) (hlen : l.length + s.length ≤ 140737488355328) :
    Calls Try.prog 29 #[.pointer (some ⟨b, 0, none⟩), .string ⟨s.toArray⟩] w fun e w' => e = .returned (.tuple #[.int .i64 s.length, .nilIface]) ∧ ∃ fs', BldF b (l ++ s) fs' w' ∧ (∀ x ∈ fs', x ∈ fs ∨ w.heap.size ≤ x) ∧ Fr fs w w' := by
  obtain ⟨i0, hi, hz0, hz1, hz2⟩ := info_parts info_u8
  have hss : (⟨s.toArray⟩ : ByteArray).size = s.length := by simp [ByteArray.size]
  have hB := h.1
  have hL := h.2.1
  have cc := copyCheckF_any b l fs w h
  have CC := Lib.hid cc
  clear cc h
  go_enter Try.func29, Try.ntmps29
  go_wp2_with fail
  refine CC.out.mono ?_
  rintro e w1 ⟨rfl, ⟨v, hbk, own, hne⟩, f1⟩
  have hlt : b < w1.heap.size := (Array.getElem?_eq_some_iff.1 hbk).1
  obtain ⟨v', w2, run, own', gr, h4⟩ := Lib.run_append_own_string (P := Try.prog) w1 0 60 9 60 5 i0 Try.underlying60 Try.underlying9 hi hz0 hz1 hz2 v l.length (Lib.byteCells l) own ⟨s.toArray⟩ (by rw [hss]; unfold maxLen; omega) (by rw [hss]; omega) (Nat.zero_le _)
  have hat := append_string_at Try.underlying60 Try.underlying9 hi hz0 hz1 hz2 own ⟨s.toArray⟩ (by rw [hss]; unfold maxLen; omega) (by rw [hss]; omega) run h4
  have c0 : w1.cell? ⟨b, 0, none⟩ = some (.pointer (some ⟨b, 0, none⟩)) := by rw [Lib.cell_of_heap hbk]; rfl
  have c1 : w1.cell? ⟨b, 1, none⟩ = some v := by rw [Lib.cell_of_heap hbk]; rfl
  have hb2 : w2.heap[b]? = some (.cells #[.pointer (some ⟨b, 0, none⟩), v] 62 (0, 0)) := by
    rw [gr.block b hlt (fun e => (hne b e.symm).2 rfl)]
    exact hbk
  have d0 : w2.cell? ⟨b, 0, none⟩ = some (.pointer (some ⟨b, 0, none⟩)) := by rw [Lib.cell_of_heap hb2]; rfl
  have d1 : w2.cell? ⟨b, 1, none⟩ = some v := by rw [Lib.cell_of_heap hb2]; rfl
  have fz : w2.frozen? ⟨b, 1, none⟩ = false := Lib.frozen_of_heap hb2 1
  obtain ⟨ao, n', cap, rfl⟩ : ∃ ao n' cap, v' = .slice ao n' cap := by
    rcases own'.2 with ⟨hv, _⟩ | ⟨g, cap, cur, hv, _⟩
    · exact ⟨_, _, _, hv⟩
    · exact ⟨_, _, _, hv⟩
  have hxx : Lib.byteCells l ++ Lib.strCells ⟨s.toArray⟩ = Lib.byteCells (l ++ s) := by rw [byteCells_append]
  rw [hss, hxx] at own'
  have f2 : Fr fs w w2 := f1.grown gr (fun k hk => .inl (hne k hk).1)
  have own3 : (w2.setCell ⟨b, 1, none⟩ (.slice ao n' cap)).ownsRow 0 5 1 (.slice ao n' cap) (l ++ s).length (Lib.byteCells (l ++ s)) ∧ ∀ k, (Value.slice ao n' cap).ownBlock = some k → k ≠ b ∧ k < w2.heap.size ∧ (k ∈ fs ∨ w.heap.size ≤ k) := by
    have hk : ∀ k, (Value.slice ao n' cap).ownBlock = some k → k ≠ b ∧ k < w2.heap.size ∧ (k ∈ fs ∨ w.heap.size ≤ k) := by
      intro k hk
      refine ⟨?_, ?_, ?_⟩
      · rcases hat with e | e
        · exact (hne k (by rw [← e]; exact hk)).2
        · rw [hk] at e
          injection e with e
          omega
      · rcases own'.2 with ⟨hv, _⟩ | ⟨g, cap', cur, hv, _, hg, _⟩
        · rw [hv] at hk; simp [Value.ownBlock] at hk
        · rw [hv] at hk
          obtain rfl : g = k := by simpa [Value.ownBlock] using hk
          exact (Array.getElem?_eq_some_iff.1 hg).1
      · rcases hat with e | e
        · exact .inl (hne k (by rw [← e]; exact hk)).1
        · rw [hk] at e
          injection e with e
          have := f1.size
          exact .inr (by omega)
    refine ⟨?_, hk⟩
    rw [List.length_append]
    refine ⟨own'.1, ?_⟩
    rcases own'.2 with h | ⟨g, cap', cur, hv, hb, hg, h6⟩
    · exact .inl h
    · exact .inr ⟨g, cap', cur, hv, hb, (Below.heap_setCell w2 ⟨b, 1, none⟩ _ g (hk g (by rw [hv]; rfl)).1).trans hg, h6⟩
  have hfin : ∃ fs', BldF b (l ++ s) fs' (w2.setCell ⟨b, 1, none⟩ (.slice ao n' cap)) ∧ (∀ x ∈ fs', x ∈ fs ∨ w.heap.size ≤ x) ∧ Fr fs w (w2.setCell ⟨b, 1, none⟩ (.slice ao n' cap)) := by
    have hbl : (w2.setCell ⟨b, 1, none⟩ (.slice ao n' cap)).heap[b]? = some (.cells #[.pointer (some ⟨b, 0, none⟩), .slice ao n' cap] 62 (0, 0)) := by
      rw [heap_setCell_same w2 b 1 _ _ _ hb2]
      rfl
    have hfr := f2.set ⟨b, 1, none⟩ (.inl hB) (.slice ao n' cap)
    rcases ho : (Value.slice ao n' cap).ownBlock with _ | g
    · refine ⟨[b], ⟨by simp, fun x hx => ?_, _, _, .inr rfl, hbl, own3.1, fun k hk => by rw [ho] at hk; cases hk⟩, fun x hx => ?_, hfr⟩
      · rw [List.mem_singleton] at hx
        subst hx
        simpa [World.setCell] using Nat.lt_of_lt_of_le hlt gr.size
      · rw [List.mem_singleton] at hx
        subst hx
        exact .inl hB
    · obtain ⟨g1, g2, g3⟩ := own3.2 g ho
      refine ⟨[b, g], ⟨by simp, fun x hx => ?_, _, _, .inr rfl, hbl, own3.1, fun k hk => ?_⟩, fun x hx => ?_, hfr⟩
      · rcases List.mem_cons.1 hx with rfl | hx
        · simpa [World.setCell] using Nat.lt_of_lt_of_le hlt gr.size
        · rw [List.mem_singleton] at hx
          subst hx
          simpa [World.setCell] using g2
      · rw [ho] at hk
        injection hk with hk
        subst hk
        exact ⟨by simp, g1⟩
      · rcases List.mem_cons.1 hx with rfl | hx
        · exact .inl hB
        · rw [List.mem_singleton] at hx
          subst hx
          exact g3
  have HF := Lib.hid hfin
  have RUN := Lib.hid run
  clear hfin own3 f2 hxx own' hat run h4 gr hb2 hbk own hne f1 CC hB hL
  go_wp2_with (at_builtin; refine wpList_append_runE _ rfl _ _ 60 9 rfl _ _ rfl rfl RUN.out ?_)
  go_ret2
  exact ⟨by simp [ByteArray.size], HF.out⟩
end Go.Proofs.Ytanaoepakllohaa
