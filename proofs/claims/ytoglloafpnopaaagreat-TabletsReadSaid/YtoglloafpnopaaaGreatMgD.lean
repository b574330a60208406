/- The heap's methods, found through the interface. container/heap's up, over rows. container/heap's down, over rows. container/heap's Push and Pop, over rows. -/
import Derived.Test.YtoglloafpnopaaaGreatMgC
set_option linter.unusedSimpArgs false
set_option linter.unusedVariables false
namespace Go.Proofs.YtoglloafpnopaaaGreat
set_option maxRecDepth 16000
open Go.RowKit Spoor
theorem wrap_chk (ts : Array TypeId) (t : TypeId) (a : Addr) (x y : String) : Builtin.ssaWrapNilChk_ ts t #[.pointer (some a), strVal x, strVal y] = pure (.pointer (some a)) := rfl
theorem meth_row (name : String) (f : FuncId) (hm : ((Tryz.prog.info? 174).bind fun i => i.methods.find? fun m => m.name == name).map (fun m => (m.path.toList, m.func)) = some ([], some (f, false))) (N p : Nat) (A : Option Addr) (n cap : Nat) (W : World) (hx : W.cell? ⟨p, 0, none⟩ = some (.slice A n cap)) :
 (method (N + 1) 174 (.pointer (some ⟨p, 0, none⟩)) name).run Tryz.prog W = .ok (f, .slice A n cap) W := by
 cases hi : Tryz.prog.info? 174 with
 | none => rw [hi] at hm; cases hm
 | some i =>
   rw [hi] at hm
   simp only [Option.bind_some] at hm
   cases hf : i.methods.find? (fun m => m.name == name) with
   | none => rw [hf] at hm; cases hm
   | some m =>
     rw [hf] at hm
     simp only [Option.map_some, Option.some.injEq, Prod.mk.injEq] at hm
     obtain ⟨h1, h2⟩ := hm
     have h3 : m.path = #[] := by rw [← Array.toList_inj]; simpa using h1
     unfold method
     simp [typeInfo, hi, hf, h1, h2, h3, follow, receiverAt, Place.get, run_underlying Tryz.underlying174]
     simp only [wrap_chk]
     go_simp
theorem meth_ptr (name : String) (f : FuncId) (hm : ((Tryz.prog.info? 174).bind fun i => i.methods.find? fun m => m.name == name).map (fun m => (m.path.toList, m.func)) = some ([], some (f, true))) (N p : Nat) (W : World) :
 (method (N + 1) 174 (.pointer (some ⟨p, 0, none⟩)) name).run Tryz.prog W = .ok (f, .pointer (some ⟨p, 0, none⟩)) W := by
 cases hi : Tryz.prog.info? 174 with
 | none => rw [hi] at hm; cases hm
 | some i =>
   rw [hi] at hm
   simp only [Option.bind_some] at hm
   cases hf : i.methods.find? (fun m => m.name == name) with
   | none => rw [hf] at hm; cases hm
   | some m =>
     rw [hf] at hm
     simp only [Option.map_some, Option.some.injEq, Prod.mk.injEq] at hm
     obtain ⟨h1, h2⟩ := hm
     have h3 : m.path = #[] := by rw [← Array.toList_inj]; simpa using h1
     unfold method
     simp [typeInfo, hi, hf, h1, h2, h3, follow, receiverAt, Place.get, run_underlying Tryz.underlying174]
theorem meth_less (N p : Nat) (A : Option Addr) (n cap : Nat) (W : World) (hx : W.cell? ⟨p, 0, none⟩ = some (.slice A n cap)) : (method (N + 1) 174 (.pointer (some ⟨p, 0, none⟩)) "Less").run Tryz.prog W = .ok (174, .slice A n cap) W := meth_row "Less" _ (by kernel_rfl) N p A n cap W hx
theorem meth_swap (N p : Nat) (A : Option Addr) (n cap : Nat) (W : World) (hx : W.cell? ⟨p, 0, none⟩ = some (.slice A n cap)) : (method (N + 1) 174 (.pointer (some ⟨p, 0, none⟩)) "Swap").run Tryz.prog W = .ok (175, .slice A n cap) W := meth_row "Swap" _ (by kernel_rfl) N p A n cap W hx
theorem meth_len (N p : Nat) (A : Option Addr) (n cap : Nat) (W : World) (hx : W.cell? ⟨p, 0, none⟩ = some (.slice A n cap)) : (method (N + 1) 174 (.pointer (some ⟨p, 0, none⟩)) "Len").run Tryz.prog W = .ok (173, .slice A n cap) W := meth_row "Len" _ (by kernel_rfl) N p A n cap W hx
theorem meth_push (N p : Nat) (W : World) : (method (N + 1) 174 (.pointer (some ⟨p, 0, none⟩)) "Push").run Tryz.prog W = .ok (177, .pointer (some ⟨p, 0, none⟩)) W := meth_ptr "Push" _ (by kernel_rfl) N p W
theorem meth_pop (N p : Nat) (W : World) : (method (N + 1) 174 (.pointer (some ⟨p, 0, none⟩)) "Pop").run Tryz.prog W = .ok (176, .pointer (some ⟨p, 0, none⟩)) W := meth_ptr "Pop" _ (by kernel_rfl) N p W
def Full (H : List Rw) : Prop := ∀ i, i < H.length → (H.getD i rz).1 ≠ []
theorem Full.perm {H H' : List Rw} (h : Full H) (p : H'.Perm H) : Full H' := fun i hi => by
 have e : H'.getD i rz = H'[i] := by simp [List.getD, hi]
 rw [e]
 have hm : H'[i] ∈ H := p.mem_iff.1 (List.getElem_mem hi)
 obtain ⟨j, hj, e2⟩ := List.getElem_of_mem hm
 have := h j hj
 rw [show H.getD j rz = H[j] by simp [List.getD, hj], e2] at this
 exact this
theorem HpAt.make {p base g cap : Nat} {H H' : List Rw} {vs vs' : List Value} {W W' : World} (h : HpAt p base H vs W) (hp : W'.heap[p]? = some (.cells #[.slice (some ⟨g, 0, none⟩) H'.length cap] 172 (0, 0))) (hb : base ≤ g) (hr : RwAt g cap H' vs' W') (hs : W.heap.size ≤ W'.heap.size) : HpAt p base H' vs' W' :=
 ⟨⟨_, hp, hr.owns hb⟩, hr.len, hr.sl, h.lt, Nat.le_trans h.le hs⟩
theorem HpAt.later {p base : Nat} {H : List Rw} {vs : List Value} {W W' : World} (h : HpAt p base H vs W) (hb : Below W.heap.size W W') : HpAt p base H vs W' := by
 obtain ⟨v, h1, h2⟩ := h.own
 exact ⟨⟨v, (hb.block p (Go.ltA h1)).trans h1, own_lat h2 hb⟩, h.len, fun i hi => (h.sl i hi).later hb, h.lt, Nat.le_trans h.le hb.size⟩
theorem swapV_mem {vs : List Value} {i j : Nat} (hi : i < vs.length) (hj : j < vs.length) : ∀ x ∈ swapV vs i j, x ∈ vs := fun x hx => by
 unfold swapV at hx
 have hg : ∀ k, k < vs.length → vs.getD k undef ∈ vs := fun k hk => by rw [show vs.getD k undef = vs[k] by simp [List.getD, hk]]; exact List.getElem_mem hk
 rcases List.mem_or_eq_of_mem_set hx with h | rfl
 · rcases List.mem_or_eq_of_mem_set h with h | rfl
   · exact h
   · exact hg _ hj
 · exact hg _ hi
set_option maxRecDepth 100000 in
set_option maxHeartbeats 4000000 in
theorem up_any (p base j : Nat) (H : List Rw) (vs : List Value) (w : World) (h : HpAt p base H vs w) (hf : Full H) (hu : UpI H j) (hn : H.length ≤ 100000) :
 Calls Tryz.prog 126 #[.iface 174 (.pointer (some ⟨p, 0, none⟩)), .int .i64 j] w fun e w' => e = .returned (.tuple #[]) ∧ ∃ H' vs', H'.Perm H ∧ HeapR H'.length H' ∧ HpAt p base H' vs' w' ∧ RFr p w w' ∧ ∀ x ∈ vs', x ∈ vs := by
 have HH := Lib.hid (And.intro h (And.intro hf hu))
 clear h hf hu
 go_enter Tryz.func126, Tryz.ntmps126
 go_wp2_with fail
 go_loopw [1] (fun jv wr => ∃ (j : Nat) (H' : List Rw) (vs' : List Value), jv = .int .i64 j ∧ j < 100000 ∧ Hid (HpAt p base H' vs' wr ∧ RFr p w wr ∧ UpI H' j ∧ H'.Perm H) ∧ Hid (∀ x ∈ vs', x ∈ vs)) (fun jv _ => (intOf jv).toNat)
 case atStart => exact ⟨j, H, vs, rfl, by have := HH.out.2.2.lt; omega, Lib.hid ⟨HH.out.1, RFr.refl _ _, HH.out.2.2, List.Perm.refl _⟩, Lib.hid fun _ h => h⟩
 case round =>
  obtain ⟨j, H', vs', rfl, hj, HR, HV⟩ := hrel
  by_cases h0 : j = 0
  · subst h0
    go_wp2_with fail
    go_end0
    exact ⟨rfl, H', vs', HR.out.2.2.2, HR.out.2.2.1.done (.inl rfl), HR.out.1, HR.out.2.1, HV.out⟩
  · obtain ⟨i, hi⟩ : ∃ i, par j = i := ⟨_, rfl⟩
    have hq : Int.tdiv ((j : Int) - 1) 2 = (i : Int) := by rw [show (j : Int) - 1 = ((j - 1 : Nat) : Int) by omega, ← hi]; rfl
    have hw : IntKind.i64.wrap ((j : Int) - 1) = (j : Int) - 1 := by rw [IntKind.wrap_i64]; omega
    have hw2 : IntKind.i64.wrap (i : Int) = (i : Int) := by rw [IntKind.wrap_i64]; have := par_lt (i := j) (by omega); omega
    have hij : ¬ (i : Int) = (j : Int) := by have := par_lt (i := j) (by omega); omega
    have hij2 : ¬ i = j := by omega
    have hpos : 0 < H'.length := by have := HR.out.2.2.1.lt; omega
    obtain ⟨g, cap, hp, hb, hr⟩ := HR.out.1.row hpos
    obtain ⟨n, hnn⟩ : ∃ n, H'.length = n := ⟨_, rfl⟩
    rw [hnn] at hp
    have hx : wr.cell? ⟨p, 0, none⟩ = some (.slice (some ⟨g, 0, none⟩) n cap) := by simp [World.cell?, hp]
    have ml := fun N => meth_less N p (some ⟨g, 0, none⟩) n cap wr hx
    have hip : i < j := by have := par_lt (i := j) (by omega); omega
    have hij3 : ((i : Int) == (j : Int)) = false := by rw [beq_eq_false_iff_ne]; exact hij
    have hil : i < H'.length := by have := HR.out.2.2.1.lt; have := par_lt (i := j) (by omega); omega
    have hjl := HR.out.2.2.1.lt
    have cl := rowsLess_any g cap j i H' vs' wr hr hjl hil ((HH.out.2.1.perm HR.out.2.2.2) j hjl) ((HH.out.2.1.perm HR.out.2.2.2) i hil)
    rw [hnn] at cl
    have CL := Lib.hid cl
    have HP := Lib.hid hp
    have HRW := Lib.hid (And.intro hr (And.intro hjl hil))
    have hin : i < n := by rw [← hnn]; exact hil
    have hjn : j < n := by rw [← hnn]; exact hjl
    clear cl hp hr hjl hil
    go_wp2_with fail
    refine CL.out.mono ?_
    rintro e w1 ⟨rfl, b1⟩
    have hpl := (Go.ltA HP.out)
    have hp1 := (b1.block p hpl).trans HP.out
    have f1 : RFr p wr w1 := RFr.of b1 (Nat.le_of_lt hpl)
    have hr1 := HRW.out.1.later b1
    have h1 := HR.out.1.later b1
    have HB1 := Lib.hid (And.intro h1 (HR.out.2.1.trans f1))
    cases hl : rless (H'.getD j rz) (H'.getD i rz) with
    | false =>
      have HE := Lib.hid (HR.out.2.2.1.done (.inr (by rw [hi]; exact hl)))
      clear h1 hr1 f1 hp1 ml
      go_wp2_with fail
      go_end0
      exact ⟨rfl, H', vs', HR.out.2.2.2, HE.out, HB1.out.1, HB1.out.2, HV.out⟩
    | true =>
      have hx1 : w1.cell? ⟨p, 0, none⟩ = some (.slice (some ⟨g, 0, none⟩) n cap) := by simp [World.cell?, hp1]
      have ms := fun N => meth_swap N p (some ⟨g, 0, none⟩) n cap w1 hx1
      have cs := rowsSwap_any g cap i j p H' vs' w1 hr1 HRW.out.2.2 HRW.out.2.1 (by have := h1.lt; omega)
      rw [hnn] at cs
      have CS := Lib.hid cs
      have HVS := Lib.hid (swapV_mem (vs := vs') (i := i) (j := j) (by rw [HR.out.1.len, hnn]; exact hin) (by rw [HR.out.1.len, hnn]; exact hjn))
      have HU := Lib.hid (by have := HR.out.2.2.1.step (by omega) (by rw [hi]; exact hl); rwa [hi] at this : UpI (swapR H' i j) i)
      have HP1 := Lib.hid hp1
      have HG := Lib.hid (And.intro hb hr1)
      clear h1 f1 hp1 ml cs hr1
      go_wp2_with fail
      refine CS.out.mono ?_
      rintro e w2 ⟨rfl, hr2, b2, k2⟩
      have hgp : p ≠ g := by have := HB1.out.1.lt; have := hb; omega
      have hp2 := (k2 p hgp).trans HP1.out
      have hls : (swapR H' i j).length = n := by rw [swapR_length]; exact hnn
      have h2 : HpAt p base (swapR H' i j) (swapV vs' i j) w2 := HB1.out.1.make (by rw [hls]; exact hp2) hb hr2 b2.size
      have f2 : RFr p w1 w2 := ⟨b2, fun k hk hkp hkr => k2 k (fun e => by
       obtain ⟨cur, hc, -⟩ := HG.out.2.blk
       rw [e] at hkr
       exact hkr cur hc)⟩
      have HE := Lib.hid (And.intro h2 (And.intro (HB1.out.2.trans f2) (And.intro HU.out ((swapR_perm (by rw [hnn]; exact hin) (by rw [hnn]; exact hjn)).trans HR.out.2.2.2))))
      clear h2 f2 hp2 k2 hr2 b2 ms
      go_wp2_with fail
      go_roundw
      case rel => exact ⟨i, swapR H' i j, swapV vs' i j, rfl, by omega, Lib.hid HE.out, Lib.hid fun x hx => HV.out x (HVS.out x hx)⟩
      case measure => simp [intOf]; omega
theorem par_kids {c i : Nat} (h0 : 0 < c) (h : par c = i) : c = 2 * i + 1 ∨ c = 2 * i + 2 := by unfold par at h; omega
theorem par_kid1 (i : Nat) : par (2 * i + 1) = i := by unfold par; omega
theorem par_kid2 (i : Nat) : par (2 * i + 2) = i := by unfold par; omega
set_option maxRecDepth 100000 in
set_option maxHeartbeats 4000000 in
theorem down_any (p base n : Nat) (H : List Rw) (vs : List Value) (w : World) (h : HpAt p base H vs w) (hf : Full H) (hd : DnI n H 0) (hn : H.length ≤ 100000) :
 Calls Tryz.prog 137 #[.iface 174 (.pointer (some ⟨p, 0, none⟩)), .int .i64 0, .int .i64 n] w fun e w' => (∃ b, e = .returned (.bool b)) ∧ ∃ H' vs', H'.Perm H ∧ HeapR n H' ∧ (∀ k, n ≤ k → H'.getD k rz = H.getD k rz) ∧ HpAt p base H' vs' w' ∧ RFr p w w' ∧ ∀ x ∈ vs', x ∈ vs := by
 have HH := Lib.hid (And.intro h (And.intro hf hd))
 have hnl : n ≤ H.length := hd.lt
 clear h hf hd
 go_enter Tryz.func137, Tryz.ntmps137
 go_wp2_with fail
 go_loopw [7] (fun jv wr => ∃ (i : Nat) (H' : List Rw) (vs' : List Value), jv = .int .i64 i ∧ (i = 0 ∨ i < n) ∧ Hid (HpAt p base H' vs' wr ∧ RFr p w wr ∧ DnI n H' i ∧ H'.Perm H ∧ ∀ k, n ≤ k → H'.getD k rz = H.getD k rz) ∧ Hid (∀ x ∈ vs', x ∈ vs)) (fun jv _ => n - (intOf jv).toNat)
 case atStart => exact ⟨0, H, vs, rfl, .inl rfl, Lib.hid ⟨HH.out.1, RFr.refl _ _, HH.out.2.2, List.Perm.refl _, fun _ _ => rfl⟩, Lib.hid fun _ h => h⟩
 case round =>
  obtain ⟨i, H', vs', rfl, hi, HR, HV⟩ := hrel
  have hw1 : IntKind.i64.wrap (2 * (i : Int)) = 2 * (i : Int) := by rw [IntKind.wrap_i64]; omega
  have hw2 : IntKind.i64.wrap (2 * (i : Int) + 1) = 2 * (i : Int) + 1 := by rw [IntKind.wrap_i64]; omega
  have hw3 : IntKind.i64.wrap (2 * (i : Int) + 1 + 1) = 2 * (i : Int) + 1 + 1 := by rw [IntKind.wrap_i64]; omega
  by_cases h1 : n ≤ 2 * i + 1
  · have hx : (n : Int) ≤ 2 * (i : Int) + 1 := by omega
    go_wp2_with fail
    go_ret
    refine ⟨⟨_, rfl⟩, H', vs', HR.out.2.2.2.1, HR.out.2.2.1.done fun c hc h0 hp => ?_, HR.out.2.2.2.2, HR.out.1, HR.out.2.1, HV.out⟩
    exfalso
    rcases par_kids h0 hp with e | e <;> omega
  · have hx : ¬ (n : Int) ≤ 2 * (i : Int) + 1 := by omega
    have hx2 : ¬ 2 * (i : Int) + 1 < 0 := by omega
    have hil : i < n := by omega
    have hln := HR.out.2.2.1.lt
    have hpos : 0 < H'.length := by omega
    obtain ⟨g, cap, hp, hb, hr⟩ := HR.out.1.row hpos
    obtain ⟨N, hNN⟩ : ∃ N, H'.length = N := ⟨_, rfl⟩
    rw [hNN] at hp hln
    have hfu := HH.out.2.1.perm HR.out.2.2.2.1
    have hxc : wr.cell? ⟨p, 0, none⟩ = some (.slice (some ⟨g, 0, none⟩) N cap) := by simp [World.cell?, hp]
    have ml := fun M => meth_less M p (some ⟨g, 0, none⟩) N cap wr hxc
    have HP := Lib.hid hp
    have HRW := Lib.hid hr
    have HFU := Lib.hid hfu
    clear hp hr hfu
    by_cases h2 : 2 * i + 2 < n
    · have hy : 2 * (i : Int) + 1 + 1 < (n : Int) := by omega
      have cl := rowsLess_any g cap (2 * i + 2) (2 * i + 1) H' vs' wr HRW.out (by omega) (by omega) (HFU.out _ (by omega)) (HFU.out _ (by omega))
      rw [hNN, show ((2 * i + 2 : Nat) : Int) = 2 * (i : Int) + 1 + 1 by omega, show ((2 * i + 1 : Nat) : Int) = 2 * (i : Int) + 1 by omega] at cl
      have CL := Lib.hid cl
      clear cl
      go_wp2_with fail
      refine CL.out.mono ?_
      rintro e w0 ⟨rfl, b0⟩
      have hpl := (Go.ltA HP.out)
      have hp0 := (b0.block p hpl).trans HP.out
      have hx0 : w0.cell? ⟨p, 0, none⟩ = some (.slice (some ⟨g, 0, none⟩) N cap) := by simp [World.cell?, hp0]
      have ml0 := fun M => meth_less M p (some ⟨g, 0, none⟩) N cap w0 hx0
      have HB0 := Lib.hid (And.intro (HR.out.1.later b0) (HR.out.2.1.trans (RFr.of b0 (Nat.le_of_lt hpl))))
      have HP0 := Lib.hid hp0
      have HR0 := Lib.hid (HRW.out.later b0)
      clear ml hp0 b0
      cases hl : rless (H'.getD (2 * i + 2) rz) (H'.getD (2 * i + 1) rz) with
      | true =>
        have cl1 := rowsLess_any g cap (2 * i + 2) i H' vs' w0 HR0.out (by omega) (by omega) (HFU.out _ (by omega)) (HFU.out _ (by omega))
        rw [hNN, show ((2 * i + 2 : Nat) : Int) = 2 * (i : Int) + 1 + 1 by omega] at cl1
        have CL1 := Lib.hid cl1
        have HMN := Lib.hid (show ∀ k, k < n → 0 < k → par k = i → rless (H'.getD k rz) (H'.getD (2 * i + 2) rz) = false from fun k hk h0 hpk => by
         rcases par_kids h0 hpk with e | e
         · rw [e]; exact rless_asymm hl
         · rw [e]; exact rless_irrefl _)
        clear cl1
        go_wp2_with fail
        refine CL1.out.mono ?_
        rintro e w1 ⟨rfl, b1⟩
        have hpl := (Go.ltA HP0.out)
        have hp1 := (b1.block p hpl).trans HP0.out
        have HB1 := Lib.hid (And.intro (HB0.out.1.later b1) (HB0.out.2.trans (RFr.of b1 (Nat.le_of_lt hpl))))
        have HR1 := Lib.hid (HR0.out.later b1)
        clear b1
        cases hl1 : rless (H'.getD (2 * i + 2) rz) (H'.getD i rz) with
        | false =>
          have HE := Lib.hid (HR.out.2.2.1.done fun k hk h0 hpk => rless_le hl1 (HMN.out k hk h0 hpk))
          clear hp1
          go_wp2_with fail
          go_ret
          exact ⟨⟨_, rfl⟩, H', vs', HR.out.2.2.2.1, HE.out, HR.out.2.2.2.2, HB1.out.1, HB1.out.2, HV.out⟩
        | true =>
          have hx1 : w1.cell? ⟨p, 0, none⟩ = some (.slice (some ⟨g, 0, none⟩) N cap) := by simp [World.cell?, hp1]
          have ms := fun M => meth_swap M p (some ⟨g, 0, none⟩) N cap w1 hx1
          have cs := rowsSwap_any g cap i (2 * i + 2) p H' vs' w1 HR1.out (by omega) (by omega) (by have := HB1.out.1.lt; omega)
          rw [hNN, show ((2 * i + 2 : Nat) : Int) = 2 * (i : Int) + 1 + 1 by omega] at cs
          have CS := Lib.hid cs
          have HVS := Lib.hid (swapV_mem (vs := vs') (i := i) (j := 2 * i + 2) (by rw [HR.out.1.len]; omega) (by rw [HR.out.1.len]; omega))
          have HU := Lib.hid (HR.out.2.2.1.step (c := 2 * i + 2) hil (by omega) (by omega) (par_kid2 i) hl1 HMN.out)
          have HP1 := Lib.hid hp1
          have HG := Lib.hid (And.intro hb HR1.out)
          have HPM := Lib.hid ((swapR_perm (i := i) (j := 2 * i + 2) (H := H') (by omega) (by omega)).trans HR.out.2.2.2.1)
          have HOT := Lib.hid (show ∀ k, n ≤ k → (swapR H' i (2 * i + 2)).getD k rz = H.getD k rz from fun k hk => (swapR_other (show k ≠ i by omega) (show k ≠ 2 * i + 2 by omega)).trans (HR.out.2.2.2.2 k hk))
          clear hp1 cs
          go_wp2_with fail
          refine CS.out.mono ?_
          rintro e w2 ⟨rfl, hr2, b2, k2⟩
          have hgp : p ≠ g := by have := HB1.out.1.lt; have := hb; omega
          have hp2 := (k2 p hgp).trans HP1.out
          have hls : (swapR H' i (2 * i + 2)).length = N := by rw [swapR_length]; exact hNN
          have h2' : HpAt p base (swapR H' i (2 * i + 2)) (swapV vs' i (2 * i + 2)) w2 := HB1.out.1.make (by rw [hls]; exact hp2) hb hr2 b2.size
          have f2 : RFr p w1 w2 := ⟨b2, fun k hk hkp hkr => k2 k (fun e => by
           obtain ⟨cur, hc, -⟩ := HG.out.2.blk
           rw [e] at hkr
           exact hkr cur hc)⟩
          have HE := Lib.hid (And.intro h2' (And.intro (HB1.out.2.trans f2) (And.intro HU.out (And.intro HPM.out HOT.out))))
          clear h2' f2 hp2 k2 hr2 b2 ms
          go_wp2_with fail
          go_roundw
          case rel => exact ⟨2 * i + 2, swapR H' i (2 * i + 2), swapV vs' i (2 * i + 2), by simp <;> omega, .inr (by omega), Lib.hid HE.out, Lib.hid fun x hx => HV.out x (HVS.out x hx)⟩
          case measure => simp [intOf]; omega
      | false =>
        have cl1 := rowsLess_any g cap (2 * i + 1) i H' vs' w0 HR0.out (by omega) (by omega) (HFU.out _ (by omega)) (HFU.out _ (by omega))
        rw [hNN, show ((2 * i + 1 : Nat) : Int) = 2 * (i : Int) + 1 by omega] at cl1
        have CL1 := Lib.hid cl1
        have HMN := Lib.hid (show ∀ k, k < n → 0 < k → par k = i → rless (H'.getD k rz) (H'.getD (2 * i + 1) rz) = false from fun k hk h0 hpk => by
         rcases par_kids h0 hpk with e | e
         · rw [e]; exact rless_irrefl _
         · rw [e]; exact hl)
        clear cl1
        go_wp2_with fail
        refine CL1.out.mono ?_
        rintro e w1 ⟨rfl, b1⟩
        have hpl := (Go.ltA HP0.out)
        have hp1 := (b1.block p hpl).trans HP0.out
        have HB1 := Lib.hid (And.intro (HB0.out.1.later b1) (HB0.out.2.trans (RFr.of b1 (Nat.le_of_lt hpl))))
        have HR1 := Lib.hid (HR0.out.later b1)
        clear b1
        cases hl1 : rless (H'.getD (2 * i + 1) rz) (H'.getD i rz) with
        | false =>
          have HE := Lib.hid (HR.out.2.2.1.done fun k hk h0 hpk => rless_le hl1 (HMN.out k hk h0 hpk))
          clear hp1
          go_wp2_with fail
          go_ret
          exact ⟨⟨_, rfl⟩, H', vs', HR.out.2.2.2.1, HE.out, HR.out.2.2.2.2, HB1.out.1, HB1.out.2, HV.out⟩
        | true =>
          have hx1 : w1.cell? ⟨p, 0, none⟩ = some (.slice (some ⟨g, 0, none⟩) N cap) := by simp [World.cell?, hp1]
          have ms := fun M => meth_swap M p (some ⟨g, 0, none⟩) N cap w1 hx1
          have cs := rowsSwap_any g cap i (2 * i + 1) p H' vs' w1 HR1.out (by omega) (by omega) (by have := HB1.out.1.lt; omega)
          rw [hNN, show ((2 * i + 1 : Nat) : Int) = 2 * (i : Int) + 1 by omega] at cs
          have CS := Lib.hid cs
          have HVS := Lib.hid (swapV_mem (vs := vs') (i := i) (j := 2 * i + 1) (by rw [HR.out.1.len]; omega) (by rw [HR.out.1.len]; omega))
          have HU := Lib.hid (HR.out.2.2.1.step (c := 2 * i + 1) hil (by omega) (by omega) (par_kid1 i) hl1 HMN.out)
          have HP1 := Lib.hid hp1
          have HG := Lib.hid (And.intro hb HR1.out)
          have HPM := Lib.hid ((swapR_perm (i := i) (j := 2 * i + 1) (H := H') (by omega) (by omega)).trans HR.out.2.2.2.1)
          have HOT := Lib.hid (show ∀ k, n ≤ k → (swapR H' i (2 * i + 1)).getD k rz = H.getD k rz from fun k hk => (swapR_other (show k ≠ i by omega) (show k ≠ 2 * i + 1 by omega)).trans (HR.out.2.2.2.2 k hk))
          clear hp1 cs
          go_wp2_with fail
          refine CS.out.mono ?_
          rintro e w2 ⟨rfl, hr2, b2, k2⟩
          have hgp : p ≠ g := by have := HB1.out.1.lt; have := hb; omega
          have hp2 := (k2 p hgp).trans HP1.out
          have hls : (swapR H' i (2 * i + 1)).length = N := by rw [swapR_length]; exact hNN
          have h2' : HpAt p base (swapR H' i (2 * i + 1)) (swapV vs' i (2 * i + 1)) w2 := HB1.out.1.make (by rw [hls]; exact hp2) hb hr2 b2.size
          have f2 : RFr p w1 w2 := ⟨b2, fun k hk hkp hkr => k2 k (fun e => by
           obtain ⟨cur, hc, -⟩ := HG.out.2.blk
           rw [e] at hkr
           exact hkr cur hc)⟩
          have HE := Lib.hid (And.intro h2' (And.intro (HB1.out.2.trans f2) (And.intro HU.out (And.intro HPM.out HOT.out))))
          clear h2' f2 hp2 k2 hr2 b2 ms
          go_wp2_with fail
          go_roundw
          case rel => exact ⟨2 * i + 1, swapR H' i (2 * i + 1), swapV vs' i (2 * i + 1), by simp <;> omega, .inr (by omega), Lib.hid HE.out, Lib.hid fun x hx => HV.out x (HVS.out x hx)⟩
          case measure => simp [intOf]; omega
    · have hy : ¬ 2 * (i : Int) + 1 + 1 < (n : Int) := by omega
      have HB0 := Lib.hid (And.intro HR.out.1 HR.out.2.1)
      have cl1 := rowsLess_any g cap (2 * i + 1) i H' vs' wr HRW.out (by omega) (by omega) (HFU.out _ (by omega)) (HFU.out _ (by omega))
      rw [hNN, show ((2 * i + 1 : Nat) : Int) = 2 * (i : Int) + 1 by omega] at cl1
      have CL1 := Lib.hid cl1
      have HMN := Lib.hid (show ∀ k, k < n → 0 < k → par k = i → rless (H'.getD k rz) (H'.getD (2 * i + 1) rz) = false from fun k hk h0 hpk => by
       rcases par_kids h0 hpk with e | e
       · rw [e]; exact rless_irrefl _
       · omega)
      clear cl1
      go_wp2_with fail
      refine CL1.out.mono ?_
      rintro e w1 ⟨rfl, b1⟩
      have hpl := (Go.ltA HP.out)
      have hp1 := (b1.block p hpl).trans HP.out
      have HB1 := Lib.hid (And.intro (HB0.out.1.later b1) (HB0.out.2.trans (RFr.of b1 (Nat.le_of_lt hpl))))
      have HR1 := Lib.hid (HRW.out.later b1)
      clear b1
      cases hl1 : rless (H'.getD (2 * i + 1) rz) (H'.getD i rz) with
      | false =>
        have HE := Lib.hid (HR.out.2.2.1.done fun k hk h0 hpk => rless_le hl1 (HMN.out k hk h0 hpk))
        clear hp1
        go_wp2_with fail
        go_ret
        exact ⟨⟨_, rfl⟩, H', vs', HR.out.2.2.2.1, HE.out, HR.out.2.2.2.2, HB1.out.1, HB1.out.2, HV.out⟩
      | true =>
        have hx1 : w1.cell? ⟨p, 0, none⟩ = some (.slice (some ⟨g, 0, none⟩) N cap) := by simp [World.cell?, hp1]
        have ms := fun M => meth_swap M p (some ⟨g, 0, none⟩) N cap w1 hx1
        have cs := rowsSwap_any g cap i (2 * i + 1) p H' vs' w1 HR1.out (by omega) (by omega) (by have := HB1.out.1.lt; omega)
        rw [hNN, show ((2 * i + 1 : Nat) : Int) = 2 * (i : Int) + 1 by omega] at cs
        have CS := Lib.hid cs
        have HVS := Lib.hid (swapV_mem (vs := vs') (i := i) (j := 2 * i + 1) (by rw [HR.out.1.len]; omega) (by rw [HR.out.1.len]; omega))
        have HU := Lib.hid (HR.out.2.2.1.step (c := 2 * i + 1) hil (by omega) (by omega) (par_kid1 i) hl1 HMN.out)
        have HP1 := Lib.hid hp1
        have HG := Lib.hid (And.intro hb HR1.out)
        have HPM := Lib.hid ((swapR_perm (i := i) (j := 2 * i + 1) (H := H') (by omega) (by omega)).trans HR.out.2.2.2.1)
        have HOT := Lib.hid (show ∀ k, n ≤ k → (swapR H' i (2 * i + 1)).getD k rz = H.getD k rz from fun k hk => (swapR_other (show k ≠ i by omega) (show k ≠ 2 * i + 1 by omega)).trans (HR.out.2.2.2.2 k hk))
        clear hp1 cs
        go_wp2_with fail
        refine CS.out.mono ?_
        rintro e w2 ⟨rfl, hr2, b2, k2⟩
        have hgp : p ≠ g := by have := HB1.out.1.lt; have := hb; omega
        have hp2 := (k2 p hgp).trans HP1.out
        have hls : (swapR H' i (2 * i + 1)).length = N := by rw [swapR_length]; exact hNN
        have h2' : HpAt p base (swapR H' i (2 * i + 1)) (swapV vs' i (2 * i + 1)) w2 := HB1.out.1.make (by rw [hls]; exact hp2) hb hr2 b2.size
        have f2 : RFr p w1 w2 := ⟨b2, fun k hk hkp hkr => k2 k (fun e => by
         obtain ⟨cur, hc, -⟩ := HG.out.2.blk
         rw [e] at hkr
         exact hkr cur hc)⟩
        have HE := Lib.hid (And.intro h2' (And.intro (HB1.out.2.trans f2) (And.intro HU.out (And.intro HPM.out HOT.out))))
        clear h2' f2 hp2 k2 hr2 b2 ms
        go_wp2_with fail
        go_roundw
        case rel => exact ⟨2 * i + 1, swapR H' i (2 * i + 1), swapV vs' i (2 * i + 1), by simp <;> omega, .inr (by omega), Lib.hid HE.out, Lib.hid fun x hx => HV.out x (HVS.out x hx)⟩
        case measure => simp [intOf]; omega
theorem Full.snoc {H : List Rw} {r : Rw} (h : Full H) (hr : r.1 ≠ []) : Full (H ++ [r]) := fun i hi => by
 rw [List.length_append, List.length_singleton] at hi
 by_cases e : i < H.length
 · rw [show (H ++ [r]).getD i rz = H.getD i rz by simp [List.getD, List.getElem?_append_left e]]
   exact h i e
 · rw [show i = H.length by omega, show (H ++ [r]).getD H.length rz = r by simp [List.getD]]
   exact hr
theorem Full.init {H : List Rw} {r : Rw} (h : Full (H ++ [r])) : Full H ∧ r.1 ≠ [] := by
 refine ⟨fun i hi => ?_, ?_⟩
 · have := h i (by simp; omega)
   rwa [show (H ++ [r]).getD i rz = H.getD i rz by simp [List.getD, List.getElem?_append_left hi]] at this
 · have := h H.length (by simp)
   rwa [show (H ++ [r]).getD H.length rz = r by simp [List.getD]] at this
set_option maxRecDepth 100000 in
set_option maxHeartbeats 4000000 in
theorem hpush_any (p base : Nat) (H : List Rw) (vs : List Value) (r : Rw) (v : Value) (w : World) (h : HpAt p base H vs w) (hf : Full H) (hh : HeapR H.length H) (hs : SlC v r.1 w) (hr : r.1 ≠ []) (hn : H.length < 100000) :
 Calls Tryz.prog 98 #[.iface 174 (.pointer (some ⟨p, 0, none⟩)), .iface 176 (.agg #[v, .int .i64 (r.2 : Int)])] w fun e w' => e = .returned (.tuple #[]) ∧ ∃ H' vs', H'.Perm (H ++ [r]) ∧ HeapR H'.length H' ∧ HpAt p base H' vs' w' ∧ RFr p w w' ∧ ∀ x ∈ vs', x ∈ vs ++ [v] := by
 have CP := Lib.hid (rowsPush_any p base H vs r v w h hs (by omega))
 have HU := Lib.hid (UpI.snoc hh r)
 have HF := Lib.hid (hf.snoc hr)
 obtain ⟨n, hnn⟩ : ∃ n, H.length = n := ⟨_, rfl⟩
 have HL : (H ++ [r]).length = n + 1 := by rw [List.length_append, hnn]; rfl
 rw [hnn] at HU hn
 obtain ⟨G, hG⟩ : ∃ G, H ++ [r] = G := ⟨_, rfl⟩
 rw [hG] at CP HU HF HL ⊢
 have mp := fun M => meth_push M p w
 clear h hf hh hs hr hnn hG
 go_enter Tryz.func98, Tryz.ntmps98
 go_wp2_with fail
 refine CP.out.mono ?_
 rintro e w1 ⟨rfl, h1, f1⟩
 obtain ⟨g, cap, hp, -⟩ := h1.row (by omega)
 rw [HL] at hp
 have hx : w1.cell? ⟨p, 0, none⟩ = some (.slice (some ⟨g, 0, none⟩) (n + 1) cap) := by simp [World.cell?, hp]
 have ml := fun M => meth_len M p (some ⟨g, 0, none⟩) (n + 1) cap w1 hx
 have cl := rowsLen_any (some ⟨g, 0, none⟩) (n + 1) cap w1
 rw [show ((n + 1 : Nat) : Int) = (n : Int) + 1 by omega] at cl
 have hwn : IntKind.i64.wrap ((n : Int) + 1 - 1) = (n : Int) := by rw [IntKind.wrap_i64]; omega
 have CU := Lib.hid (up_any p base n _ _ w1 h1 HF.out HU.out (by omega))
 have HFR := Lib.hid f1
 clear hp h1 f1
 go_wp2_with fail
 refine cl.mono ?_
 rintro e _ ⟨rfl, rfl⟩
 go_wp2_with fail
 refine CU.out.mono ?_
 rintro e w2 ⟨rfl, H', vs', q1, q2, q3, q4, q5⟩
 have HE := Lib.hid (And.intro q1 (And.intro q2 (And.intro q3 (And.intro (HFR.out.trans q4) q5))))
 clear q1 q2 q3 q4 q5
 go_wp2_with fail
 go_end0
 exact ⟨rfl, H', vs', HE.out⟩
theorem snoc_of {α : Type} {l : List α} {n : Nat} (d : α) (h : l.length = n + 1) : l = l.take n ++ [l.getD n d] := by
 have e := List.take_append_drop n l
 have h2 : l.drop n = [l.getD n d] := by
  rw [List.drop_eq_getElem_cons (by omega), List.drop_eq_nil_of_le (by omega)]
  simp [List.getD, show n < l.length by omega]
 rw [h2] at e
 exact e.symm
theorem HeapR.take {n : Nat} {H : List Rw} {r : Rw} (h : HeapR n (H ++ [r])) (hn : H.length = n) : HeapR H.length H := fun i hi h0 => by
 have hp := par_lt h0
 have := h i (by omega) h0
 rwa [show (H ++ [r]).getD i rz = H.getD i rz by simp [List.getD, List.getElem?_append_left hi], show (H ++ [r]).getD (par i) rz = H.getD (par i) rz by simp [List.getD, List.getElem?_append_left (show par i < H.length by omega)]] at this
set_option maxRecDepth 100000 in
set_option maxHeartbeats 4000000 in
theorem hpop_any (p base : Nat) (H : List Rw) (vs : List Value) (w : World) (h : HpAt p base H vs w) (hf : Full H) (hh : HeapR H.length H) (h0 : 0 < H.length) (hn : H.length ≤ 100000) :
 Calls Tryz.prog 127 #[.iface 174 (.pointer (some ⟨p, 0, none⟩))] w fun e w' => ∃ v H' vs', e = .returned (.iface 176 (.agg #[v, .int .i64 ((H.getD 0 rz).2 : Int)])) ∧ (H' ++ [H.getD 0 rz]).Perm H ∧ HeapR H'.length H' ∧ HpAt p base H' vs' w' ∧ SlC v (H.getD 0 rz).1 w' ∧ RFr p w w' ∧ ∀ x ∈ vs' ++ [v], x ∈ vs := by
 obtain ⟨n, hnn⟩ : ∃ n, H.length = n + 1 := ⟨H.length - 1, by omega⟩
 obtain ⟨g, cap, hp, hb, hr⟩ := h.row h0
 rw [hnn] at hp hn
 have hx : w.cell? ⟨p, 0, none⟩ = some (.slice (some ⟨g, 0, none⟩) (n + 1) cap) := by simp [World.cell?, hp]
 have ml := fun M => meth_len M p (some ⟨g, 0, none⟩) (n + 1) cap w hx
 have ms := fun M => meth_swap M p (some ⟨g, 0, none⟩) (n + 1) cap w hx
 have cl := rowsLen_any (some ⟨g, 0, none⟩) (n + 1) cap w
 rw [show ((n + 1 : Nat) : Int) = (n : Int) + 1 by omega] at cl
 have hwn : IntKind.i64.wrap ((n : Int) + 1 - 1) = (n : Int) := by rw [IntKind.wrap_i64]; omega
 have hplb := h.lt
 have cs := rowsSwap_any g cap 0 n p H vs w hr (by omega) (by omega) (by omega)
 rw [hnn] at cs
 have CS := Lib.hid cs
 have hpl := (Go.ltA hp)
 have hgp : p ≠ g := by omega
 have HK := Lib.hid (And.intro h (And.intro hf (And.intro hh (And.intro hb (And.intro hr hp)))))
 clear h hf hh hb hr hp cs
 go_enter Tryz.func127, Tryz.ntmps127
 go_wp2_with fail
 refine cl.mono ?_
 rintro e _ ⟨rfl, rfl⟩
 go_wp2_with fail
 refine CS.out.mono ?_
 rintro e w1 ⟨rfl, hr1, b1, k1⟩
 have hp1 := (k1 p hgp).trans HK.out.2.2.2.2.2
 have hls : (swapR H 0 n).length = n + 1 := by rw [swapR_length]; exact hnn
 have hpm : (swapR H 0 n).Perm H := swapR_perm (by omega) (by omega)
 have h1 : HpAt p base (swapR H 0 n) (swapV vs 0 n) w1 := HK.out.1.make (by rw [hls]; exact hp1) HK.out.2.2.2.1 hr1 b1.size
 have f1 : RFr p w w1 := ⟨b1, fun k hk hkp hkr => k1 k (fun e => by
  obtain ⟨cur, hc, -⟩ := HK.out.2.2.2.2.1.blk
  rw [e] at hkr
  exact hkr cur hc)⟩
 have CD := Lib.hid (down_any p base n _ _ w1 h1 (HK.out.2.1.perm hpm) (DnI.pop (by rw [← hnn]; exact HK.out.2.2.1) (by omega)) (by omega))
 have hlast : (swapR H 0 n).getD n rz = H.getD 0 rz := swapR_j (by omega)
 have HF1 := Lib.hid (And.intro f1 (And.intro hpm (And.intro hls hlast)))
 clear h1 f1 hpm hls hlast hp1 hr1 b1 k1 ml ms
 go_wp2_with fail
 refine CD.out.mono ?_
 rintro e w2 ⟨⟨bb, rfl⟩, H2, vs2, q1, q2, q3, q4, q5, q6⟩
 have HQ := Lib.hid (show ∀ x ∈ vs2, x ∈ vs from fun x hx => swapV_mem (by rw [HK.out.1.len, hnn]; omega) (by rw [HK.out.1.len, hnn]; omega) x (q6 x hx))
 clear q6
 have hl2 : H2.length = n + 1 := q1.length_eq.trans HF1.out.2.2.1
 have hv2 : vs2.length = n + 1 := q4.len.trans hl2
 obtain ⟨H3, r, e3, hl3⟩ : ∃ H3 r, H2 = H3 ++ [r] ∧ H3.length = n := ⟨_, _, snoc_of rz hl2, by rw [List.length_take]; omega⟩
 obtain ⟨vs3, v, e4, hv3⟩ : ∃ vs3 v, vs2 = vs3 ++ [v] ∧ vs3.length = n := ⟨_, _, snoc_of undef hv2, by rw [List.length_take]; omega⟩
 have hr3 : r = H.getD 0 rz := by
  have := (q3 n (Nat.le_refl n)).trans HF1.out.2.2.2
  rw [e3, show (H3 ++ [r]).getD n rz = r by rw [← hl3]; simp [List.getD]] at this
  exact this
 subst e3 e4
 have CO := Lib.hid (rowsPop_any p base H3 vs3 r v w2 q4 (by omega))
 have hsl := q4.sl n (by simp [hl3])
 rw [show (H3 ++ [r]).getD n rz = r by rw [← hl3]; simp [List.getD], show (vs3 ++ [v]).getD n undef = v by rw [← hv3]; simp [List.getD]] at hsl
 have HE := Lib.hid (And.intro (q1.trans HF1.out.2.1) (And.intro (HeapR.take q2 hl3) (And.intro hsl (And.intro (HF1.out.1.trans q5) (q4.notCell)))))
 obtain ⟨x, hxw⟩ := (⟨_, q4.own.choose_spec.1⟩ : ∃ v, w2.heap[p]? = some (.cells #[v] 172 (0, 0)))
 have mp := fun M => meth_pop M p w2
 have HR3 := Lib.hid hr3
 clear hr3 q1 q2 q3 q4 q5 hsl hxw hl2 hv2 x
 go_wp2_with fail
 refine CO.out.mono ?_
 rintro e w3 ⟨rfl, h3, f3⟩
 have HZ := Lib.hid (And.intro HE.out.1 (And.intro HE.out.2.1 (And.intro h3 (And.intro (HE.out.2.2.1.rfr HE.out.2.2.2.2 f3) (HE.out.2.2.2.1.trans f3)))))
 clear h3 f3 mp
 go_wp2_with fail
 go_ret
 rw [← HR3.out]
 exact ⟨v, H3, vs3, rfl, HZ.out.1, HZ.out.2.1, HZ.out.2.2.1, HZ.out.2.2.2.1, HZ.out.2.2.2.2, HQ.out⟩
end Go.Proofs.YtoglloafpnopaaaGreat
