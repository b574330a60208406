/- TablesBuild's walk, and what all walks of the chapter share. -/
import Derived.Test.YtanaoepakllohaaTabS
import Derived.Test.YtanaoepakllohaaTabU
import Derived.Test.YtanaoepakllohaaBlocksO
namespace Go.Proofs.Ytanaoepakllohaa
set_option maxRecDepth 16000
open Go.RowKit Spoor
set_option linter.unusedVariables false

theorem great_yes {l : List Ce} {m : Nat} (h : greatL l m = false) : l.length ≤ m ∧ ∀ c ∈ l, c.k.length ≤ 1000 ∧ c.v.length ≤ 1000 := by
  unfold greatL at h
  simp only [Bool.or_eq_false_iff, decide_eq_false_iff_not, List.any_eq_false] at h
  refine ⟨by omega, fun c hc => ?_⟩
  have := h.2 c hc
  unfold greatC at this
  simp only [Bool.or_eq_true, decide_eq_true_eq, not_or] at this
  omega
theorem fits_great {l : List Ce} {m : Nat} (h : greatL l m = false) (hw : ∀ c ∈ l, WfC c) : ∀ c ∈ l, FitsC c := fun c hc => by
  have h1 := (great_yes h).2 c hc
  exact ⟨by omega, by omega, (hw c hc).2.2⟩
theorem slAt_row {v : Value} {l : List Ce} {w : World} (h : SlAt v l w) : ∃ A cap, v = .slice A l.length cap ∧ l.length ≤ cap ∧ cap ≤ maxLen ∧ (0 < l.length → ∃ b o, A = some ⟨b, o, none⟩ ∧ RowAt b o l w) := h
theorem buildV_eq (l : List Ce) : ∃ (S : List UInt8) (q : Int), buildV l = .tuple #[.string ⟨S.toArray⟩, .int .i64 q] ∧ ((q = 0 ∧ sortedB l = true ∧ l.length ≤ 4096 ∧ S = tableB l) ∨ (q ≠ 0 ∧ S = [] ∧ (sortedB l = false ∧ q = 2 ∨ 4096 < l.length ∧ sortedB l = true ∧ q = 3))) := by
  unfold buildV
  by_cases h : sortedB l = true
  · rw [if_pos h]
    by_cases h2 : 4096 < l.length
    · rw [if_pos h2]
      exact ⟨[], 3, rfl, .inr ⟨by omega, rfl, .inr ⟨h2, h, rfl⟩⟩⟩
    · rw [if_neg h2]
      exact ⟨tableB l, 0, rfl, .inl ⟨rfl, h, by omega, rfl⟩⟩
  · rw [if_neg h]
    exact ⟨[], 2, rfl, .inr ⟨by omega, rfl, .inl ⟨by simpa using h, rfl⟩⟩⟩
theorem table_ne (l : List Ce) : 0 < (tableB l).length := by
  unfold tableB tableG
  simp only [List.length_append]
  have : Spoor.mark.length = 5 := rfl
  omega
theorem fits_q {l : List Ce} (h : ∀ c ∈ l, FitsC c) : ∀ c ∈ l, c.q ≤ 9223372036854775807 := fun c hc => (h c hc).2.2
theorem okG_ne : ∀ {gs : List (List Ce)}, okG gs → ∀ g ∈ gs, g ≠ []
  | [], _, g, h => by simp at h
  | a :: gs, h, g, hg => by
    obtain ⟨h1, -, -, h2⟩ := h
    rcases List.mem_cons.1 hg with rfl | hg
    · exact h1
    · exact okG_ne h2 g hg
theorem open_facts {text : List UInt8} {gs : List (List Ce)} (h : openT text = some gs) : Rise gs.flatten ∧ (∀ g ∈ gs, g ≠ []) ∧ gs.length ≤ 100000 ∧ gs.flatten.length ≤ 4096 ∧ (∀ c ∈ gs.flatten, FitsC c) ∧ sortedB gs.flatten = true ∧ tableB gs.flatten = text := by
  obtain ⟨h1, h2, h3, h4, h5⟩ := open_some h
  have hr := sorted_rise.1 h1
  refine ⟨hr.1, ?_, ?_, h2, fun c hc => may_fits (hr.2 c hc) (h3 c hc), h1, h5⟩
  · have := okG_ne (fours_ok gs.flatten)
    rwa [h4] at this
  · have := fours_length gs.flatten
    rw [h4] at this
    omega
theorem fours_facts {l : List Ce} (hs : sortedB l = true) (hl : l.length ≤ 4096) : Rise (fours l).flatten ∧ (∀ g ∈ fours l, g ≠ []) ∧ (fours l).length ≤ 100000 ∧ (fours l).flatten.length ≤ 4096 := by
  refine ⟨?_, okG_ne (fours_ok l), ?_, ?_⟩
  · rw [fours_flat]; exact (sorted_rise.1 hs).1
  · have := fours_length l; omega
  · rw [fours_flat]; exact hl
theorem allS_any (t : Nat) (gs : List (List Ce)) (w : World) (h : TabAt t gs w) (hr : Rise gs.flatten) (hne : ∀ g ∈ gs, g ≠ []) (hbig : gs.length ≤ 100000) (hbig2 : gs.flatten.length ≤ 4096) :
    Calls Try.prog 26 #[.pointer (some ⟨t, 0, none⟩)] w fun e w' => Below w.heap.size w w' ∧ ∃ v, e = .returned v ∧ SlAt v gs.flatten w' :=
  (allT_any t gs w h hr hne hbig (by omega)).mono fun e w' ⟨hb, v, hv, own⟩ => ⟨hb, v, hv, slAt_own own⟩
theorem rangeS_any (t : Nat) (gs : List (List Ce)) (x y : List UInt8) (w : World) (h : TabAt t gs w) (hr : Rise gs.flatten) (hne : ∀ g ∈ gs, g ≠ []) (hbig : gs.length ≤ 100000) (hbig2 : gs.flatten.length ≤ 4096) :
    Calls Try.prog 22 #[.pointer (some ⟨t, 0, none⟩), .string ⟨x.toArray⟩, .string ⟨y.toArray⟩] w fun e w' => Below w.heap.size w w' ∧ ∃ v, e = .returned v ∧ SlAt v (rangeC gs.flatten x y) w' :=
  (rangeT_any t gs x y w h hr hne hbig (by omega)).mono fun e w' ⟨hb, v, hv, own⟩ => ⟨hb, v, hv, slAt_own own⟩
theorem ceV_form (o : Option Ce) : ∃ (x : Ce) (ob : Bool), ceV o = .tuple #[.agg #[.string ⟨x.k.toArray⟩, .int .i64 x.q, .string ⟨x.v.toArray⟩], .bool ob] ∧ (ob = true → o = some x) ∧ (ob = false → o = none ∧ x = Ce.zero) := by
  cases o with
  | none => exact ⟨Ce.zero, false, rfl, (fun h => nomatch h), fun _ => ⟨rfl, rfl⟩⟩
  | some x => exact ⟨x, true, rfl, fun _ => rfl, (fun h => nomatch h)⟩
theorem refRangeS_any (s : Value) (L : List Ce) (x y : List UInt8) (w : World) (M : SlAt s L w) (hbig : L.length ≤ 50000) :
    Calls Try.prog 23 #[s, .string ⟨x.toArray⟩, .string ⟨y.toArray⟩] w fun e w' => Below w.heap.size w w' ∧ ∃ v, e = .returned v ∧ SlAt v (rangeC L x y) w' :=
  (refRangeT_any s L x y w M hbig).mono fun e w' ⟨hb, v, hv, own⟩ => ⟨hb, v, hv, slAt_own own⟩
theorem wpList_append_runG {P : Program} {ops : Array Oper} {rest : List Oper} {o : Oper} {a : Act} {w : World} {Q : Exit → Act → World → Prop} (hw : Region.wanted o (yielded ops a.tmps) = true) (d s : Operand) (t t' : TypeId)
    (ho : o.op = .call { callee := .builtin .append, args := #[d, s], argTypes := #[t, t'] }) (v u : Value) (hd : a.eval d = v) (hs : a.eval s = u) {v' : Value} {w' : World}
    (hr : (Builtin.append_ #[t, t'] o.type #[v, u]).run P w = .ok v' w') (h : wpList P ops Q rest (a.put o.dst v') w') : wpList P ops Q (o :: rest) a w := by
  refine wpList_step fun K hK' => ?_
  rw [if_pos hw]
  unfold Oper.wp execOp
  simp only [ho, resolve, invoke, builtin, Sem.run_bind, Sem.run_pure, Result.andThen_ok, List.map_toArray, List.map_cons, List.map_nil, hd, hs, hr]
  exact hK' _ _ h
theorem bl_leq (u v : List UInt8) : (Op.bytesLess u v || u == v) = !Op.bytesLess v u := by
  rcases bl_cases u v with ⟨h1, h2, h3, _⟩ | ⟨h1, h2, rfl⟩ | ⟨h1, h2, h3, _⟩
  · rw [h1, h2]; rfl
  · rw [h1]; simp
  · rw [h1, h2, h3]; rfl
theorem btBx {a b c : World} (h : Below a.heap.size a b) (k : Below b.heap.size b c) : Below a.heap.size a c := h.trans (k.mono h.size)
def OpenedEx (l : List Ce) (w : World) (e : Ending) (w' : World) : Prop :=
  Below w.heap.size w w' ∧ ((sortedB l = false ∧ e = .returned (.tuple #[.pointer none, .bool false])) ∨ (sortedB l = true ∧ ∃ t, e = .returned (.tuple #[.pointer (some ⟨t, 0, none⟩), .bool true]) ∧ TabAt t (fours l) w'))
theorem opened_any (v : Value) (l : List Ce) (w : World) (hs : SlAt v l w) (hf : ∀ c ∈ l, FitsC c) (hl : l.length ≤ 500) :
    Calls Try.prog 24 #[v] w (OpenedEx l w) := by
  have ce := buildT_any v l w hs hf (by omega)
  cases hso : sortedB l with
  | false =>
    have HSO := Lib.hid hso
    rw [show buildV l = .tuple #[.string ⟨([] : List UInt8).toArray⟩, .int .i64 2] by unfold buildV; rw [if_neg (by rw [hso]; exact Bool.false_ne_true)]] at ce
    have c1 := fun W => openT_none (text := []) (by rfl) W (by simp)
    have CE := Lib.hid ce
    have C1 := Lib.hid c1
    clear ce c1 hs hf hl hso
    go_enter Try.func24, Try.ntmps24
    go_wp2_with fail
    refine CE.out.mono ?_
    rintro e w1 ⟨rfl, b1⟩
    go_wp2_with fail
    refine (C1.out _).mono ?_
    rintro e w2 ⟨rfl, b2⟩
    have B := btB b1 b2
    go_wp2_with fail
    go_ret2
    exact ⟨B, .inl ⟨HSO.out, rfl⟩⟩
  | true =>
    have HSO := Lib.hid hso
    rw [show buildV l = .tuple #[.string ⟨(tableB l).toArray⟩, .int .i64 0] by unfold buildV; rw [if_pos hso, if_neg (by omega)]] at ce
    have hq := fits_q hf
    have hln := (table_len hso hq (by omega)).2.2
    have c1 := fun W => openT_some (open_build hso (by omega) hq) W (by omega)
    have CE := Lib.hid ce
    have C1 := Lib.hid c1
    clear ce c1 hs hf hl hso hq hln
    go_enter Try.func24, Try.ntmps24
    go_wp2_with fail
    refine CE.out.mono ?_
    rintro e w1 ⟨rfl, b1⟩
    go_wp2_with fail
    refine (C1.out _).mono ?_
    rintro e w2 ⟨b2, t, rfl, ht⟩
    have HB := Lib.hid (btB b1 b2)
    have HT := Lib.hid ht
    clear ht b1 b2
    go_wp2_with fail
    go_ret2
    exact ⟨HB.out, .inr ⟨HSO.out, t, rfl, HT.out⟩⟩
theorem own_form {w : World} {base : Nat} {v : Value} {l : List Ce} (h : w.ownsRow base 36 3 v l.length (rowOf l)) : ∃ A cap, v = .slice A l.length cap ∧ l.length ≤ cap ∧ cap ≤ maxLen ∧ (0 < l.length → ∃ g, A = some ⟨g, 0, none⟩ ∧ base ≤ g ∧ g < w.heap.size ∧ RowW g cap l w) := by
  rcases Nat.eq_zero_or_pos l.length with h0 | h0
  · rcases h.2 with ⟨rfl, _⟩ | ⟨g, cap, cur, rfl, hb, hg, hn, hm, hc, ht⟩
    · exact ⟨none, 0, by rw [h0], by omega, by unfold maxLen; omega, fun hp => by omega⟩
    · exact ⟨_, cap, rfl, hn, hm, fun hp => by omega⟩
  · obtain ⟨g, cap, rfl, h1, h2, h3, h4⟩ := rowW_own h h0
    exact ⟨_, cap, rfl, h2, h3, fun _ => ⟨g, rfl, h1, h4.row.1, h4⟩⟩
set_option maxRecDepth 100000 in
set_option maxHeartbeats 16000000 in
theorem tablesBuild_law (w : World) (v : Value) (l : List Ce) (hs : SlAt v l w) (hn : v = .slice none 0 0 ∨ ∃ ad n c, v = .slice (some ad) n c) (hw : ∀ c ∈ l, WfC c) :
    Calls Try.prog 3 #[v] w fun e w' => e = .returned (.bool true) ∧ Below w.heap.size w w' := by
  have CDO := Lib.hid tdoes_true
  have cg := fun W (h : SlAt v l W) => greatL_any v l 300 W h hw (by omega)
  cases hg : greatL l 300 with
  | true =>
    rw [hg] at cg
    have cg1 := cg w hs
    have CG := Lib.hid cg1
    clear cg cg1 hg hw hs
    go_enter Try.func3, Try.ntmps3
    go_wp2_with fail
    refine CG.out.mono ?_
    rintro e w1 ⟨rfl, b1⟩
    go_wp2_with fail
    go_ret
    exact ⟨rfl, b1⟩
  | false =>
    have hf := fits_great hg hw
    obtain ⟨hl300, _⟩ := great_yes hg
    rw [hg] at cg
    have cg1 := cg w hs
    have CG := Lib.hid cg1
    have ct := fun W (h : SlAt v l W) => twin_any v l W h (by omega) hn
    have CT := Lib.hid ct
    have ce := fun v' W (h : SlAt v' l W) => buildT_any v' l W h hf (by omega)
    have cr := fun W (h : SlAt v l W) => refBuildT_any v l W h hf (by omega)
    have cl := fun g cap W (h : SlAt v l W) (hr : RowAt g 0 (l ++ [junkT]) W) (hc : l.length + 1 ≤ cap) (hm : cap ≤ maxLen) => left_any g cap v l W h hr hc hm
    obtain ⟨S, q, hq, -⟩ := buildV_eq l
    rw [hq] at ce cr
    have HS0 := Lib.hid hs
    have CE := Lib.hid ce
    have CR := Lib.hid cr
    have CL := Lib.hid cl
    clear cg cg1 ct ce cr cl hg hw hf hs hn hq
    go_enter Try.func3, Try.ntmps3
    go_wp2_with fail
    refine CG.out.mono ?_
    rintro e w1 ⟨rfl, b1⟩
    have hs := HS0.out.later b1
    have B := b1
    clear b1
    go_wp2_with fail
    refine (CT.out _ hs).mono ?_
    rintro e w2 ⟨b2, g, cap, rfl, hc1, hc2, hrow⟩
    have hs := hs.later b2
    have B := btB B b2
    clear b2
    go_wp2_with fail
    refine (CE.out _ _ (hrow.slHead hc1 hc2)).mono ?_
    rintro e w3 ⟨rfl, b3⟩
    have hs := hs.later b3
    have hrow := hrow.later b3 hrow.1
    have B := btB B b3
    clear b3
    go_wp2_with fail
    refine (CR.out _ hs).mono ?_
    rintro e w4 ⟨rfl, b4⟩
    have hs := hs.later b4
    have hrow := hrow.later b4 hrow.1
    have B := btB B b4
    clear b4
    go_wp2_with fail
    refine (CL.out g cap _ hs hrow hc1 hc2).mono ?_
    rintro e w7 ⟨rfl, b7⟩
    have B := btB B b7
    clear b7 hrow hs
    go_wp2_with fail
    refine (CDO.out _).mono ?_
    rintro e w8 ⟨rfl, b8⟩
    have B := btB B b8
    go_wp2_with fail
    go_ret
    exact ⟨rfl, B⟩
section
open Go.ChangeShapes Go.WideShapes Go.Opens
variable {H : Type} {enc : TypeId × Value → H} {w : World} {base : Nat} {spare : Nat → Bool} {held : Bool}
theorem open_str2m {r : Reach} {b0 : Nat} {v : Value} {d : DataW H} {p : List MemPlace} (hv : Value.okWide Try.prog w r b0 31 v) (h : DataW.Trod enc Try.prog w base spare held 31 v d p) :
    ∃ s t : List UInt8, v = .agg #[.string ⟨s.toArray⟩, .string ⟨t.toArray⟩] ∧ d = .agg [.lit (.string s), .lit (.string t)] ∧ p = [] := by
  obtain ⟨cs, ys, m, rfl, rfl, rfl, hc, hy, hf⟩ := open_array1 Try.underlying31 (by kernel_rfl) (by kernel_rfl) hv h
  match cs, hc, ys, hy with
  | [c0, c1], _, [y0, y1], _ =>
    have t0 := hf 0 _ _ rfl rfl
    have t1 := hf 1 _ _ rfl rfl
    obtain ⟨n0, e0, rfl, w0⟩ := DataW.trod_string Try.underlying9 t0
    obtain ⟨n1, e1, rfl, w1⟩ := DataW.trod_string Try.underlying9 t1
    simp only [List.cons.injEq, and_true] at e0 e1
    subst e0 e1
    refine ⟨n0.data.toList, n1.data.toList, ?_, rfl, rfl⟩
    have s0 : (⟨n0.data.toList.toArray⟩ : ByteArray) = n0 := by cases n0; simp
    have s1 : (⟨n1.data.toList.toArray⟩ : ByteArray) = n1 := by cases n1; simp
    rw [s0, s1]
end
section
open Go.ChangeShapes Go.WideShapes Go.Opens
variable {H : Type} {enc : TypeId × Value → H} {w : World} {base : Nat} {spare : Nat → Bool} {held : Bool}
theorem open_str3 {r : Reach} {b0 : Nat} {v : Value} {d : DataW H} {p : List MemPlace} (hv : Value.okWide Try.prog w r b0 53 v) (h : DataW.Trod enc Try.prog w base spare held 53 v d p) :
    ∃ s t u : List UInt8, v = .agg #[.string ⟨s.toArray⟩, .string ⟨t.toArray⟩, .string ⟨u.toArray⟩] ∧ d = .agg [.lit (.string s), .lit (.string t), .lit (.string u)] ∧ p = [] := by
  obtain ⟨cs, ys, m, rfl, rfl, rfl, hc, hy, hf⟩ := open_array1 Try.underlying53 (by kernel_rfl) (by kernel_rfl) hv h
  match cs, hc, ys, hy with
  | [c0, c1, c2], _, [y0, y1, y2], _ =>
    have t0 := hf 0 _ _ rfl rfl
    have t1 := hf 1 _ _ rfl rfl
    have t2 := hf 2 _ _ rfl rfl
    obtain ⟨n0, e0, rfl, w0⟩ := DataW.trod_string Try.underlying9 t0
    obtain ⟨n1, e1, rfl, w1⟩ := DataW.trod_string Try.underlying9 t1
    obtain ⟨n2, e2, rfl, w2⟩ := DataW.trod_string Try.underlying9 t2
    simp only [List.cons.injEq, and_true] at e0 e1 e2
    subst e0 e1 e2
    refine ⟨n0.data.toList, n1.data.toList, n2.data.toList, ?_, rfl, rfl⟩
    have s0 : (⟨n0.data.toList.toArray⟩ : ByteArray) = n0 := by cases n0; simp
    have s1 : (⟨n1.data.toList.toArray⟩ : ByteArray) = n1 := by cases n1; simp
    have s2 : (⟨n2.data.toList.toArray⟩ : ByteArray) = n2 := by cases n2; simp
    rw [s0, s1, s2]
end
end Go.Proofs.Ytanaoepakllohaa
