/- MemoryPlays. -/
import Derived.Test.YtpcapifjbhaeeaaMemT
namespace Go.Proofs.Ytpcapifjbhaeeaa
set_option maxRecDepth 16000
open Go.RowKit Spoor
set_option linter.unusedVariables false

theorem memoryPlays_law (w : World) (v : Value) (l : List Ce) (key : ByteArray) (e0 e1 : List UInt8) (hs : SlAt v l w) (hn : v = .slice none 0 0 ∨ ∃ ad n c, v = .slice (some ad) n c) (hw : ∀ c ∈ l, WfC c) (hkk : key.size ≤ 140737488351232) :
    Calls Try.prog 3 #[v, .string key, .agg #[.string ⟨e0.toArray⟩, .string ⟨e1.toArray⟩]] w fun e w' => e = .returned (.bool true) ∧ Below w.heap.size w w' := by
  have es : key = ⟨key.data.toList.toArray⟩ := by cases key; simp
  rw [es] at hkk ⊢
  have hkl : key.data.toList.length ≤ 140737488351232 := hkk
  generalize key.data.toList = key at *
  clear es hkk
  by_cases hall : greatL l 200 = false ∧ ¬ (1000 : Int) < (key.length : Int) ∧ ¬ (1000 : Int) < (e0.length : Int) ∧ ¬ (1000 : Int) < (e1.length : Int)
  · exact memoryPlays_yes w v l key e0 e1 hs hw hall.2.1 hall.2.2.1 hall.2.2.2 hall.1
  · have cg := fun W (h : SlAt v l W) => greatL_any v l 200 W h hw (by omega)
    have nb := (Below.refl w.heap.size w).alloc (Nat.le_refl _) (.cells #[.string ⟨e0.toArray⟩, .string ⟨e1.toArray⟩] 23)
    have hbx := heap_alloc_new w (.cells #[.string ⟨e0.toArray⟩, .string ⟨e1.toArray⟩] 23)
    have CG := Lib.hid (cg _ (hs.later nb))
    have HB0 := Lib.hid nb
    have HBX := Lib.hid hbx
    have HSZ := Lib.hid (show (w.alloc (.cells #[.string ⟨e0.toArray⟩, .string ⟨e1.toArray⟩] 23)).heap.size = w.heap.size + 1 by simp)
    obtain ⟨W0, hW0⟩ : ∃ W0, w.alloc (.cells #[.string ⟨e0.toArray⟩, .string ⟨e1.toArray⟩] 23) = W0 := ⟨_, rfl⟩
    rw [hW0] at HB0 HBX CG HSZ
    have HA := Lib.hid hall
    clear cg hw hs nb hbx hn hkl hall
    go_enter Try.func3, Try.ntmps3
    go_wp2_with fail
    clear hW0
    refine CG.out.mono ?_
    rintro e w1 ⟨rfl, b1⟩
    clear CG
    obtain ⟨X, hX⟩ : ∃ X, w.heap.size = X := ⟨_, rfl⟩
    have HX := Lib.hid hX
    rw [hX] at HBX HSZ ⊢
    have hb1 := (b1.block X (by have := HSZ.out; omega)).trans HBX.out
    have x0 : w1.cell? ⟨X, 0, none⟩ = some (.string ⟨e0.toArray⟩) := by simp [World.cell?, hb1]
    have x1 : w1.cell? ⟨X, 1, none⟩ = some (.string ⟨e1.toArray⟩) := by simp [World.cell?, hb1]
    have HB1 := Lib.hid (show Below X w w1 from by have h := HB0.out.trans (b1.mono (by have := HSZ.out; have := HX.out; omega)); rwa [hX] at h)
    clear hb1 b1 hX HBX HSZ HB0
    have hgo : ∀ g f1 f2 f3 : Bool, greatL l 200 = g → decide ((1000 : Int) < (key.length : Int)) = f1 → decide ((1000 : Int) < (e0.length : Int)) = f2 → decide ((1000 : Int) < (e1.length : Int)) = f3 → (g || f1 || f2 || f3) = true := by
      intro g f1 f2 f3 h0 h1 h2 h3
      have := HA.out
      cases g <;> cases f1 <;> cases f2 <;> cases f3 <;> simp_all
    have HGO := Lib.hid hgo
    clear hgo HA
    obtain ⟨g, hg⟩ : ∃ g, greatL l 200 = g := ⟨_, rfl⟩
    have HG := Lib.hid hg
    rw [hg]
    clear hg
    cases h1 : decide ((1000 : Int) < (key.length : Int)) <;> cases h2 : decide ((1000 : Int) < (e0.length : Int)) <;> cases h3 : decide ((1000 : Int) < (e1.length : Int)) <;> cases g <;>
      first
      | (exfalso; have := HGO.out _ _ _ _ HG.out h1 h2 h3; simp at this; done)
      | (go_wp2_with fail
         go_ret
         exact ⟨rfl, by rw [HX.out]; exact HB1.out⟩)
section
open Go.ChangeShapes Go.WideShapes Go.Opens
variable {H : Type} {enc : TypeId × Value → H} {w : World} {base : Nat} {spare : Nat → Bool} {held : Bool}
theorem open_str2m {r : Reach} {b0 : Nat} {v : Value} {d : DataW H} {p : List MemPlace} (hv : Value.okWide Try.prog w r b0 23 v) (h : DataW.Trod enc Try.prog w base spare held 23 v d p) :
    ∃ s t : List UInt8, v = .agg #[.string ⟨s.toArray⟩, .string ⟨t.toArray⟩] ∧ d = .agg [.lit (.string s), .lit (.string t)] ∧ p = [] := by
  obtain ⟨cs, ys, m, rfl, rfl, rfl, hc, hy, hf⟩ := open_array1 Try.underlying23 (by kernel_rfl) (by kernel_rfl) hv h
  match cs, hc, ys, hy with
  | [c0, c1], _, [y0, y1], _ =>
    have t0 := hf 0 _ _ rfl rfl
    have t1 := hf 1 _ _ rfl rfl
    obtain ⟨n0, e0, rfl, w0⟩ := DataW.trod_string Try.underlying9 t0
    obtain ⟨n1, e1, rfl, w1⟩ := DataW.trod_string Try.underlying9 t1
    simp only [List.cons.injEq, and_true] at e0 e1
    subst e0 e1
    refine ⟨n0.data.toList, n1.data.toList, ?_, rfl, rfl⟩
    have s0 : (⟨n0.data.toList.toArray⟩ : ByteArray) = n0 := by cases n0; simp
    have s1 : (⟨n1.data.toList.toArray⟩ : ByteArray) = n1 := by cases n1; simp
    rw [s0, s1]
end
end Go.Proofs.Ytpcapifjbhaeeaa
