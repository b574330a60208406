/- MemoryCut. -/
import Derived.Test.YtpcapifjbhaeeaaMemX
namespace Go.Proofs.Ytpcapifjbhaeeaa
set_option maxRecDepth 16000
open Go.RowKit Spoor
set_option linter.unusedVariables false

theorem memoryCut_law (w : World) (v : Value) (l : List Ce) (u : Value) (more : List Ce) (key : ByteArray) (hs : SlAt v l w) (hn : v = .slice none 0 0 ∨ ∃ ad n c, v = .slice (some ad) n c) (hw : ∀ c ∈ l, WfC c)
    (hs2 : SlAt u more w) (hn2 : u = .slice none 0 0 ∨ ∃ ad n c, u = .slice (some ad) n c) (hw2 : ∀ c ∈ more, WfC c) (hkk : key.size ≤ 140737488351232) :
    Calls Try.prog 4 #[v, u, .string key] w fun e w' => e = .returned (.bool true) ∧ Below w.heap.size w w' := by
  have es : key = ⟨key.data.toList.toArray⟩ := by cases key; simp
  rw [es] at hkk ⊢
  generalize key.data.toList = key at *
  clear es hkk
  by_cases hall : greatL l 100 = false ∧ greatL more 100 = false ∧ ¬ (1000 : Int) < (key.length : Int)
  · exact memoryCut_yes w v u l more key hs hs2 hw hw2 hall.2.2 hall.1 hall.2.1
  · have cg := greatL_any v l 100 w hs hw (by omega)
    have cg2 := fun W (hb : Below w.heap.size w W) => greatL_any u more 100 W (hs2.later hb) hw2 (by omega)
    have hgo : ∀ g g2 f1 : Bool, greatL l 100 = g → greatL more 100 = g2 → decide ((1000 : Int) < (key.length : Int)) = f1 → (g || g2 || f1) = true := by
      intro g g2 f1 h0 h1 h2
      cases g <;> cases g2 <;> cases f1 <;> simp_all
    have HGO := Lib.hid hgo
    obtain ⟨g, hg⟩ : ∃ g, greatL l 100 = g := ⟨_, rfl⟩
    obtain ⟨g2, hg2⟩ : ∃ g2, greatL more 100 = g2 := ⟨_, rfl⟩
    have HG := Lib.hid (And.intro hg hg2)
    rw [hg] at cg
    rw [hg2] at cg2
    have CG := Lib.hid cg
    have CG2 := Lib.hid cg2
    clear cg cg2 hw hw2 hs hs2 hn hn2 hgo hall hg hg2
    go_enter Try.func4, Try.ntmps4
    cases h1 : decide ((1000 : Int) < (key.length : Int)) <;> cases g2 <;> cases g <;>
      first
      | (exfalso; have := HGO.out _ _ _ HG.out.1 HG.out.2 h1; simp at this; done)
      | (go_wp2_with fail
         refine CG.out.mono ?_
         rintro e w1 ⟨rfl, b1⟩
         have CGB := Lib.hid (CG2.out w1 b1)
         have HB1 := Lib.hid b1
         clear CG CG2 b1
         go_wp2_with fail
         refine CGB.out.mono ?_
         rintro e w2 ⟨rfl, b2⟩
         have B2 := btP HB1.out b2
         clear CGB b2 HB1
         go_wp2_with fail
         go_ret
         exact ⟨rfl, B2⟩)
      | (go_wp2_with fail
         refine CG.out.mono ?_
         rintro e w1 ⟨rfl, b1⟩
         clear CG CG2
         go_wp2_with fail
         go_ret
         exact ⟨rfl, b1⟩)
end Go.Proofs.Ytpcapifjbhaeeaa
