/- Arguments opened to cells: a struct of any number of fields of one cell, an array of elements of one cell; what the weights say of their parts. Over any program; no condition. -/
import Derived.SizedLaws
import Derived.OpenShut
import Derived.WideShapes
import Derived.Deep.Fields
namespace Go.Opens
open Go.ChangeShapes Go.WideShapes Go.Deep
section
variable {H : Type} {enc : TypeId × Value → H} {P : Program} {w : World} {base : Nat} {spare : Nat → Bool} {held : Bool}
theorem open_fields {r : Reach} {b0 : Nat} {t : TypeId} {fs : Array Field} {v : Value} {d : DataW H} {p : List MemPlace} (hs : P.underlying t = some (.struct fs)) (hone : oneCellFields P fs = true) (hC : P.cellsOf t = fs.size)
    (hv : Value.okWide P w r b0 t v) (h : DataW.Trod enc P w base spare held t v d p) :
    ∃ (cs : List Value) (ys : List (DataW H × List MemPlace)) (n : Nat), v = .agg cs.toArray ∧ d = .agg (ys.map (·.1)) ∧ p = ys.flatMap (·.2) ∧ cs.length = fs.size ∧ ys.length = fs.size ∧
      ∀ (j : Nat) (f : Field) (c : Value) (y : DataW H × List MemPlace), fs[j]? = some f → cs[j]? = some c → ys[j]? = some y → DataW.trod enc P w base spare held n f.type [c] = some y := by
  obtain ⟨cs, rfl, hsz⟩ := okWide_struct hs hv
  obtain ⟨fuel, hf⟩ := h
  obtain ⟨xs, n, _, hx, _, hlen, hg⟩ := DataW.trod_struct hs hf
  simp only [Prod.mk.injEq] at hx
  refine ⟨cs.toList, xs, n, by simp, hx.1, hx.2, by simpa using hsz.trans hC, hlen, fun j f c y hj hc hy => ?_⟩
  have h1 := hg j f hj
  obtain ⟨ho, hk⟩ := hone_of hone j f hj
  rw [ho, hk, hy] at h1
  have hcs : cs[j]? = some c := by simpa using hc
  have e : ((Value.agg cs).cells.toList.drop j).take 1 = [c] := by
    show (cs.toList.drop j).take 1 = [c]
    have hjl : j < cs.toList.length := by
      have := (Array.getElem?_eq_some_iff.1 hcs).1
      simpa using this
    rw [List.drop_eq_getElem_cons hjl]
    have : cs.toList[j] = c := by
      have := List.getElem?_eq_getElem hjl
      rw [hc] at this
      exact (Option.some.inj this).symm
    rw [this]
    rfl
  rw [e] at h1
  exact h1

theorem okWide_array {r : Reach} {b0 : Nat} {t : TypeId} {n : Nat} {e : TypeId} {v : Value} (ht : P.underlying t = some (.array n e)) (h : Value.okWide P w r b0 t v) : ∃ cs, v = .agg cs ∧ cs.size = P.cellsOf t := by
  simp only [Value.okWide, ht] at h
  obtain ⟨cs, h1, h2, _⟩ := h
  exact ⟨cs, h1, h2⟩
theorem open_array1 {r : Reach} {b0 : Nat} {t : TypeId} {n : Nat} {e : TypeId} {v : Value} {d : DataW H} {p : List MemPlace} (hs : P.underlying t = some (.array n e)) (he : P.cellsOf e = 1) (hC : P.cellsOf t = n)
    (hv : Value.okWide P w r b0 t v) (h : DataW.Trod enc P w base spare held t v d p) :
    ∃ (cs : List Value) (ys : List (DataW H × List MemPlace)) (m : Nat), v = .agg cs.toArray ∧ d = .agg (ys.map (·.1)) ∧ p = ys.flatMap (·.2) ∧ cs.length = n ∧ ys.length = n ∧
      ∀ (j : Nat) (c : Value) (y : DataW H × List MemPlace), cs[j]? = some c → ys[j]? = some y → DataW.trod enc P w base spare held m e [c] = some y := by
  obtain ⟨cs, rfl, hsz⟩ := okWide_array hs hv
  obtain ⟨fuel, hf⟩ := h
  obtain ⟨xs, m, _, hx, _, hlen, hg⟩ := DataW.trod_array hs hf
  simp only [Prod.mk.injEq] at hx
  refine ⟨cs.toList, xs, m, by simp, hx.1, hx.2, by simpa using hsz.trans hC, hlen, fun j c y hc hy => ?_⟩
  have hjl : j < cs.toList.length := (List.getElem?_eq_some_iff.1 hc).1
  have h1 := hg j (by have := hsz.trans hC; simp at hjl; omega)
  rw [he, hy, Nat.mul_one] at h1
  have e : ((Value.agg cs).cells.toList.drop j).take 1 = [c] := by
    show (cs.toList.drop j).take 1 = [c]
    rw [List.drop_eq_getElem_cons hjl]
    have : cs.toList[j] = c := by
      have := List.getElem?_eq_getElem hjl
      rw [hc] at this
      exact (Option.some.inj this).symm
    rw [this]
    rfl
  rw [e] at h1
  exact h1
end

section
variable {H : Type} {P : Program} {ts : List TypeId} {ds : List (DataW H)}
theorem sized_agg (h : (DataW.weightsEach P ts ds).all (· ≤ reachBytes) = true) {j : Nat} {t : TypeId} {fs : Array Field} {parts : List (DataW H)} (ht : ts[j]? = some t) (hd : ds[j]? = some (.agg parts)) (hu : P.underlying t = some (.struct fs)) :
    (DataW.weightsEach P (fs.toList.map (·.type)) parts).all (· ≤ reachBytes) = true := by
  refine List.all_eq_true.2 fun n hn => List.all_eq_true.1 h n (DataW.weights_mem_each ht hd n ?_)
  simpa [DataW.weights, hu] using hn
theorem weightsAll_mem {e : TypeId} : ∀ {ds : List (DataW H)} {j : Nat} {d : DataW H}, ds[j]? = some d → ∀ n ∈ d.weights P e, n ∈ DataW.weightsAll P e ds
  | d0 :: ds, 0, d, hd, n, hn => by
    simp only [List.getElem?_cons_zero, Option.some.injEq] at hd
    subst hd
    simp only [DataW.weightsAll, List.mem_append]
    exact Or.inl hn
  | d0 :: ds, j + 1, d, hd, n, hn => by
    simp only [List.getElem?_cons_succ] at hd
    simp only [DataW.weightsAll, List.mem_append]
    exact Or.inr (weightsAll_mem hd n hn)
  | [], _, _, hd, _, _ => by simp at hd
theorem sized_array_string (h : (DataW.weightsEach P ts ds).all (· ≤ reachBytes) = true) {j i : Nat} {t e : TypeId} {n : Nat} {parts : List (DataW H)} {bytes : List UInt8} (ht : ts[j]? = some t) (hd : ds[j]? = some (.agg parts)) (hu : P.underlying t = some (.array n e)) (hi : parts[i]? = some (.lit (.string bytes))) : bytes.length ≤ reachBytes := by
  have := List.all_eq_true.1 h bytes.length (DataW.weights_mem_each ht hd bytes.length (by simp only [DataW.weights, hu]; exact weightsAll_mem hi _ (by simp [DataW.weights])))
  simpa using this
end
end Go.Opens
