/- The walks on acks' decoding, and the document's acks. -/
import Derived.Test.YtheeekmhmbkncaaPostsB
namespace Go.Proofs.Ytheeekmhmbkncaa
open Go.RowKit Spoor

/-- an ack's variable of which so many numbers are laid -/
def AkN (b : Nat) (ns : List Nat) (W : World) : Prop := W.heap[b]? = some (.cells #[.int .i64 (ns.getD 0 0 : Nat), .int .i64 (ns.getD 1 0 : Nat), .int .i64 (ns.getD 2 0 : Nat)] 26 (0, 0))
def Pt3 (g : Nat) (p : Nat → Addr) (W : World) : Prop := W.heap[g]? = some (.cells #[.pointer (some (p 0)), .pointer (some (p 1)), .pointer (some (p 2))] 56 (0, 0))
theorem blk_later {b : Nat} {o : Obj} {W W' : World} (h : W.heap[b]? = some o) (hb : Below W.heap.size W W') : W'.heap[b]? = some o := by
  rw [hb.block b ((Array.getElem?_eq_some_iff.1 h).1)]; exact h
theorem blk_other {b : Nat} {o : Obj} {W : World} (h : W.heap[b]? = some o) (a : Addr) (hne : b ≠ a.block) (v : Value) : (W.setCell a v).heap[b]? = some o := (Below.heap_setCell W a v b hne).trans h
theorem AkN.set {b : Nat} {ns : List Nat} {W : World} (h : AkN b ns W) (hl : ns.length < 3) (n : Nat) : AkN b (ns ++ [n]) (W.setCell ⟨b, ns.length, none⟩ (.int .i64 (n : Nat))) := by
  unfold AkN at h ⊢
  rw [heap_setCell_same W b _ _ _ _ h]
  match ns, hl with
  | [], _ => rfl
  | [_], _ => rfl
  | [_, _], _ => rfl
theorem Pt3.at {g : Nat} {p : Nat → Addr} {W : World} (h : Pt3 g p W) (i : Nat) (hi : i < 3) : W.cell? ⟨g, i, none⟩ = some (.pointer (some (p i))) := by
  rw [cell_of_row W g _ _ _ _ h]
  match i, hi with
  | 0, _ => rfl
  | 1, _ => rfl
  | 2, _ => rfl
structure ZA (w : World) (r b g : Nat) (ns : List Nat) (W : World) : Prop where
  res : AkN r [] W
  at' : AkN b ns W
  ptr : Pt3 g (fun i => ⟨b, i, none⟩) W
  bel : Below w.heap.size w W
theorem three_ack (w : World) (r b g : Nat) (h1 : r ≠ b) (h2 : b ≠ g) (h3 : w.heap.size ≤ b) : Three g (fun i => ⟨b, i, none⟩) (ZA w r b g) := by
  refine ⟨?_, ?_, ?_, ?_⟩
  · intro ns W W' h hb
    exact ⟨blk_later h.res hb, blk_later h.at' hb, blk_later h.ptr hb, btP h.bel hb⟩
  · intro ns W i h hi
    exact h.ptr.at i hi
  · intro ns W i h hi
    refine ⟨?_, frozen_of_row W b i _ _ h.at'⟩
    rw [cell_of_row W b _ _ _ _ h.at']
    match i, hi with
    | 0, _ => exact ⟨_, rfl⟩
    | 1, _ => exact ⟨_, rfl⟩
    | 2, _ => exact ⟨_, rfl⟩
  · intro ns W n h hl
    exact ⟨blk_other h.res _ h1 _, h.at'.set hl n, blk_other h.ptr _ (fun e => h2 e.symm) _, h.bel.setCell (p := ⟨b, ns.length, none⟩) h3 _⟩
def decAkV : Option Ak → Value
  | some a => .tuple #[akVal a, .int .i64 0]
  | none => .tuple #[akVal ⟨0, 0, 0⟩, .int .i64 30]
def fitAk (h f m : Nat) : Bool := hoOk h && (reOk f && decide ((m : Int) ≤ 2147483647 - f))
theorem decAk_gets (s : List UInt8) : decAk s = match getsR 65 s with
    | some ([h, f, m], []) => if fitAk h f m = true then some ⟨(h : Int), (f : Int), (f : Int) + m⟩ else none
    | _ => none := by
  unfold decAk getsR fitAk
  cases behind 65 s <;> rfl
set_option maxHeartbeats 4000000 in
theorem decodeAck_any (s : List UInt8) (w : World) (hs : s.length ≤ 140737488351232) :
    Calls Try.prog 18 #[.string ⟨s.toArray⟩] w fun e w' => e = .returned (decAkV (decAk s)) ∧ Below w.heap.size w w' := by
  have CG := Lib.hid (fun (g b : Nat) (W : World) (hg : g ≠ b) (hb : w.heap.size ≤ b) (hz : ZA w w.heap.size b g [] W) (h1 : w.heap.size ≠ b) => gets_any 65 s g (fun i => ⟨b, i, none⟩) (ZA w w.heap.size b g) W (three_ack w w.heap.size b g h1 hg.symm hb) hz hs)
  have HD := Lib.hid (decAk_gets s)
  clear hs
  go_enter Try.func18, Try.ntmps18
  go_wp2_with fail
  refine (CG.out (w.heap.size + 1 + 1) (w.heap.size + 1) _ (by omega) (by omega) ?_ (by omega)).mono ?_
  · refine ⟨?_, ?_, ?_, ?_⟩
    · unfold AkN
      rw [heap_alloc_old _ _ (by simp; omega), heap_alloc_old _ _ (by simp)]
      exact heap_alloc_new w _
    · unfold AkN
      rw [heap_alloc_old _ _ (by simp)]
      exact heap_new_at _ _ _ (by simp)
    · exact heap_new_at _ _ _ (by simp)
    · exact (((Below.refl _ _).alloc (Nat.le_refl _) _).alloc (by simp) _).alloc (by simp; omega) _
  clear CG
  rintro e w1 hx
  rcases hx with ⟨ns, r, hR, rfl, z⟩ | ⟨hR, rfl, ns, z⟩
  · obtain ⟨hl3, hget, hbig⟩ : ns.length = 3 ∧ True ∧ ∀ n ∈ ns, n ≤ 9223372036854775807 := by
      unfold getsR at hR
      cases hb : behind 65 s with
      | none => rw [hb] at hR; cases hR
      | some l =>
        rw [hb] at hR
        obtain ⟨q1, _, q3⟩ := nums_some hR
        exact ⟨q1, trivial, q3⟩
    match ns, hl3 with
    | [h, f, m], _ =>
    have hh := hbig h (by simp)
    have hf := hbig f (by simp)
    have hm := hbig m (by simp)
    have hd := HD.out
    rw [hR] at hd
    have za := z.at'
    have zr := z.res
    have B1 := Lib.hid z.bel
    have hlt := z.at'
    have k0 := cell_of_row w1 (w.heap.size + 1) 0 _ _ _ za
    have k1 := cell_of_row w1 (w.heap.size + 1) 1 _ _ _ za
    have k2 := cell_of_row w1 (w.heap.size + 1) 2 _ _ _ za
    have g0 := cell_of_row w1 w.heap.size 0 _ _ _ zr
    have g1 := cell_of_row w1 w.heap.size 1 _ _ _ zr
    have g2 := cell_of_row w1 w.heap.size 2 _ _ _ zr
    have f0 := frozen_of_row w1 w.heap.size 0 _ _ zr
    have f1 := frozen_of_row w1 w.heap.size 1 _ _ zr
    have f2 := frozen_of_row w1 w.heap.size 2 _ _ zr
    have f3 := frozen_of_row w1 (w.heap.size + 1) 2 _ _ za
    simp at k0 k1 k2 g0 g1 g2
    have c1 := fun W => host_any h W
    have c2 := fun W => record_any f W
    clear hR HD za zr hlt z hbig hget
    cases r with
    | cons c t =>
      have hdn : decAk s = none := hd
      clear hd c1 c2
      go_wp2_with fail
      refine bodyPost_ret (v := decAkV none) (by simp [results, decAkV, akVal, Try.results18, go_sem, *]) rfl ⟨by rw [hdn], (((B1.out.setCell (p := ⟨w.heap.size, 0, none⟩) (Nat.le_refl _) _).setCell (p := ⟨w.heap.size, 1, none⟩) (Nat.le_refl _) _).setCell (p := ⟨w.heap.size, 2, none⟩) (Nat.le_refl _) _)⟩
    | nil =>
      cases hho : hoOk h with
      | false =>
        have hdn : decAk s = none := by rw [hd]; simp [fitAk, hho]
        rw [hho] at c1
        have CH := Lib.hid c1
        clear hd c1 c2 hho
        go_wp2_with fail
        refine (CH.out _).mono ?_
        rintro e w2 ⟨rfl, rfl⟩
        go_wp2_with fail
        refine bodyPost_ret (v := decAkV none) (by simp [results, decAkV, akVal, Try.results18, go_sem, *]) rfl ⟨by rw [hdn], (((B1.out.setCell (p := ⟨w.heap.size, 0, none⟩) (Nat.le_refl _) _).setCell (p := ⟨w.heap.size, 1, none⟩) (Nat.le_refl _) _).setCell (p := ⟨w.heap.size, 2, none⟩) (Nat.le_refl _) _)⟩
      | true =>
        rw [hho] at c1
        cases hre : reOk f with
        | false =>
          have hdn : decAk s = none := by rw [hd]; simp [fitAk, hho, hre]
          rw [hre] at c2
          have CH := Lib.hid c1
          have CR := Lib.hid c2
          clear hd c1 c2 hho hre
          go_wp2_with fail
          refine (CH.out _).mono ?_
          rintro e w2 ⟨rfl, rfl⟩
          go_wp2_with fail
          refine (CR.out _).mono ?_
          rintro e w2 ⟨rfl, rfl⟩
          go_wp2_with fail
          refine bodyPost_ret (v := decAkV none) (by simp [results, decAkV, akVal, Try.results18, go_sem, *]) rfl ⟨by rw [hdn], (((B1.out.setCell (p := ⟨w.heap.size, 0, none⟩) (Nat.le_refl _) _).setCell (p := ⟨w.heap.size, 1, none⟩) (Nat.le_refl _) _).setCell (p := ⟨w.heap.size, 2, none⟩) (Nat.le_refl _) _)⟩
        | true =>
          rw [hre] at c2
          have hf2 : (f : Int) ≤ 2147483647 := by simp [reOk] at hre; omega
          by_cases hmx : (m : Int) ≤ 2147483647 - f
          · have hdn : decAk s = some ⟨(h : Int), (f : Int), (f : Int) + m⟩ := by rw [hd]; simp [fitAk, hho, hre, hmx]
            have CH := Lib.hid c1
            have CR := Lib.hid c2
            have hmf : ((m : Int) + f) = f + m := Int.add_comm _ _
            clear hd c1 c2 hho hre
            go_wp2_with fail
            refine (CH.out _).mono ?_
            rintro e w2 ⟨rfl, rfl⟩
            go_wp2_with fail
            refine (CR.out _).mono ?_
            rintro e w2 ⟨rfl, rfl⟩
            go_wp2_with fail
            refine bodyPost_ret (v := decAkV (some ⟨(h : Int), (f : Int), (f : Int) + m⟩)) (by simp [results, decAkV, akVal, Try.results18, go_sem, *]) rfl ⟨by rw [hdn], ((((B1.out.setCell (p := ⟨w.heap.size + 1, 2, none⟩) (by simp) _).setCell (p := ⟨w.heap.size, 0, none⟩) (Nat.le_refl _) _).setCell (p := ⟨w.heap.size, 1, none⟩) (Nat.le_refl _) _).setCell (p := ⟨w.heap.size, 2, none⟩) (Nat.le_refl _) _)⟩
          · have hdn : decAk s = none := by rw [hd]; simp [fitAk, hho, hre, hmx]
            have CH := Lib.hid c1
            have CR := Lib.hid c2
            have hm2 := decide_eq_false hmx
            clear hd c1 c2 hho hre
            go_wp2_with fail
            refine (CH.out _).mono ?_
            rintro e w2 ⟨rfl, rfl⟩
            go_wp2_with fail
            refine (CR.out _).mono ?_
            rintro e w2 ⟨rfl, rfl⟩
            go_wp2_with fail
            refine bodyPost_ret (v := decAkV none) (by simp [results, decAkV, akVal, Try.results18, go_sem, *]) rfl ⟨by rw [hdn], (((B1.out.setCell (p := ⟨w.heap.size, 0, none⟩) (Nat.le_refl _) _).setCell (p := ⟨w.heap.size, 1, none⟩) (Nat.le_refl _) _).setCell (p := ⟨w.heap.size, 2, none⟩) (Nat.le_refl _) _)⟩
  · have hdn : decAk s = none := by rw [HD.out, hR]
    have zr := z.res
    have B1 := Lib.hid z.bel
    have g0 := cell_of_row w1 w.heap.size 0 _ _ _ zr
    have g1 := cell_of_row w1 w.heap.size 1 _ _ _ zr
    have g2 := cell_of_row w1 w.heap.size 2 _ _ _ zr
    have f0 := frozen_of_row w1 w.heap.size 0 _ _ zr
    have f1 := frozen_of_row w1 w.heap.size 1 _ _ zr
    have f2 := frozen_of_row w1 w.heap.size 2 _ _ zr
    simp at g0 g1 g2
    clear HD zr z
    go_wp2_with fail
    refine bodyPost_ret (v := decAkV none) (by simp [results, decAkV, akVal, Try.results18, go_sem, *]) rfl ⟨by rw [hdn], (((B1.out.setCell (p := ⟨w.heap.size, 0, none⟩) (Nat.le_refl _) _).setCell (p := ⟨w.heap.size, 1, none⟩) (Nat.le_refl _) _).setCell (p := ⟨w.heap.size, 2, none⟩) (Nat.le_refl _) _)⟩
end Go.Proofs.Ytheeekmhmbkncaa
