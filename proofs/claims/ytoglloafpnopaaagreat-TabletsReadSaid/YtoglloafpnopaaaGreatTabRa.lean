/- Open's last condition, walked. -/
import Derived.Test.YtoglloafpnopaaaGreatTabQ
set_option linter.unusedSimpArgs false
set_option linter.unusedVariables false
namespace Go.Proofs.YtoglloafpnopaaaGreat
set_option maxRecDepth 16000
open Go.RowKit Spoor
set_option maxRecDepth 100000 in
set_option maxHeartbeats 16000000 in
theorem open_r21 {Q : Exit → Act → World → Prop} {w : World} {T0 Dl Ix ia da ln NI ND mn : Nat} {D I : List UInt8} {ib db fb : Bool} {ds : List Deferred}
 {x0 x1 x2 x3 x4 x5 x6 x8 x12 x13 x14 x15 x16 x17 x18 x19 x20 x21 x22 x23 x24 x25 x26 x27 x28 x29 x30 x31 x32 x33 x34 x35 x36 x37 x38 x39 x40 x41 x42 x43 x44 x45 x46 x47 x48 x49 x50 x51 x52 x53 x54 x55 x56 x57 x58 x59 x60 x61 x62 x63 x64 x65 x66 x67 x68 x69 x70 x71 x72 x73 x74 x75 x76 x77 x78 x79 x80 x81 x82 x83 x84 x85 x86 x87 x88 x89 x90 x91 x92 x93 x94 x95 x96 x97 x98 x99 x100 x101 x102 x103 x104 x105 x106 x107 x108 x109 x110 x111 x112 x113 x114 x115 x116 x117 x118 x119 x120 x121 x122 x123 x124 x125 x126 x127 x128 x129 x130 x131 x132 x133 x134 x135 x136 x137 x138 x139 x140 x141 x142 x143 x144 x145 x146 x147 x148 x149 x150 x151 x152 x153 x154 x155 x156 x157 x158 x159 x160 x161 x162 x163 x164 x165 x166 x167 x168 x169 x218 : Value} {x170 x171 x172 x173 x174 x175 x176 x177 x178 x179 x180 x181 x182 x183 x184 x185 x186 x187 x188 x189 x190 x191 x192 x193 x194 x195 x196 x197 x198 x199 x200 x201 x202 x203 x204 x205 x206 x207 x208 x209 x210 x211 x212 x213 x214 x215 x216 x217 : Value}
 (hfb : (!ib && !db && decide (¬ ia < NI) && decide (¬ da < ND) && decide (ln = mn) && decide (mn ≤ 4096)) = fb)
 (hLI : (⟨I.toArray⟩ : ByteArray).size = NI) (hLD : (⟨D.toArray⟩ : ByteArray).size = ND)
 (LNC : Hid (∀ W', Below w.heap.size w W' → Calls Tryz.prog 47 #[.pointer (some ⟨T0, 0, none⟩)] W' fun e w' => e = .returned (.int .i64 ln) ∧ Below W'.heap.size W' w'))
 (HSF : Hid (∀ W', Below w.heap.size w W' → (W'.cell? ⟨Dl, 0, none⟩ = some (.int .i64 da) ∧ W'.cell? ⟨Dl, 1, none⟩ = some (.bool db) ∧ W'.cell? ⟨Dl, 2, none⟩ = some (.string ⟨D.toArray⟩)) ∧ W'.cell? ⟨Ix, 0, none⟩ = some (.int .i64 ia) ∧ W'.cell? ⟨Ix, 1, none⟩ = some (.bool ib) ∧ W'.cell? ⟨Ix, 2, none⟩ = some (.string ⟨I.toArray⟩)))
 (hQ : ∀ c (d : Tmp) v a w, Q (.panic c) (a.put (some d) v) w → Q (.panic c) a w)
 (HK : Hid (∀ (x170 x171 x172 x173 x174 x175 x176 x177 x178 x179 x180 x181 x182 x183 x184 x185 x186 x187 x188 x189 x190 x191 x192 x193 x194 x195 x196 x197 x198 x199 x200 x201 x202 x203 x204 x205 x206 x207 x208 x209 x210 x211 x212 x213 x214 x215 x216 : Value) (w' : World), Below w.heap.size w w' → Q .normal { tmps := #[x0, x1, x2, x3, x4, x5, x6, .int .i64 mn, x8, .pointer (some ⟨T0, 0, none⟩), .pointer (some ⟨Dl, 0, none⟩), .pointer (some ⟨Ix, 0, none⟩), x12, x13, x14, x15, x16, x17, x18, x19, x20, x21, x22, x23, x24, x25, x26, x27, x28, x29, x30, x31, x32, x33, x34, x35, x36, x37, x38, x39, x40, x41, x42, x43, x44, x45, x46, x47, x48, x49, x50, x51, x52, x53, x54, x55, x56, x57, x58, x59, x60, x61, x62, x63, x64, x65, x66, x67, x68, x69, x70, x71, x72, x73, x74, x75, x76, x77, x78, x79, x80, x81, x82, x83, x84, x85, x86, x87, x88, x89, x90, x91, x92, x93, x94, x95, x96, x97, x98, x99, x100, x101, x102, x103, x104, x105, x106, x107, x108, x109, x110, x111, x112, x113, x114, x115, x116, x117, x118, x119, x120, x121, x122, x123, x124, x125, x126, x127, x128, x129, x130, x131, x132, x133, x134, x135, x136, x137, x138, x139, x140, x141, x142, x143, x144, x145, x146, x147, x148, x149, x150, x151, x152, x153, x154, x155, x156, x157, x158, x159, x160, x161, x162, x163, x164, x165, x166, x167, x168, x169, x170, x171, x172, x173, x174, x175, x176, x177, x178, x179, x180, x181, x182, x183, x184, x185, x186, x187, x188, x189, x190, x191, x192, x193, x194, x195, x196, x197, x198, x199, x200, x201, x202, x203, x204, x205, x206, x207, x208, x209, x210, x211, x212, x213, x214, x215, x216, .bool (!fb), x218], defers := ds } w')) :
 (Code.region 21 (Func.opsAt Tryz.f18 21).toArray true).wp Tryz.prog Q { tmps := #[x0, x1, x2, x3, x4, x5, x6, .int .i64 mn, x8, .pointer (some ⟨T0, 0, none⟩), .pointer (some ⟨Dl, 0, none⟩), .pointer (some ⟨Ix, 0, none⟩), x12, x13, x14, x15, x16, x17, x18, x19, x20, x21, x22, x23, x24, x25, x26, x27, x28, x29, x30, x31, x32, x33, x34, x35, x36, x37, x38, x39, x40, x41, x42, x43, x44, x45, x46, x47, x48, x49, x50, x51, x52, x53, x54, x55, x56, x57, x58, x59, x60, x61, x62, x63, x64, x65, x66, x67, x68, x69, x70, x71, x72, x73, x74, x75, x76, x77, x78, x79, x80, x81, x82, x83, x84, x85, x86, x87, x88, x89, x90, x91, x92, x93, x94, x95, x96, x97, x98, x99, x100, x101, x102, x103, x104, x105, x106, x107, x108, x109, x110, x111, x112, x113, x114, x115, x116, x117, x118, x119, x120, x121, x122, x123, x124, x125, x126, x127, x128, x129, x130, x131, x132, x133, x134, x135, x136, x137, x138, x139, x140, x141, x142, x143, x144, x145, x146, x147, x148, x149, x150, x151, x152, x153, x154, x155, x156, x157, x158, x159, x160, x161, x162, x163, x164, x165, x166, x167, x168, x169, x170, x171, x172, x173, x174, x175, x176, x177, x178, x179, x180, x181, x182, x183, x184, x185, x186, x187, x188, x189, x190, x191, x192, x193, x194, x195, x196, x197, x198, x199, x200, x201, x202, x203, x204, x205, x206, x207, x208, x209, x210, x211, x212, x213, x214, x215, x216, x217, x218], defers := ds } w := by
 simp only [Func.opsAt, Code.opsOf, Tryz.f18, Nat.reduceBEq, Bool.false_eq_true, if_false, if_true, List.nil_append, List.append_nil]
 refine (wpIn_wide (n := 5)).1 ?_
 cases ib with
 | true =>
   refine wpIn_region_lit_late (fun W' => (W'.cell? ⟨Dl, 0, none⟩ = some (.int .i64 da) ∧ W'.cell? ⟨Dl, 1, none⟩ = some (.bool db) ∧ W'.cell? ⟨Dl, 2, none⟩ = some (.string ⟨D.toArray⟩)) ∧ W'.cell? ⟨Ix, 0, none⟩ = some (.int .i64 ia) ∧ W'.cell? ⟨Ix, 1, none⟩ = some (.bool true) ∧ W'.cell? ⟨Ix, 2, none⟩ = some (.string ⟨I.toArray⟩)) (fun _ => false) (k := 48) (listed := #[false, false, false, false, false, false, false, false, false, false, false, false, false, false, false, false, false, false, false, false, false, false, false, false, false, false, false, false, false, false, false, false, false, false, false, false, false, false, false, false, false, false, false, false, false, false, false, false]) (by kernel_rfl) (by kernel_rfl) (by kernel_rfl) ?_
   have bz := Below.drew (Below.refl w.heap.size w)
   have hS := HSF.out _ bz
   have HBZ := Lib.hid bz
   obtain ⟨wz, hwz⟩ : ∃ wz, w.drew = wz := ⟨_, rfl⟩
   rw [hwz] at hS HBZ ⊢
   clear hwz bz
   refine AnyS.yes 0 170 ?_ rfl rfl (by kernel_rfl) hQ hS (fun _ => rfl) ?_ ?_; rotate_left; intro w' hw'; go_simp; with_reducible rfl; simp only [zP,zS,zC,zZ]
   refine AnyS.yes 1 171 ?_ rfl rfl (by kernel_rfl) hQ hS (fun _ => rfl) ?_ ?_; rotate_left; intro w' hw'; go_simp; with_reducible rfl; simp only [zP,zS,zC,zZ]
   refine AnyS.yes 2 172 ?_ rfl rfl (by kernel_rfl) hQ hS (fun _ => rfl) ?_ ?_; rotate_left; intro w' hw'; go_simp; with_reducible rfl; simp only [zP,zS,zC,zZ]
   refine AnyS.yes 3 173 ?_ rfl rfl (by kernel_rfl) hQ hS (fun _ => rfl) ?_ ?_; rotate_left; intro w' hw'; go_simp; with_reducible rfl; simp only [zP,zS,zC,zZ]
   refine AnyS.yes 4 174 ?_ rfl rfl (by kernel_rfl) hQ hS (fun _ => rfl) ?_ ?_
   rotate_left
   · intro w' hw'
     obtain ⟨⟨y0, y1, y2⟩, x0, x1, x2⟩ := hw'
     go_simp
     with_reducible rfl
   simp only [zP,zN,zS,zC,zZ]
   refine AnyS.yes 5 175 ?_ rfl rfl (by kernel_rfl) hQ hS (fun _ => rfl) ?_ ?_; rotate_left; intro w' hw'; go_simp; with_reducible rfl; simp only [zP,zS,zC,zZ]
   refine AnyS.no 6 176 rfl rfl (by kernel_rfl) hQ hS (fun _ => rfl) ?_; simp only [zP,zS,zC,zZ]
   refine AnyS.no 7 177 rfl rfl (by kernel_rfl) hQ hS (fun _ => rfl) ?_; simp only [zP,zS,zC,zZ]
   refine AnyS.no 8 178 rfl rfl (by kernel_rfl) hQ hS (fun _ => rfl) ?_; simp only [zP,zS,zC,zZ]
   refine AnyS.no 9 179 rfl rfl (by kernel_rfl) hQ hS (fun _ => rfl) ?_; simp only [zP,zS,zC,zZ]
   refine AnyS.no 10 180 rfl rfl (by kernel_rfl) hQ hS (fun _ => rfl) ?_; simp only [zP,zS,zC,zZ]
   refine AnyS.yes 11 181 ?_ rfl rfl (by kernel_rfl) hQ hS (fun _ => rfl) ?_ ?_; rotate_left; intro w' hw'; go_simp; with_reducible rfl; simp only [zP,zS,zC,zZ]
   refine AnyS.yes 12 182 ?_ rfl rfl (by kernel_rfl) hQ hS (fun _ => rfl) ?_ ?_; rotate_left; intro w' hw'; go_simp; with_reducible rfl; simp only [zP,zS,zC,zZ]
   refine AnyS.no 13 183 rfl rfl (by kernel_rfl) hQ hS (fun _ => rfl) ?_; simp only [zP,zS,zC,zZ]
   refine AnyS.no 14 184 rfl rfl (by kernel_rfl) hQ hS (fun _ => rfl) ?_; simp only [zP,zS,zC,zZ]
   refine AnyS.no 15 185 rfl rfl (by kernel_rfl) hQ hS (fun _ => rfl) ?_; simp only [zP,zS,zC,zZ]
   refine AnyS.no 16 186 rfl rfl (by kernel_rfl) hQ hS (fun _ => rfl) ?_; simp only [zP,zS,zC,zZ]
   refine AnyS.no 17 187 rfl rfl (by kernel_rfl) hQ hS (fun _ => rfl) ?_; simp only [zP,zS,zC,zZ]
   refine AnyS.no 18 188 rfl rfl (by kernel_rfl) hQ hS (fun _ => rfl) ?_; simp only [zP,zS,zC,zZ]
   refine AnyS.no 19 189 rfl rfl (by kernel_rfl) hQ hS (fun _ => rfl) ?_; simp only [zP,zS,zC,zZ]
   refine AnyS.no 20 190 rfl rfl (by kernel_rfl) hQ hS (fun _ => rfl) ?_; simp only [zP,zS,zC,zZ]
   refine AnyS.no 21 191 rfl rfl (by kernel_rfl) hQ hS (fun _ => rfl) ?_; simp only [zP,zS,zC,zZ]
   refine AnyS.no 22 192 rfl rfl (by kernel_rfl) hQ hS (fun _ => rfl) ?_; simp only [zP,zS,zC,zZ]
   refine AnyS.no 23 193 rfl rfl (by kernel_rfl) hQ hS (fun _ => rfl) ?_; simp only [zP,zS,zC,zZ]
   refine AnyS.yes 24 194 ?_ rfl rfl (by kernel_rfl) hQ hS (fun _ => rfl) ?_ ?_; rotate_left; intro w' hw'; go_simp; with_reducible rfl; simp only [zP,zS,zC,zZ]
   refine AnyS.yes 25 195 ?_ rfl rfl (by kernel_rfl) hQ hS (fun _ => rfl) ?_ ?_; rotate_left; intro w' hw'; go_simp; with_reducible rfl; simp only [zP,zS,zC,zZ]
   refine AnyS.no 26 196 rfl rfl (by kernel_rfl) hQ hS (fun _ => rfl) ?_; simp only [zP,zS,zC,zZ]
   refine AnyS.no 27 197 rfl rfl (by kernel_rfl) hQ hS (fun _ => rfl) ?_; simp only [zP,zS,zC,zZ]
   refine AnyS.no 28 198 rfl rfl (by kernel_rfl) hQ hS (fun _ => rfl) ?_; simp only [zP,zS,zC,zZ]
   refine AnyS.no 29 199 rfl rfl (by kernel_rfl) hQ hS (fun _ => rfl) ?_; simp only [zP,zS,zC,zZ]
   refine AnyS.no 30 200 rfl rfl (by kernel_rfl) hQ hS (fun _ => rfl) ?_; simp only [zP,zS,zC,zZ]
   refine AnyS.no 31 201 rfl rfl (by kernel_rfl) hQ hS (fun _ => rfl) ?_; simp only [zP,zS,zC,zZ]
   refine AnyS.no 32 202 rfl rfl (by kernel_rfl) hQ hS (fun _ => rfl) ?_; simp only [zP,zS,zC,zZ]
   refine AnyS.no 33 203 rfl rfl (by kernel_rfl) hQ hS (fun _ => rfl) ?_; simp only [zP,zS,zC,zZ]
   refine AnyS.no 34 204 rfl rfl (by kernel_rfl) hQ hS (fun _ => rfl) ?_; simp only [zP,zS,zC,zZ]
   refine AnyS.no 35 205 rfl rfl (by kernel_rfl) hQ hS (fun _ => rfl) ?_; simp only [zP,zS,zC,zZ]
   refine AnyS.no 36 206 rfl rfl (by kernel_rfl) hQ hS (fun _ => rfl) ?_; simp only [zP,zS,zC,zZ]
   refine AnyS.yes 37 207 ?_ rfl rfl (by kernel_rfl) hQ hS (fun _ => rfl) ?_ ?_; rotate_left; intro w' hw'; go_simp; with_reducible rfl; simp only [zP,zS,zC,zZ]
   refine AnyS.yes 38 208 ?_ rfl rfl (by kernel_rfl) hQ hS (fun _ => rfl) ?_ ?_; rotate_left; intro w' hw'; go_simp; with_reducible rfl; simp only [zP,zS,zC,zZ]
   refine AnyS.no 39 209 rfl rfl (by kernel_rfl) hQ hS (fun _ => rfl) ?_; simp only [zP,zS,zC,zZ]
   refine AnyS.no 41 211 rfl rfl (by kernel_rfl) hQ hS (fun _ => rfl) ?_; simp only [zP,zS,zC,zZ]
   refine AnyS.next (i := 40) rfl (by kernel_rfl) (by kernel_rfl) fun K' hK' => ?_
   refine want_no (Bool.eq_false_iff.1 (by kernel_rfl)) ⟨fun _ _ => trivial, ?_⟩
   go_simp
   refine hK' _ _ (fun _ => hS) ?_
   clear hK' K'
   try simp only [zP,zN,zS,zC,zZ]
   refine AnyS.no 42 212 rfl rfl (by kernel_rfl) hQ hS (fun _ => rfl) ?_; simp only [zP,zS,zC,zZ]
   refine AnyS.yes 43 213 ?_ rfl rfl (by kernel_rfl) hQ hS (fun _ => rfl) ?_ ?_; rotate_left; intro w' hw'; go_simp; with_reducible rfl; simp only [zP,zS,zC,zZ]
   refine AnyS.yes 44 214 ?_ rfl rfl (by kernel_rfl) hQ hS (fun _ => rfl) ?_ ?_; rotate_left; intro w' hw'; go_simp; with_reducible rfl; simp only [zP,zS,zC,zZ]
   refine AnyS.no 45 215 rfl rfl (by kernel_rfl) hQ hS (fun _ => rfl) ?_; simp only [zP,zS,zC,zZ]
   refine AnyS.no 46 216 rfl rfl (by kernel_rfl) hQ hS (fun _ => rfl) ?_; simp only [zP,zS,zC,zZ]
   refine AnyS.yes 47 217 ?_ rfl rfl (by kernel_rfl) hQ hS (fun _ => rfl) ?_ ?_; rotate_left; intro w' hw'; go_simp; with_reducible rfl; simp only [zP,zS,zC,zZ]
   refine AnyS.done (by kernel_rfl) ?_ _
   clear hS
   have e : (!fb) = true := by rw [← hfb]; simp
   rw [e] at HK
   exact HK.out _ _ _ _ _ _ _ _ _ _ _ _ _ _ _ _ _ _ _ _ _ _ _ _ _ _ _ _ _ _ _ _ _ _ _ _ _ _ _ _ _ _ _ _ _ _ _ _ HBZ.out
 | false =>
   cases db with
   | true =>
     refine wpIn_region_lit_late (fun W' => (W'.cell? ⟨Dl, 0, none⟩ = some (.int .i64 da) ∧ W'.cell? ⟨Dl, 1, none⟩ = some (.bool true) ∧ W'.cell? ⟨Dl, 2, none⟩ = some (.string ⟨D.toArray⟩)) ∧ W'.cell? ⟨Ix, 0, none⟩ = some (.int .i64 ia) ∧ W'.cell? ⟨Ix, 1, none⟩ = some (.bool false) ∧ W'.cell? ⟨Ix, 2, none⟩ = some (.string ⟨I.toArray⟩)) (fun _ => false) (k := 48) (listed := #[false, false, false, false, false, false, false, false, false, false, false, false, false, false, false, false, false, false, false, false, false, false, false, false, false, false, false, false, false, false, false, false, false, false, false, false, false, false, false, false, false, false, false, false, false, false, false, false]) (by kernel_rfl) (by kernel_rfl) (by kernel_rfl) ?_
     have bz := Below.drew (Below.refl w.heap.size w)
     have hS := HSF.out _ bz
     have HBZ := Lib.hid bz
     obtain ⟨wz, hwz⟩ : ∃ wz, w.drew = wz := ⟨_, rfl⟩
     rw [hwz] at hS HBZ ⊢
     clear hwz bz
     refine AnyS.yes 0 170 ?_ rfl rfl (by kernel_rfl) hQ hS (fun _ => rfl) ?_ ?_; rotate_left; intro w' hw'; go_simp; with_reducible rfl; simp only [zP,zS,zC,zZ]
     refine AnyS.yes 1 171 ?_ rfl rfl (by kernel_rfl) hQ hS (fun _ => rfl) ?_ ?_; rotate_left; intro w' hw'; go_simp; with_reducible rfl; simp only [zP,zS,zC,zZ]
     refine AnyS.yes 2 172 ?_ rfl rfl (by kernel_rfl) hQ hS (fun _ => rfl) ?_ ?_; rotate_left; intro w' hw'; go_simp; with_reducible rfl; simp only [zP,zS,zC,zZ]
     refine AnyS.yes 3 173 ?_ rfl rfl (by kernel_rfl) hQ hS (fun _ => rfl) ?_ ?_; rotate_left; intro w' hw'; go_simp; with_reducible rfl; simp only [zP,zS,zC,zZ]
     refine AnyS.yes 4 174 ?_ rfl rfl (by kernel_rfl) hQ hS (fun _ => rfl) ?_ ?_
     rotate_left
     · intro w' hw'
       obtain ⟨⟨y0, y1, y2⟩, x0, x1, x2⟩ := hw'
       go_simp
       with_reducible rfl
     simp only [zP,zN,zS,zC,zZ]
     refine AnyS.yes 5 175 ?_ rfl rfl (by kernel_rfl) hQ hS (fun _ => rfl) ?_ ?_; rotate_left; intro w' hw'; go_simp; with_reducible rfl; simp only [zP,zS,zC,zZ]
     refine AnyS.yes 6 176 ?_ rfl rfl (by kernel_rfl) hQ hS (fun _ => rfl) ?_ ?_; rotate_left; intro w' hw'; go_simp; with_reducible rfl; simp only [zP,zS,zC,zZ]
     refine AnyS.yes 7 177 ?_ rfl rfl (by kernel_rfl) hQ hS (fun _ => rfl) ?_ ?_; rotate_left; intro w' hw'; go_simp; with_reducible rfl; simp only [zP,zS,zC,zZ]
     refine AnyS.yes 8 178 ?_ rfl rfl (by kernel_rfl) hQ hS (fun _ => rfl) ?_ ?_; rotate_left; intro w' hw'; go_simp; with_reducible rfl; simp only [zP,zS,zC,zZ]
     refine AnyS.yes 9 179 ?_ rfl rfl (by kernel_rfl) hQ hS (fun _ => rfl) ?_ ?_; rotate_left; intro w' hw'; go_simp; with_reducible rfl; simp only [zP,zS,zC,zZ]
     refine AnyS.yes 10 180 ?_ rfl rfl (by kernel_rfl) hQ hS (fun _ => rfl) ?_ ?_
     rotate_left
     · intro w' hw'
       obtain ⟨⟨y0, y1, y2⟩, x0, x1, x2⟩ := hw'
       go_simp
       with_reducible rfl
     simp only [zP,zN,zS,zC,zZ]
     refine AnyS.yes 11 181 ?_ rfl rfl (by kernel_rfl) hQ hS (fun _ => rfl) ?_ ?_; rotate_left; intro w' hw'; go_simp; with_reducible rfl; simp only [zP,zS,zC,zZ]
     refine AnyS.yes 12 182 ?_ rfl rfl (by kernel_rfl) hQ hS (fun _ => rfl) ?_ ?_; rotate_left; intro w' hw'; go_simp; with_reducible rfl; simp only [zP,zS,zC,zZ]
     refine AnyS.no 13 183 rfl rfl (by kernel_rfl) hQ hS (fun _ => rfl) ?_; simp only [zP,zS,zC,zZ]
     refine AnyS.no 14 184 rfl rfl (by kernel_rfl) hQ hS (fun _ => rfl) ?_; simp only [zP,zS,zC,zZ]
     refine AnyS.no 15 185 rfl rfl (by kernel_rfl) hQ hS (fun _ => rfl) ?_; simp only [zP,zS,zC,zZ]
     refine AnyS.no 16 186 rfl rfl (by kernel_rfl) hQ hS (fun _ => rfl) ?_; simp only [zP,zS,zC,zZ]
     refine AnyS.no 17 187 rfl rfl (by kernel_rfl) hQ hS (fun _ => rfl) ?_; simp only [zP,zS,zC,zZ]
     refine AnyS.no 18 188 rfl rfl (by kernel_rfl) hQ hS (fun _ => rfl) ?_; simp only [zP,zS,zC,zZ]
     refine AnyS.no 19 189 rfl rfl (by kernel_rfl) hQ hS (fun _ => rfl) ?_; simp only [zP,zS,zC,zZ]
     refine AnyS.no 20 190 rfl rfl (by kernel_rfl) hQ hS (fun _ => rfl) ?_; simp only [zP,zS,zC,zZ]
     refine AnyS.no 21 191 rfl rfl (by kernel_rfl) hQ hS (fun _ => rfl) ?_; simp only [zP,zS,zC,zZ]
     refine AnyS.no 22 192 rfl rfl (by kernel_rfl) hQ hS (fun _ => rfl) ?_; simp only [zP,zS,zC,zZ]
     refine AnyS.no 23 193 rfl rfl (by kernel_rfl) hQ hS (fun _ => rfl) ?_; simp only [zP,zS,zC,zZ]
     refine AnyS.yes 24 194 ?_ rfl rfl (by kernel_rfl) hQ hS (fun _ => rfl) ?_ ?_; rotate_left; intro w' hw'; go_simp; with_reducible rfl; simp only [zP,zS,zC,zZ]
     refine AnyS.yes 25 195 ?_ rfl rfl (by kernel_rfl) hQ hS (fun _ => rfl) ?_ ?_; rotate_left; intro w' hw'; go_simp; with_reducible rfl; simp only [zP,zS,zC,zZ]
     refine AnyS.no 26 196 rfl rfl (by kernel_rfl) hQ hS (fun _ => rfl) ?_; simp only [zP,zS,zC,zZ]
     refine AnyS.no 27 197 rfl rfl (by kernel_rfl) hQ hS (fun _ => rfl) ?_; simp only [zP,zS,zC,zZ]
     refine AnyS.no 28 198 rfl rfl (by kernel_rfl) hQ hS (fun _ => rfl) ?_; simp only [zP,zS,zC,zZ]
     refine AnyS.no 29 199 rfl rfl (by kernel_rfl) hQ hS (fun _ => rfl) ?_; simp only [zP,zS,zC,zZ]
     refine AnyS.no 30 200 rfl rfl (by kernel_rfl) hQ hS (fun _ => rfl) ?_; simp only [zP,zS,zC,zZ]
     refine AnyS.no 31 201 rfl rfl (by kernel_rfl) hQ hS (fun _ => rfl) ?_; simp only [zP,zS,zC,zZ]
     refine AnyS.no 32 202 rfl rfl (by kernel_rfl) hQ hS (fun _ => rfl) ?_; simp only [zP,zS,zC,zZ]
     refine AnyS.no 33 203 rfl rfl (by kernel_rfl) hQ hS (fun _ => rfl) ?_; simp only [zP,zS,zC,zZ]
     refine AnyS.no 34 204 rfl rfl (by kernel_rfl) hQ hS (fun _ => rfl) ?_; simp only [zP,zS,zC,zZ]
     refine AnyS.no 35 205 rfl rfl (by kernel_rfl) hQ hS (fun _ => rfl) ?_; simp only [zP,zS,zC,zZ]
     refine AnyS.no 36 206 rfl rfl (by kernel_rfl) hQ hS (fun _ => rfl) ?_; simp only [zP,zS,zC,zZ]
     refine AnyS.yes 37 207 ?_ rfl rfl (by kernel_rfl) hQ hS (fun _ => rfl) ?_ ?_; rotate_left; intro w' hw'; go_simp; with_reducible rfl; simp only [zP,zS,zC,zZ]
     refine AnyS.yes 38 208 ?_ rfl rfl (by kernel_rfl) hQ hS (fun _ => rfl) ?_ ?_; rotate_left; intro w' hw'; go_simp; with_reducible rfl; simp only [zP,zS,zC,zZ]
     refine AnyS.no 39 209 rfl rfl (by kernel_rfl) hQ hS (fun _ => rfl) ?_; simp only [zP,zS,zC,zZ]
     refine AnyS.no 41 211 rfl rfl (by kernel_rfl) hQ hS (fun _ => rfl) ?_; simp only [zP,zS,zC,zZ]
     refine AnyS.next (i := 40) rfl (by kernel_rfl) (by kernel_rfl) fun K' hK' => ?_
     refine want_no (Bool.eq_false_iff.1 (by kernel_rfl)) ⟨fun _ _ => trivial, ?_⟩
     go_simp
     refine hK' _ _ (fun _ => hS) ?_
     clear hK' K'
     try simp only [zP,zN,zS,zC,zZ]
     refine AnyS.no 42 212 rfl rfl (by kernel_rfl) hQ hS (fun _ => rfl) ?_; simp only [zP,zS,zC,zZ]
     refine AnyS.yes 43 213 ?_ rfl rfl (by kernel_rfl) hQ hS (fun _ => rfl) ?_ ?_; rotate_left; intro w' hw'; go_simp; with_reducible rfl; simp only [zP,zS,zC,zZ]
     refine AnyS.yes 44 214 ?_ rfl rfl (by kernel_rfl) hQ hS (fun _ => rfl) ?_ ?_; rotate_left; intro w' hw'; go_simp; with_reducible rfl; simp only [zP,zS,zC,zZ]
     refine AnyS.no 45 215 rfl rfl (by kernel_rfl) hQ hS (fun _ => rfl) ?_; simp only [zP,zS,zC,zZ]
     refine AnyS.no 46 216 rfl rfl (by kernel_rfl) hQ hS (fun _ => rfl) ?_; simp only [zP,zS,zC,zZ]
     refine AnyS.yes 47 217 ?_ rfl rfl (by kernel_rfl) hQ hS (fun _ => rfl) ?_ ?_; rotate_left; intro w' hw'; go_simp; with_reducible rfl; simp only [zP,zS,zC,zZ]
     refine AnyS.done (by kernel_rfl) ?_ _
     clear hS
     have e : (!fb) = true := by rw [← hfb]; simp
     rw [e] at HK
     exact HK.out _ _ _ _ _ _ _ _ _ _ _ _ _ _ _ _ _ _ _ _ _ _ _ _ _ _ _ _ _ _ _ _ _ _ _ _ _ _ _ _ _ _ _ _ _ _ _ _ HBZ.out
   | false =>
     by_cases c2 : ia < NI
     · have c2' : (ia : Int) < (NI : Int) := by omega
       refine wpIn_region_lit_late (fun W' => (W'.cell? ⟨Dl, 0, none⟩ = some (.int .i64 da) ∧ W'.cell? ⟨Dl, 1, none⟩ = some (.bool false) ∧ W'.cell? ⟨Dl, 2, none⟩ = some (.string ⟨D.toArray⟩)) ∧ W'.cell? ⟨Ix, 0, none⟩ = some (.int .i64 ia) ∧ W'.cell? ⟨Ix, 1, none⟩ = some (.bool false) ∧ W'.cell? ⟨Ix, 2, none⟩ = some (.string ⟨I.toArray⟩)) (fun _ => false) (k := 48) (listed := #[false, false, false, false, false, false, false, false, false, false, false, false, false, false, false, false, false, false, false, false, false, false, false, false, false, false, false, false, false, false, false, false, false, false, false, false, false, false, false, false, false, false, false, false, false, false, false, false]) (by kernel_rfl) (by kernel_rfl) (by kernel_rfl) ?_
       have bz := Below.drew (Below.refl w.heap.size w)
       have hS := HSF.out _ bz
       have HBZ := Lib.hid bz
       obtain ⟨wz, hwz⟩ : ∃ wz, w.drew = wz := ⟨_, rfl⟩
       rw [hwz] at hS HBZ ⊢
       clear hwz bz
       refine AnyS.yes 0 170 ?_ rfl rfl (by kernel_rfl) hQ hS (fun _ => rfl) ?_ ?_; rotate_left; intro w' hw'; go_simp; with_reducible rfl; simp only [zP,zS,zC,zZ]
       refine AnyS.yes 1 171 ?_ rfl rfl (by kernel_rfl) hQ hS (fun _ => rfl) ?_ ?_; rotate_left; intro w' hw'; go_simp; with_reducible rfl; simp only [zP,zS,zC,zZ]
       refine AnyS.yes 2 172 ?_ rfl rfl (by kernel_rfl) hQ hS (fun _ => rfl) ?_ ?_; rotate_left; intro w' hw'; go_simp; with_reducible rfl; simp only [zP,zS,zC,zZ]
       refine AnyS.yes 3 173 ?_ rfl rfl (by kernel_rfl) hQ hS (fun _ => rfl) ?_ ?_; rotate_left; intro w' hw'; go_simp; with_reducible rfl; simp only [zP,zS,zC,zZ]
       refine AnyS.yes 4 174 ?_ rfl rfl (by kernel_rfl) hQ hS (fun _ => rfl) ?_ ?_
       rotate_left
       · intro w' hw'
         obtain ⟨⟨y0, y1, y2⟩, x0, x1, x2⟩ := hw'
         go_simp
         with_reducible rfl
       simp only [zP,zN,zS,zC,zZ]
       refine AnyS.yes 5 175 ?_ rfl rfl (by kernel_rfl) hQ hS (fun _ => rfl) ?_ ?_; rotate_left; intro w' hw'; go_simp; with_reducible rfl; simp only [zP,zS,zC,zZ]
       refine AnyS.yes 6 176 ?_ rfl rfl (by kernel_rfl) hQ hS (fun _ => rfl) ?_ ?_; rotate_left; intro w' hw'; go_simp; with_reducible rfl; simp only [zP,zS,zC,zZ]
       refine AnyS.yes 7 177 ?_ rfl rfl (by kernel_rfl) hQ hS (fun _ => rfl) ?_ ?_; rotate_left; intro w' hw'; go_simp; with_reducible rfl; simp only [zP,zS,zC,zZ]
       refine AnyS.yes 8 178 ?_ rfl rfl (by kernel_rfl) hQ hS (fun _ => rfl) ?_ ?_; rotate_left; intro w' hw'; go_simp; with_reducible rfl; simp only [zP,zS,zC,zZ]
       refine AnyS.yes 9 179 ?_ rfl rfl (by kernel_rfl) hQ hS (fun _ => rfl) ?_ ?_; rotate_left; intro w' hw'; go_simp; with_reducible rfl; simp only [zP,zS,zC,zZ]
       refine AnyS.yes 10 180 ?_ rfl rfl (by kernel_rfl) hQ hS (fun _ => rfl) ?_ ?_
       rotate_left
       · intro w' hw'
         obtain ⟨⟨y0, y1, y2⟩, x0, x1, x2⟩ := hw'
         go_simp
         with_reducible rfl
       simp only [zP,zN,zS,zC,zZ]
       refine AnyS.yes 11 181 ?_ rfl rfl (by kernel_rfl) hQ hS (fun _ => rfl) ?_ ?_; rotate_left; intro w' hw'; go_simp; with_reducible rfl; simp only [zP,zS,zC,zZ]
       refine AnyS.yes 12 182 ?_ rfl rfl (by kernel_rfl) hQ hS (fun _ => rfl) ?_ ?_; rotate_left; intro w' hw'; go_simp; with_reducible rfl; simp only [zP,zS,zC,zZ]
       refine AnyS.yes 13 183 ?_ rfl rfl (by kernel_rfl) hQ hS (fun _ => rfl) ?_ ?_; rotate_left; intro w' hw'; go_simp; with_reducible rfl; simp only [zP,zS,zC,zZ]
       refine AnyS.yes 14 184 ?_ rfl rfl (by kernel_rfl) hQ hS (fun _ => rfl) ?_ ?_; rotate_left; intro w' hw'; go_simp; with_reducible rfl; simp only [zP,zS,zC,zZ]
       refine AnyS.yes 15 185 ?_ rfl rfl (by kernel_rfl) hQ hS (fun _ => rfl) ?_ ?_; rotate_left; intro w' hw'; go_simp; with_reducible rfl; simp only [zP,zS,zC,zZ]
       refine AnyS.yes 16 186 ?_ rfl rfl (by kernel_rfl) hQ hS (fun _ => rfl) ?_ ?_; rotate_left; intro w' hw'; go_simp; with_reducible rfl; simp only [zP,zS,zC,zZ]
       refine AnyS.yes 17 187 ?_ rfl rfl (by kernel_rfl) hQ hS (fun _ => rfl) ?_ ?_
       rotate_left
       · intro w' hw'
         obtain ⟨⟨y0, y1, y2⟩, x0, x1, x2⟩ := hw'
         go_simp
         with_reducible rfl
       simp only [zP,zN,zS,zC,zZ]
       refine AnyS.yes 18 188 ?_ rfl rfl (by kernel_rfl) hQ hS (fun _ => rfl) ?_ ?_; rotate_left; intro w' hw'; go_simp; with_reducible rfl; simp only [zP,zS,zC,zZ]
       refine AnyS.yes 19 189 ?_ rfl rfl (by kernel_rfl) hQ hS (fun _ => rfl) ?_ ?_; rotate_left; intro w' hw'; go_simp; with_reducible rfl; simp only [zP,zS,zC,zZ]
       refine AnyS.yes 20 190 ?_ rfl rfl (by kernel_rfl) hQ hS (fun _ => rfl) ?_ ?_; rotate_left; intro w' hw'; go_simp; with_reducible rfl; simp only [zP,zS,zC,zZ]
       refine AnyS.yes 21 191 ?_ rfl rfl (by kernel_rfl) hQ hS (fun _ => rfl) ?_ ?_
       rotate_left
       · intro w' hw'
         obtain ⟨⟨y0, y1, y2⟩, x0, x1, x2⟩ := hw'
         go_simp
         with_reducible rfl
       simp only [zP,zN,zS,zC,zZ]
       refine AnyS.yes 22 192 ?_ rfl rfl (by kernel_rfl) hQ hS (fun _ => rfl) ?_ ?_; rotate_left; intro w' hw'; go_simp; with_reducible rfl; simp only [zP,zS,zC,zZ]
       refine AnyS.yes 23 193 ?_ rfl rfl (by kernel_rfl) hQ hS (fun _ => rfl) ?_ ?_; rotate_left; intro w' hw'; go_simp; with_reducible rfl; simp only [zP,zS,zC,zZ]
       refine AnyS.yes 24 194 ?_ rfl rfl (by kernel_rfl) hQ hS (fun _ => rfl) ?_ ?_; rotate_left; intro w' hw'; go_simp; with_reducible rfl; simp only [zP,zS,zC,zZ]
       refine AnyS.yes 25 195 ?_ rfl rfl (by kernel_rfl) hQ hS (fun _ => rfl) ?_ ?_; rotate_left; intro w' hw'; go_simp; with_reducible rfl; simp only [zP,zS,zC,zZ]
       refine AnyS.no 26 196 rfl rfl (by kernel_rfl) hQ hS (fun _ => rfl) ?_; simp only [zP,zS,zC,zZ]
       refine AnyS.no 27 197 rfl rfl (by kernel_rfl) hQ hS (fun _ => rfl) ?_; simp only [zP,zS,zC,zZ]
       refine AnyS.no 28 198 rfl rfl (by kernel_rfl) hQ hS (fun _ => rfl) ?_; simp only [zP,zS,zC,zZ]
       refine AnyS.no 29 199 rfl rfl (by kernel_rfl) hQ hS (fun _ => rfl) ?_; simp only [zP,zS,zC,zZ]
       refine AnyS.no 30 200 rfl rfl (by kernel_rfl) hQ hS (fun _ => rfl) ?_; simp only [zP,zS,zC,zZ]
       refine AnyS.no 31 201 rfl rfl (by kernel_rfl) hQ hS (fun _ => rfl) ?_; simp only [zP,zS,zC,zZ]
       refine AnyS.no 32 202 rfl rfl (by kernel_rfl) hQ hS (fun _ => rfl) ?_; simp only [zP,zS,zC,zZ]
       refine AnyS.no 33 203 rfl rfl (by kernel_rfl) hQ hS (fun _ => rfl) ?_; simp only [zP,zS,zC,zZ]
       refine AnyS.no 34 204 rfl rfl (by kernel_rfl) hQ hS (fun _ => rfl) ?_; simp only [zP,zS,zC,zZ]
       refine AnyS.no 35 205 rfl rfl (by kernel_rfl) hQ hS (fun _ => rfl) ?_; simp only [zP,zS,zC,zZ]
       refine AnyS.no 36 206 rfl rfl (by kernel_rfl) hQ hS (fun _ => rfl) ?_; simp only [zP,zS,zC,zZ]
       refine AnyS.yes 37 207 ?_ rfl rfl (by kernel_rfl) hQ hS (fun _ => rfl) ?_ ?_; rotate_left; intro w' hw'; go_simp; with_reducible rfl; simp only [zP,zS,zC,zZ]
       refine AnyS.yes 38 208 ?_ rfl rfl (by kernel_rfl) hQ hS (fun _ => rfl) ?_ ?_; rotate_left; intro w' hw'; go_simp; with_reducible rfl; simp only [zP,zS,zC,zZ]
       refine AnyS.no 39 209 rfl rfl (by kernel_rfl) hQ hS (fun _ => rfl) ?_; simp only [zP,zS,zC,zZ]
       refine AnyS.no 41 211 rfl rfl (by kernel_rfl) hQ hS (fun _ => rfl) ?_; simp only [zP,zS,zC,zZ]
       refine AnyS.next (i := 40) rfl (by kernel_rfl) (by kernel_rfl) fun K' hK' => ?_
       refine want_no (Bool.eq_false_iff.1 (by kernel_rfl)) ⟨fun _ _ => trivial, ?_⟩
       go_simp
       refine hK' _ _ (fun _ => hS) ?_
       clear hK' K'
       try simp only [zP,zN,zS,zC,zZ]
       refine AnyS.no 42 212 rfl rfl (by kernel_rfl) hQ hS (fun _ => rfl) ?_; simp only [zP,zS,zC,zZ]
       refine AnyS.yes 43 213 ?_ rfl rfl (by kernel_rfl) hQ hS (fun _ => rfl) ?_ ?_; rotate_left; intro w' hw'; go_simp; with_reducible rfl; simp only [zP,zS,zC,zZ]
       refine AnyS.yes 44 214 ?_ rfl rfl (by kernel_rfl) hQ hS (fun _ => rfl) ?_ ?_; rotate_left; intro w' hw'; go_simp; with_reducible rfl; simp only [zP,zS,zC,zZ]
       refine AnyS.no 45 215 rfl rfl (by kernel_rfl) hQ hS (fun _ => rfl) ?_; simp only [zP,zS,zC,zZ]
       refine AnyS.no 46 216 rfl rfl (by kernel_rfl) hQ hS (fun _ => rfl) ?_; simp only [zP,zS,zC,zZ]
       refine AnyS.yes 47 217 ?_ rfl rfl (by kernel_rfl) hQ hS (fun _ => rfl) ?_ ?_; rotate_left; intro w' hw'; go_simp; with_reducible rfl; simp only [zP,zS,zC,zZ]
       refine AnyS.done (by kernel_rfl) ?_ _
       clear hS
       have e : (!fb) = true := by rw [← hfb]; simp [c2]
       rw [e] at HK
       exact HK.out _ _ _ _ _ _ _ _ _ _ _ _ _ _ _ _ _ _ _ _ _ _ _ _ _ _ _ _ _ _ _ _ _ _ _ _ _ _ _ _ _ _ _ _ _ _ _ _ HBZ.out
     · have c2' : ¬ (ia : Int) < (NI : Int) := by omega
       by_cases c3 : da < ND
       · have c3' : (da : Int) < (ND : Int) := by omega
         refine wpIn_region_lit_late (fun W' => (W'.cell? ⟨Dl, 0, none⟩ = some (.int .i64 da) ∧ W'.cell? ⟨Dl, 1, none⟩ = some (.bool false) ∧ W'.cell? ⟨Dl, 2, none⟩ = some (.string ⟨D.toArray⟩)) ∧ W'.cell? ⟨Ix, 0, none⟩ = some (.int .i64 ia) ∧ W'.cell? ⟨Ix, 1, none⟩ = some (.bool false) ∧ W'.cell? ⟨Ix, 2, none⟩ = some (.string ⟨I.toArray⟩)) (fun _ => false) (k := 48) (listed := #[false, false, false, false, false, false, false, false, false, false, false, false, false, false, false, false, false, false, false, false, false, false, false, false, false, false, false, false, false, false, false, false, false, false, false, false, false, false, false, false, false, false, false, false, false, false, false, false]) (by kernel_rfl) (by kernel_rfl) (by kernel_rfl) ?_
         have bz := Below.drew (Below.refl w.heap.size w)
         have hS := HSF.out _ bz
         have HBZ := Lib.hid bz
         obtain ⟨wz, hwz⟩ : ∃ wz, w.drew = wz := ⟨_, rfl⟩
         rw [hwz] at hS HBZ ⊢
         clear hwz bz
         refine AnyS.yes 0 170 ?_ rfl rfl (by kernel_rfl) hQ hS (fun _ => rfl) ?_ ?_; rotate_left; intro w' hw'; go_simp; with_reducible rfl; simp only [zP,zS,zC,zZ]
         refine AnyS.yes 1 171 ?_ rfl rfl (by kernel_rfl) hQ hS (fun _ => rfl) ?_ ?_; rotate_left; intro w' hw'; go_simp; with_reducible rfl; simp only [zP,zS,zC,zZ]
         refine AnyS.yes 2 172 ?_ rfl rfl (by kernel_rfl) hQ hS (fun _ => rfl) ?_ ?_; rotate_left; intro w' hw'; go_simp; with_reducible rfl; simp only [zP,zS,zC,zZ]
         refine AnyS.yes 3 173 ?_ rfl rfl (by kernel_rfl) hQ hS (fun _ => rfl) ?_ ?_; rotate_left; intro w' hw'; go_simp; with_reducible rfl; simp only [zP,zS,zC,zZ]
         refine AnyS.yes 4 174 ?_ rfl rfl (by kernel_rfl) hQ hS (fun _ => rfl) ?_ ?_
         rotate_left
         · intro w' hw'
           obtain ⟨⟨y0, y1, y2⟩, x0, x1, x2⟩ := hw'
           go_simp
           with_reducible rfl
         simp only [zP,zN,zS,zC,zZ]
         refine AnyS.yes 5 175 ?_ rfl rfl (by kernel_rfl) hQ hS (fun _ => rfl) ?_ ?_; rotate_left; intro w' hw'; go_simp; with_reducible rfl; simp only [zP,zS,zC,zZ]
         refine AnyS.yes 6 176 ?_ rfl rfl (by kernel_rfl) hQ hS (fun _ => rfl) ?_ ?_; rotate_left; intro w' hw'; go_simp; with_reducible rfl; simp only [zP,zS,zC,zZ]
         refine AnyS.yes 7 177 ?_ rfl rfl (by kernel_rfl) hQ hS (fun _ => rfl) ?_ ?_; rotate_left; intro w' hw'; go_simp; with_reducible rfl; simp only [zP,zS,zC,zZ]
         refine AnyS.yes 8 178 ?_ rfl rfl (by kernel_rfl) hQ hS (fun _ => rfl) ?_ ?_; rotate_left; intro w' hw'; go_simp; with_reducible rfl; simp only [zP,zS,zC,zZ]
         refine AnyS.yes 9 179 ?_ rfl rfl (by kernel_rfl) hQ hS (fun _ => rfl) ?_ ?_; rotate_left; intro w' hw'; go_simp; with_reducible rfl; simp only [zP,zS,zC,zZ]
         refine AnyS.yes 10 180 ?_ rfl rfl (by kernel_rfl) hQ hS (fun _ => rfl) ?_ ?_
         rotate_left
         · intro w' hw'
           obtain ⟨⟨y0, y1, y2⟩, x0, x1, x2⟩ := hw'
           go_simp
           with_reducible rfl
         simp only [zP,zN,zS,zC,zZ]
         refine AnyS.yes 11 181 ?_ rfl rfl (by kernel_rfl) hQ hS (fun _ => rfl) ?_ ?_; rotate_left; intro w' hw'; go_simp; with_reducible rfl; simp only [zP,zS,zC,zZ]
         refine AnyS.yes 12 182 ?_ rfl rfl (by kernel_rfl) hQ hS (fun _ => rfl) ?_ ?_; rotate_left; intro w' hw'; go_simp; with_reducible rfl; simp only [zP,zS,zC,zZ]
         refine AnyS.yes 13 183 ?_ rfl rfl (by kernel_rfl) hQ hS (fun _ => rfl) ?_ ?_; rotate_left; intro w' hw'; go_simp; with_reducible rfl; simp only [zP,zS,zC,zZ]
         refine AnyS.yes 14 184 ?_ rfl rfl (by kernel_rfl) hQ hS (fun _ => rfl) ?_ ?_; rotate_left; intro w' hw'; go_simp; with_reducible rfl; simp only [zP,zS,zC,zZ]
         refine AnyS.yes 15 185 ?_ rfl rfl (by kernel_rfl) hQ hS (fun _ => rfl) ?_ ?_; rotate_left; intro w' hw'; go_simp; with_reducible rfl; simp only [zP,zS,zC,zZ]
         refine AnyS.yes 16 186 ?_ rfl rfl (by kernel_rfl) hQ hS (fun _ => rfl) ?_ ?_; rotate_left; intro w' hw'; go_simp; with_reducible rfl; simp only [zP,zS,zC,zZ]
         refine AnyS.yes 17 187 ?_ rfl rfl (by kernel_rfl) hQ hS (fun _ => rfl) ?_ ?_
         rotate_left
         · intro w' hw'
           obtain ⟨⟨y0, y1, y2⟩, x0, x1, x2⟩ := hw'
           go_simp
           with_reducible rfl
         simp only [zP,zN,zS,zC,zZ]
         refine AnyS.yes 18 188 ?_ rfl rfl (by kernel_rfl) hQ hS (fun _ => rfl) ?_ ?_; rotate_left; intro w' hw'; go_simp; with_reducible rfl; simp only [zP,zS,zC,zZ]
         refine AnyS.yes 19 189 ?_ rfl rfl (by kernel_rfl) hQ hS (fun _ => rfl) ?_ ?_; rotate_left; intro w' hw'; go_simp; with_reducible rfl; simp only [zP,zS,zC,zZ]
         refine AnyS.yes 20 190 ?_ rfl rfl (by kernel_rfl) hQ hS (fun _ => rfl) ?_ ?_; rotate_left; intro w' hw'; go_simp; with_reducible rfl; simp only [zP,zS,zC,zZ]
         refine AnyS.yes 21 191 ?_ rfl rfl (by kernel_rfl) hQ hS (fun _ => rfl) ?_ ?_
         rotate_left
         · intro w' hw'
           obtain ⟨⟨y0, y1, y2⟩, x0, x1, x2⟩ := hw'
           go_simp
           with_reducible rfl
         simp only [zP,zN,zS,zC,zZ]
         refine AnyS.yes 22 192 ?_ rfl rfl (by kernel_rfl) hQ hS (fun _ => rfl) ?_ ?_; rotate_left; intro w' hw'; go_simp; with_reducible rfl; simp only [zP,zS,zC,zZ]
         refine AnyS.yes 23 193 ?_ rfl rfl (by kernel_rfl) hQ hS (fun _ => rfl) ?_ ?_; rotate_left; intro w' hw'; go_simp; with_reducible rfl; simp only [zP,zS,zC,zZ]
         refine AnyS.yes 24 194 ?_ rfl rfl (by kernel_rfl) hQ hS (fun _ => rfl) ?_ ?_; rotate_left; intro w' hw'; go_simp; with_reducible rfl; simp only [zP,zS,zC,zZ]
         refine AnyS.yes 25 195 ?_ rfl rfl (by kernel_rfl) hQ hS (fun _ => rfl) ?_ ?_; rotate_left; intro w' hw'; go_simp; with_reducible rfl; simp only [zP,zS,zC,zZ]
         refine AnyS.yes 26 196 ?_ rfl rfl (by kernel_rfl) hQ hS (fun _ => rfl) ?_ ?_; rotate_left; intro w' hw'; go_simp; with_reducible rfl; simp only [zP,zS,zC,zZ]
         refine AnyS.yes 27 197 ?_ rfl rfl (by kernel_rfl) hQ hS (fun _ => rfl) ?_ ?_; rotate_left; intro w' hw'; go_simp; with_reducible rfl; simp only [zP,zS,zC,zZ]
         refine AnyS.yes 28 198 ?_ rfl rfl (by kernel_rfl) hQ hS (fun _ => rfl) ?_ ?_; rotate_left; intro w' hw'; go_simp; with_reducible rfl; simp only [zP,zS,zC,zZ]
         refine AnyS.yes 29 199 ?_ rfl rfl (by kernel_rfl) hQ hS (fun _ => rfl) ?_ ?_; rotate_left; intro w' hw'; go_simp; with_reducible rfl; simp only [zP,zS,zC,zZ]
         refine AnyS.yes 30 200 ?_ rfl rfl (by kernel_rfl) hQ hS (fun _ => rfl) ?_ ?_
         rotate_left
         · intro w' hw'
           obtain ⟨⟨y0, y1, y2⟩, x0, x1, x2⟩ := hw'
           go_simp
           with_reducible rfl
         simp only [zP,zN,zS,zC,zZ]
         refine AnyS.yes 31 201 ?_ rfl rfl (by kernel_rfl) hQ hS (fun _ => rfl) ?_ ?_; rotate_left; intro w' hw'; go_simp; with_reducible rfl; simp only [zP,zS,zC,zZ]
         refine AnyS.yes 32 202 ?_ rfl rfl (by kernel_rfl) hQ hS (fun _ => rfl) ?_ ?_; rotate_left; intro w' hw'; go_simp; with_reducible rfl; simp only [zP,zS,zC,zZ]
         refine AnyS.yes 33 203 ?_ rfl rfl (by kernel_rfl) hQ hS (fun _ => rfl) ?_ ?_; rotate_left; intro w' hw'; go_simp; with_reducible rfl; simp only [zP,zS,zC,zZ]
         refine AnyS.yes 34 204 ?_ rfl rfl (by kernel_rfl) hQ hS (fun _ => rfl) ?_ ?_
         rotate_left
         · intro w' hw'
           obtain ⟨⟨y0, y1, y2⟩, x0, x1, x2⟩ := hw'
           go_simp
           with_reducible rfl
         simp only [zP,zN,zS,zC,zZ]
         refine AnyS.yes 35 205 ?_ rfl rfl (by kernel_rfl) hQ hS (fun _ => rfl) ?_ ?_; rotate_left; intro w' hw'; go_simp; with_reducible rfl; simp only [zP,zS,zC,zZ]
         refine AnyS.yes 36 206 ?_ rfl rfl (by kernel_rfl) hQ hS (fun _ => rfl) ?_ ?_; rotate_left; intro w' hw'; go_simp; with_reducible rfl; simp only [zP,zS,zC,zZ]
         refine AnyS.yes 37 207 ?_ rfl rfl (by kernel_rfl) hQ hS (fun _ => rfl) ?_ ?_; rotate_left; intro w' hw'; go_simp; with_reducible rfl; simp only [zP,zS,zC,zZ]
         refine AnyS.yes 38 208 ?_ rfl rfl (by kernel_rfl) hQ hS (fun _ => rfl) ?_ ?_; rotate_left; intro w' hw'; go_simp; with_reducible rfl; simp only [zP,zS,zC,zZ]
         refine AnyS.no 39 209 rfl rfl (by kernel_rfl) hQ hS (fun _ => rfl) ?_; simp only [zP,zS,zC,zZ]
         refine AnyS.no 41 211 rfl rfl (by kernel_rfl) hQ hS (fun _ => rfl) ?_; simp only [zP,zS,zC,zZ]
         refine AnyS.next (i := 40) rfl (by kernel_rfl) (by kernel_rfl) fun K' hK' => ?_
         refine want_no (Bool.eq_false_iff.1 (by kernel_rfl)) ⟨fun _ _ => trivial, ?_⟩
         go_simp
         refine hK' _ _ (fun _ => hS) ?_
         clear hK' K'
         try simp only [zP,zN,zS,zC,zZ]
         refine AnyS.no 42 212 rfl rfl (by kernel_rfl) hQ hS (fun _ => rfl) ?_; simp only [zP,zS,zC,zZ]
         refine AnyS.yes 43 213 ?_ rfl rfl (by kernel_rfl) hQ hS (fun _ => rfl) ?_ ?_; rotate_left; intro w' hw'; go_simp; with_reducible rfl; simp only [zP,zS,zC,zZ]
         refine AnyS.yes 44 214 ?_ rfl rfl (by kernel_rfl) hQ hS (fun _ => rfl) ?_ ?_; rotate_left; intro w' hw'; go_simp; with_reducible rfl; simp only [zP,zS,zC,zZ]
         refine AnyS.no 45 215 rfl rfl (by kernel_rfl) hQ hS (fun _ => rfl) ?_; simp only [zP,zS,zC,zZ]
         refine AnyS.no 46 216 rfl rfl (by kernel_rfl) hQ hS (fun _ => rfl) ?_; simp only [zP,zS,zC,zZ]
         refine AnyS.yes 47 217 ?_ rfl rfl (by kernel_rfl) hQ hS (fun _ => rfl) ?_ ?_; rotate_left; intro w' hw'; go_simp; with_reducible rfl; simp only [zP,zS,zC,zZ]
         refine AnyS.done (by kernel_rfl) ?_ _
         clear hS
         have e : (!fb) = true := by rw [← hfb]; simp [c2, c3]
         rw [e] at HK
         exact HK.out _ _ _ _ _ _ _ _ _ _ _ _ _ _ _ _ _ _ _ _ _ _ _ _ _ _ _ _ _ _ _ _ _ _ _ _ _ _ _ _ _ _ _ _ _ _ _ _ HBZ.out
       · have c3' : ¬ (da : Int) < (ND : Int) := by omega
         by_cases c4 : ln = mn
         rotate_left
         · have c4' : ¬ (ln : Int) = (mn : Int) := by omega
           have c4a : ((ln : Int) == (mn : Int)) = false := by rw [beq_eq_false_iff_ne]; exact c4'
           have c4b : (ln == mn) = false := by rw [beq_eq_false_iff_ne]; exact c4
           have c4c : ((ln : Int) != (mn : Int)) = true := by rw [bne, c4a]; rfl
           have c4d : (ln != mn) = true := by rw [bne, c4b]; rfl
           refine wpIn_region_lit_late (fun W' => (W'.cell? ⟨Dl, 0, none⟩ = some (.int .i64 da) ∧ W'.cell? ⟨Dl, 1, none⟩ = some (.bool false) ∧ W'.cell? ⟨Dl, 2, none⟩ = some (.string ⟨D.toArray⟩)) ∧ W'.cell? ⟨Ix, 0, none⟩ = some (.int .i64 ia) ∧ W'.cell? ⟨Ix, 1, none⟩ = some (.bool false) ∧ W'.cell? ⟨Ix, 2, none⟩ = some (.string ⟨I.toArray⟩)) (fun _ => false) (k := 48) (listed := #[false, false, false, false, false, false, false, false, false, false, false, false, false, false, false, false, false, false, false, false, false, false, false, false, false, false, false, false, false, false, false, false, false, false, false, false, false, false, false, false, false, false, false, false, false, false, false, false]) (by kernel_rfl) (by kernel_rfl) (by kernel_rfl) ?_
           have bz := Below.drew (Below.refl w.heap.size w)
           have hS := HSF.out _ bz
           have HBZ := Lib.hid bz
           obtain ⟨wz, hwz⟩ : ∃ wz, w.drew = wz := ⟨_, rfl⟩
           rw [hwz] at hS HBZ ⊢
           clear hwz bz
           refine AnyS.yes 0 170 ?_ rfl rfl (by kernel_rfl) hQ hS (fun _ => rfl) ?_ ?_; rotate_left; intro w' hw'; go_simp; with_reducible rfl; simp only [zP,zS,zC,zZ]
           refine AnyS.yes 1 171 ?_ rfl rfl (by kernel_rfl) hQ hS (fun _ => rfl) ?_ ?_; rotate_left; intro w' hw'; go_simp; with_reducible rfl; simp only [zP,zS,zC,zZ]
           refine AnyS.yes 2 172 ?_ rfl rfl (by kernel_rfl) hQ hS (fun _ => rfl) ?_ ?_; rotate_left; intro w' hw'; go_simp; with_reducible rfl; simp only [zP,zS,zC,zZ]
           refine AnyS.yes 3 173 ?_ rfl rfl (by kernel_rfl) hQ hS (fun _ => rfl) ?_ ?_; rotate_left; intro w' hw'; go_simp; with_reducible rfl; simp only [zP,zS,zC,zZ]
           refine AnyS.yes 4 174 ?_ rfl rfl (by kernel_rfl) hQ hS (fun _ => rfl) ?_ ?_
           rotate_left
           · intro w' hw'
             obtain ⟨⟨y0, y1, y2⟩, x0, x1, x2⟩ := hw'
             go_simp
             with_reducible rfl
           simp only [zP,zN,zS,zC,zZ]
           refine AnyS.yes 5 175 ?_ rfl rfl (by kernel_rfl) hQ hS (fun _ => rfl) ?_ ?_; rotate_left; intro w' hw'; go_simp; with_reducible rfl; simp only [zP,zS,zC,zZ]
           refine AnyS.yes 6 176 ?_ rfl rfl (by kernel_rfl) hQ hS (fun _ => rfl) ?_ ?_; rotate_left; intro w' hw'; go_simp; with_reducible rfl; simp only [zP,zS,zC,zZ]
           refine AnyS.yes 7 177 ?_ rfl rfl (by kernel_rfl) hQ hS (fun _ => rfl) ?_ ?_; rotate_left; intro w' hw'; go_simp; with_reducible rfl; simp only [zP,zS,zC,zZ]
           refine AnyS.yes 8 178 ?_ rfl rfl (by kernel_rfl) hQ hS (fun _ => rfl) ?_ ?_; rotate_left; intro w' hw'; go_simp; with_reducible rfl; simp only [zP,zS,zC,zZ]
           refine AnyS.yes 9 179 ?_ rfl rfl (by kernel_rfl) hQ hS (fun _ => rfl) ?_ ?_; rotate_left; intro w' hw'; go_simp; with_reducible rfl; simp only [zP,zS,zC,zZ]
           refine AnyS.yes 10 180 ?_ rfl rfl (by kernel_rfl) hQ hS (fun _ => rfl) ?_ ?_
           rotate_left
           · intro w' hw'
             obtain ⟨⟨y0, y1, y2⟩, x0, x1, x2⟩ := hw'
             go_simp
             with_reducible rfl
           simp only [zP,zN,zS,zC,zZ]
           refine AnyS.yes 11 181 ?_ rfl rfl (by kernel_rfl) hQ hS (fun _ => rfl) ?_ ?_; rotate_left; intro w' hw'; go_simp; with_reducible rfl; simp only [zP,zS,zC,zZ]
           refine AnyS.yes 12 182 ?_ rfl rfl (by kernel_rfl) hQ hS (fun _ => rfl) ?_ ?_; rotate_left; intro w' hw'; go_simp; with_reducible rfl; simp only [zP,zS,zC,zZ]
           refine AnyS.yes 13 183 ?_ rfl rfl (by kernel_rfl) hQ hS (fun _ => rfl) ?_ ?_; rotate_left; intro w' hw'; go_simp; with_reducible rfl; simp only [zP,zS,zC,zZ]
           refine AnyS.yes 14 184 ?_ rfl rfl (by kernel_rfl) hQ hS (fun _ => rfl) ?_ ?_; rotate_left; intro w' hw'; go_simp; with_reducible rfl; simp only [zP,zS,zC,zZ]
           refine AnyS.yes 15 185 ?_ rfl rfl (by kernel_rfl) hQ hS (fun _ => rfl) ?_ ?_; rotate_left; intro w' hw'; go_simp; with_reducible rfl; simp only [zP,zS,zC,zZ]
           refine AnyS.yes 16 186 ?_ rfl rfl (by kernel_rfl) hQ hS (fun _ => rfl) ?_ ?_; rotate_left; intro w' hw'; go_simp; with_reducible rfl; simp only [zP,zS,zC,zZ]
           refine AnyS.yes 17 187 ?_ rfl rfl (by kernel_rfl) hQ hS (fun _ => rfl) ?_ ?_
           rotate_left
           · intro w' hw'
             obtain ⟨⟨y0, y1, y2⟩, x0, x1, x2⟩ := hw'
             go_simp
             with_reducible rfl
           simp only [zP,zN,zS,zC,zZ]
           refine AnyS.yes 18 188 ?_ rfl rfl (by kernel_rfl) hQ hS (fun _ => rfl) ?_ ?_; rotate_left; intro w' hw'; go_simp; with_reducible rfl; simp only [zP,zS,zC,zZ]
           refine AnyS.yes 19 189 ?_ rfl rfl (by kernel_rfl) hQ hS (fun _ => rfl) ?_ ?_; rotate_left; intro w' hw'; go_simp; with_reducible rfl; simp only [zP,zS,zC,zZ]
           refine AnyS.yes 20 190 ?_ rfl rfl (by kernel_rfl) hQ hS (fun _ => rfl) ?_ ?_; rotate_left; intro w' hw'; go_simp; with_reducible rfl; simp only [zP,zS,zC,zZ]
           refine AnyS.yes 21 191 ?_ rfl rfl (by kernel_rfl) hQ hS (fun _ => rfl) ?_ ?_
           rotate_left
           · intro w' hw'
             obtain ⟨⟨y0, y1, y2⟩, x0, x1, x2⟩ := hw'
             go_simp
             with_reducible rfl
           simp only [zP,zN,zS,zC,zZ]
           refine AnyS.yes 22 192 ?_ rfl rfl (by kernel_rfl) hQ hS (fun _ => rfl) ?_ ?_; rotate_left; intro w' hw'; go_simp; with_reducible rfl; simp only [zP,zS,zC,zZ]
           refine AnyS.yes 23 193 ?_ rfl rfl (by kernel_rfl) hQ hS (fun _ => rfl) ?_ ?_; rotate_left; intro w' hw'; go_simp; with_reducible rfl; simp only [zP,zS,zC,zZ]
           refine AnyS.yes 24 194 ?_ rfl rfl (by kernel_rfl) hQ hS (fun _ => rfl) ?_ ?_; rotate_left; intro w' hw'; go_simp; with_reducible rfl; simp only [zP,zS,zC,zZ]
           refine AnyS.yes 25 195 ?_ rfl rfl (by kernel_rfl) hQ hS (fun _ => rfl) ?_ ?_; rotate_left; intro w' hw'; go_simp; with_reducible rfl; simp only [zP,zS,zC,zZ]
           refine AnyS.yes 26 196 ?_ rfl rfl (by kernel_rfl) hQ hS (fun _ => rfl) ?_ ?_; rotate_left; intro w' hw'; go_simp; with_reducible rfl; simp only [zP,zS,zC,zZ]
           refine AnyS.yes 27 197 ?_ rfl rfl (by kernel_rfl) hQ hS (fun _ => rfl) ?_ ?_; rotate_left; intro w' hw'; go_simp; with_reducible rfl; simp only [zP,zS,zC,zZ]
           refine AnyS.yes 28 198 ?_ rfl rfl (by kernel_rfl) hQ hS (fun _ => rfl) ?_ ?_; rotate_left; intro w' hw'; go_simp; with_reducible rfl; simp only [zP,zS,zC,zZ]
           refine AnyS.yes 29 199 ?_ rfl rfl (by kernel_rfl) hQ hS (fun _ => rfl) ?_ ?_; rotate_left; intro w' hw'; go_simp; with_reducible rfl; simp only [zP,zS,zC,zZ]
           refine AnyS.yes 30 200 ?_ rfl rfl (by kernel_rfl) hQ hS (fun _ => rfl) ?_ ?_
           rotate_left
           · intro w' hw'
             obtain ⟨⟨y0, y1, y2⟩, x0, x1, x2⟩ := hw'
             go_simp
             with_reducible rfl
           simp only [zP,zN,zS,zC,zZ]
           refine AnyS.yes 31 201 ?_ rfl rfl (by kernel_rfl) hQ hS (fun _ => rfl) ?_ ?_; rotate_left; intro w' hw'; go_simp; with_reducible rfl; simp only [zP,zS,zC,zZ]
           refine AnyS.yes 32 202 ?_ rfl rfl (by kernel_rfl) hQ hS (fun _ => rfl) ?_ ?_; rotate_left; intro w' hw'; go_simp; with_reducible rfl; simp only [zP,zS,zC,zZ]
           refine AnyS.yes 33 203 ?_ rfl rfl (by kernel_rfl) hQ hS (fun _ => rfl) ?_ ?_; rotate_left; intro w' hw'; go_simp; with_reducible rfl; simp only [zP,zS,zC,zZ]
           refine AnyS.yes 34 204 ?_ rfl rfl (by kernel_rfl) hQ hS (fun _ => rfl) ?_ ?_
           rotate_left
           · intro w' hw'
             obtain ⟨⟨y0, y1, y2⟩, x0, x1, x2⟩ := hw'
             go_simp
             with_reducible rfl
           simp only [zP,zN,zS,zC,zZ]
           refine AnyS.yes 35 205 ?_ rfl rfl (by kernel_rfl) hQ hS (fun _ => rfl) ?_ ?_; rotate_left; intro w' hw'; go_simp; with_reducible rfl; simp only [zP,zS,zC,zZ]
           refine AnyS.yes 36 206 ?_ rfl rfl (by kernel_rfl) hQ hS (fun _ => rfl) ?_ ?_; rotate_left; intro w' hw'; go_simp; with_reducible rfl; simp only [zP,zS,zC,zZ]
           refine AnyS.yes 37 207 ?_ rfl rfl (by kernel_rfl) hQ hS (fun _ => rfl) ?_ ?_; rotate_left; intro w' hw'; go_simp; with_reducible rfl; simp only [zP,zS,zC,zZ]
           refine AnyS.yes 38 208 ?_ rfl rfl (by kernel_rfl) hQ hS (fun _ => rfl) ?_ ?_; rotate_left; intro w' hw'; go_simp; with_reducible rfl; simp only [zP,zS,zC,zZ]
           refine AnyS.yes 39 209 ?_ rfl rfl (by kernel_rfl) hQ hS (fun _ => rfl) ?_ ?_; rotate_left; intro w' hw'; go_simp; with_reducible rfl; simp only [zP,zS,zC,zZ]
           refine AnyS.yes 41 211 ?_ rfl rfl (by kernel_rfl) hQ hS (fun _ => rfl) ?_ ?_; rotate_left; intro w' hw'; go_simp; with_reducible rfl; simp only [zP,zS,zC,zZ]
           refine AnyS.next (i := 40) rfl (by kernel_rfl) (by kernel_rfl) fun K' hK' => ?_
           refine want_yes (by kernel_rfl) ?_
           go_simp
           refine ⟨trivial, (callsIn_wide.2 (LNC.out _ HBZ.out)).mono ?_⟩
           rintro e9 wb ⟨rfl, bb⟩
           have HBB := Lib.hid (btP HBZ.out bb)
           have hS := HSF.out _ HBB.out
           refine hK' _ _ (fun _ => hS) ?_
           clear hK' K' bb HBZ
           simp only [zP,zN,zS,zC,zZ]
           refine AnyS.yes 42 212 ?_ rfl rfl (by kernel_rfl) hQ hS (fun _ => rfl) ?_ ?_; rotate_left; intro w' hw'; go_simp; with_reducible rfl; simp only [zP,zS,zC,zZ]
           refine AnyS.yes 43 213 ?_ rfl rfl (by kernel_rfl) hQ hS (fun _ => rfl) ?_ ?_; rotate_left; intro w' hw'; go_simp; with_reducible rfl; simp only [zP,zS,zC,zZ]
           refine AnyS.yes 44 214 ?_ rfl rfl (by kernel_rfl) hQ hS (fun _ => rfl) ?_ ?_; rotate_left; intro w' hw'; go_simp; with_reducible rfl; simp only [zP,zS,zC,zZ]
           refine AnyS.no 45 215 rfl rfl (by kernel_rfl) hQ hS (fun _ => rfl) ?_; simp only [zP,zS,zC,zZ]
           refine AnyS.no 46 216 rfl rfl (by kernel_rfl) hQ hS (fun _ => rfl) ?_; simp only [zP,zS,zC,zZ]
           refine AnyS.yes 47 217 ?_ rfl rfl (by kernel_rfl) hQ hS (fun _ => rfl) ?_ ?_; rotate_left; intro w' hw'; go_simp; with_reducible rfl; simp only [zP,zS,zC,zZ]
           refine AnyS.done (by kernel_rfl) ?_ _
           clear hS
           have e : (!fb) = true := by rw [← hfb]; simp [c2, c3, c4]
           rw [e] at HK
           exact HK.out _ _ _ _ _ _ _ _ _ _ _ _ _ _ _ _ _ _ _ _ _ _ _ _ _ _ _ _ _ _ _ _ _ _ _ _ _ _ _ _ _ _ _ _ _ _ _ _ HBB.out
         subst c4
         by_cases c5 : ln ≤ 4096
         · have c5' : ¬ (4096 : Int) < (ln : Int) := by omega
           refine wpIn_region_lit_late (fun W' => (W'.cell? ⟨Dl, 0, none⟩ = some (.int .i64 da) ∧ W'.cell? ⟨Dl, 1, none⟩ = some (.bool false) ∧ W'.cell? ⟨Dl, 2, none⟩ = some (.string ⟨D.toArray⟩)) ∧ W'.cell? ⟨Ix, 0, none⟩ = some (.int .i64 ia) ∧ W'.cell? ⟨Ix, 1, none⟩ = some (.bool false) ∧ W'.cell? ⟨Ix, 2, none⟩ = some (.string ⟨I.toArray⟩)) (fun _ => false) (k := 48) (listed := #[false, false, false, false, false, false, false, false, false, false, false, false, false, false, false, false, false, false, false, false, false, false, false, false, false, false, false, false, false, false, false, false, false, false, false, false, false, false, false, false, false, false, false, false, false, false, false, false]) (by kernel_rfl) (by kernel_rfl) (by kernel_rfl) ?_
           have bz := Below.drew (Below.refl w.heap.size w)
           have hS := HSF.out _ bz
           have HBZ := Lib.hid bz
           obtain ⟨wz, hwz⟩ : ∃ wz, w.drew = wz := ⟨_, rfl⟩
           rw [hwz] at hS HBZ ⊢
           clear hwz bz
           refine AnyS.yes 0 170 ?_ rfl rfl (by kernel_rfl) hQ hS (fun _ => rfl) ?_ ?_; rotate_left; intro w' hw'; go_simp; with_reducible rfl; simp only [zP,zS,zC,zZ]
           refine AnyS.yes 1 171 ?_ rfl rfl (by kernel_rfl) hQ hS (fun _ => rfl) ?_ ?_; rotate_left; intro w' hw'; go_simp; with_reducible rfl; simp only [zP,zS,zC,zZ]
           refine AnyS.yes 2 172 ?_ rfl rfl (by kernel_rfl) hQ hS (fun _ => rfl) ?_ ?_; rotate_left; intro w' hw'; go_simp; with_reducible rfl; simp only [zP,zS,zC,zZ]
           refine AnyS.yes 3 173 ?_ rfl rfl (by kernel_rfl) hQ hS (fun _ => rfl) ?_ ?_; rotate_left; intro w' hw'; go_simp; with_reducible rfl; simp only [zP,zS,zC,zZ]
           refine AnyS.yes 4 174 ?_ rfl rfl (by kernel_rfl) hQ hS (fun _ => rfl) ?_ ?_
           rotate_left
           · intro w' hw'
             obtain ⟨⟨y0, y1, y2⟩, x0, x1, x2⟩ := hw'
             go_simp
             with_reducible rfl
           simp only [zP,zN,zS,zC,zZ]
           refine AnyS.yes 5 175 ?_ rfl rfl (by kernel_rfl) hQ hS (fun _ => rfl) ?_ ?_; rotate_left; intro w' hw'; go_simp; with_reducible rfl; simp only [zP,zS,zC,zZ]
           refine AnyS.yes 6 176 ?_ rfl rfl (by kernel_rfl) hQ hS (fun _ => rfl) ?_ ?_; rotate_left; intro w' hw'; go_simp; with_reducible rfl; simp only [zP,zS,zC,zZ]
           refine AnyS.yes 7 177 ?_ rfl rfl (by kernel_rfl) hQ hS (fun _ => rfl) ?_ ?_; rotate_left; intro w' hw'; go_simp; with_reducible rfl; simp only [zP,zS,zC,zZ]
           refine AnyS.yes 8 178 ?_ rfl rfl (by kernel_rfl) hQ hS (fun _ => rfl) ?_ ?_; rotate_left; intro w' hw'; go_simp; with_reducible rfl; simp only [zP,zS,zC,zZ]
           refine AnyS.yes 9 179 ?_ rfl rfl (by kernel_rfl) hQ hS (fun _ => rfl) ?_ ?_; rotate_left; intro w' hw'; go_simp; with_reducible rfl; simp only [zP,zS,zC,zZ]
           refine AnyS.yes 10 180 ?_ rfl rfl (by kernel_rfl) hQ hS (fun _ => rfl) ?_ ?_
           rotate_left
           · intro w' hw'
             obtain ⟨⟨y0, y1, y2⟩, x0, x1, x2⟩ := hw'
             go_simp
             with_reducible rfl
           simp only [zP,zN,zS,zC,zZ]
           refine AnyS.yes 11 181 ?_ rfl rfl (by kernel_rfl) hQ hS (fun _ => rfl) ?_ ?_; rotate_left; intro w' hw'; go_simp; with_reducible rfl; simp only [zP,zS,zC,zZ]
           refine AnyS.yes 12 182 ?_ rfl rfl (by kernel_rfl) hQ hS (fun _ => rfl) ?_ ?_; rotate_left; intro w' hw'; go_simp; with_reducible rfl; simp only [zP,zS,zC,zZ]
           refine AnyS.yes 13 183 ?_ rfl rfl (by kernel_rfl) hQ hS (fun _ => rfl) ?_ ?_; rotate_left; intro w' hw'; go_simp; with_reducible rfl; simp only [zP,zS,zC,zZ]
           refine AnyS.yes 14 184 ?_ rfl rfl (by kernel_rfl) hQ hS (fun _ => rfl) ?_ ?_; rotate_left; intro w' hw'; go_simp; with_reducible rfl; simp only [zP,zS,zC,zZ]
           refine AnyS.yes 15 185 ?_ rfl rfl (by kernel_rfl) hQ hS (fun _ => rfl) ?_ ?_; rotate_left; intro w' hw'; go_simp; with_reducible rfl; simp only [zP,zS,zC,zZ]
           refine AnyS.yes 16 186 ?_ rfl rfl (by kernel_rfl) hQ hS (fun _ => rfl) ?_ ?_; rotate_left; intro w' hw'; go_simp; with_reducible rfl; simp only [zP,zS,zC,zZ]
           refine AnyS.yes 17 187 ?_ rfl rfl (by kernel_rfl) hQ hS (fun _ => rfl) ?_ ?_
           rotate_left
           · intro w' hw'
             obtain ⟨⟨y0, y1, y2⟩, x0, x1, x2⟩ := hw'
             go_simp
             with_reducible rfl
           simp only [zP,zN,zS,zC,zZ]
           refine AnyS.yes 18 188 ?_ rfl rfl (by kernel_rfl) hQ hS (fun _ => rfl) ?_ ?_; rotate_left; intro w' hw'; go_simp; with_reducible rfl; simp only [zP,zS,zC,zZ]
           refine AnyS.yes 19 189 ?_ rfl rfl (by kernel_rfl) hQ hS (fun _ => rfl) ?_ ?_; rotate_left; intro w' hw'; go_simp; with_reducible rfl; simp only [zP,zS,zC,zZ]
           refine AnyS.yes 20 190 ?_ rfl rfl (by kernel_rfl) hQ hS (fun _ => rfl) ?_ ?_; rotate_left; intro w' hw'; go_simp; with_reducible rfl; simp only [zP,zS,zC,zZ]
           refine AnyS.yes 21 191 ?_ rfl rfl (by kernel_rfl) hQ hS (fun _ => rfl) ?_ ?_
           rotate_left
           · intro w' hw'
             obtain ⟨⟨y0, y1, y2⟩, x0, x1, x2⟩ := hw'
             go_simp
             with_reducible rfl
           simp only [zP,zN,zS,zC,zZ]
           refine AnyS.yes 22 192 ?_ rfl rfl (by kernel_rfl) hQ hS (fun _ => rfl) ?_ ?_; rotate_left; intro w' hw'; go_simp; with_reducible rfl; simp only [zP,zS,zC,zZ]
           refine AnyS.yes 23 193 ?_ rfl rfl (by kernel_rfl) hQ hS (fun _ => rfl) ?_ ?_; rotate_left; intro w' hw'; go_simp; with_reducible rfl; simp only [zP,zS,zC,zZ]
           refine AnyS.yes 24 194 ?_ rfl rfl (by kernel_rfl) hQ hS (fun _ => rfl) ?_ ?_; rotate_left; intro w' hw'; go_simp; with_reducible rfl; simp only [zP,zS,zC,zZ]
           refine AnyS.yes 25 195 ?_ rfl rfl (by kernel_rfl) hQ hS (fun _ => rfl) ?_ ?_; rotate_left; intro w' hw'; go_simp; with_reducible rfl; simp only [zP,zS,zC,zZ]
           refine AnyS.yes 26 196 ?_ rfl rfl (by kernel_rfl) hQ hS (fun _ => rfl) ?_ ?_; rotate_left; intro w' hw'; go_simp; with_reducible rfl; simp only [zP,zS,zC,zZ]
           refine AnyS.yes 27 197 ?_ rfl rfl (by kernel_rfl) hQ hS (fun _ => rfl) ?_ ?_; rotate_left; intro w' hw'; go_simp; with_reducible rfl; simp only [zP,zS,zC,zZ]
           refine AnyS.yes 28 198 ?_ rfl rfl (by kernel_rfl) hQ hS (fun _ => rfl) ?_ ?_; rotate_left; intro w' hw'; go_simp; with_reducible rfl; simp only [zP,zS,zC,zZ]
           refine AnyS.yes 29 199 ?_ rfl rfl (by kernel_rfl) hQ hS (fun _ => rfl) ?_ ?_; rotate_left; intro w' hw'; go_simp; with_reducible rfl; simp only [zP,zS,zC,zZ]
           refine AnyS.yes 30 200 ?_ rfl rfl (by kernel_rfl) hQ hS (fun _ => rfl) ?_ ?_
           rotate_left
           · intro w' hw'
             obtain ⟨⟨y0, y1, y2⟩, x0, x1, x2⟩ := hw'
             go_simp
             with_reducible rfl
           simp only [zP,zN,zS,zC,zZ]
           refine AnyS.yes 31 201 ?_ rfl rfl (by kernel_rfl) hQ hS (fun _ => rfl) ?_ ?_; rotate_left; intro w' hw'; go_simp; with_reducible rfl; simp only [zP,zS,zC,zZ]
           refine AnyS.yes 32 202 ?_ rfl rfl (by kernel_rfl) hQ hS (fun _ => rfl) ?_ ?_; rotate_left; intro w' hw'; go_simp; with_reducible rfl; simp only [zP,zS,zC,zZ]
           refine AnyS.yes 33 203 ?_ rfl rfl (by kernel_rfl) hQ hS (fun _ => rfl) ?_ ?_; rotate_left; intro w' hw'; go_simp; with_reducible rfl; simp only [zP,zS,zC,zZ]
           refine AnyS.yes 34 204 ?_ rfl rfl (by kernel_rfl) hQ hS (fun _ => rfl) ?_ ?_
           rotate_left
           · intro w' hw'
             obtain ⟨⟨y0, y1, y2⟩, x0, x1, x2⟩ := hw'
             go_simp
             with_reducible rfl
           simp only [zP,zN,zS,zC,zZ]
           refine AnyS.yes 35 205 ?_ rfl rfl (by kernel_rfl) hQ hS (fun _ => rfl) ?_ ?_; rotate_left; intro w' hw'; go_simp; with_reducible rfl; simp only [zP,zS,zC,zZ]
           refine AnyS.yes 36 206 ?_ rfl rfl (by kernel_rfl) hQ hS (fun _ => rfl) ?_ ?_; rotate_left; intro w' hw'; go_simp; with_reducible rfl; simp only [zP,zS,zC,zZ]
           refine AnyS.yes 37 207 ?_ rfl rfl (by kernel_rfl) hQ hS (fun _ => rfl) ?_ ?_; rotate_left; intro w' hw'; go_simp; with_reducible rfl; simp only [zP,zS,zC,zZ]
           refine AnyS.yes 38 208 ?_ rfl rfl (by kernel_rfl) hQ hS (fun _ => rfl) ?_ ?_; rotate_left; intro w' hw'; go_simp; with_reducible rfl; simp only [zP,zS,zC,zZ]
           refine AnyS.yes 39 209 ?_ rfl rfl (by kernel_rfl) hQ hS (fun _ => rfl) ?_ ?_; rotate_left; intro w' hw'; go_simp; with_reducible rfl; simp only [zP,zS,zC,zZ]
           refine AnyS.yes 41 211 ?_ rfl rfl (by kernel_rfl) hQ hS (fun _ => rfl) ?_ ?_; rotate_left; intro w' hw'; go_simp; with_reducible rfl; simp only [zP,zS,zC,zZ]
           refine AnyS.next (i := 40) rfl (by kernel_rfl) (by kernel_rfl) fun K' hK' => ?_
           refine want_yes (by kernel_rfl) ?_
           go_simp
           refine ⟨trivial, (callsIn_wide.2 (LNC.out _ HBZ.out)).mono ?_⟩
           rintro e9 wb ⟨rfl, bb⟩
           have HBB := Lib.hid (btP HBZ.out bb)
           have hS := HSF.out _ HBB.out
           refine hK' _ _ (fun _ => hS) ?_
           clear hK' K' bb HBZ
           simp only [zP,zN,zS,zC,zZ]
           refine AnyS.yes 42 212 ?_ rfl rfl (by kernel_rfl) hQ hS (fun _ => rfl) ?_ ?_; rotate_left; intro w' hw'; go_simp; with_reducible rfl; simp only [zP,zS,zC,zZ]
           refine AnyS.yes 43 213 ?_ rfl rfl (by kernel_rfl) hQ hS (fun _ => rfl) ?_ ?_; rotate_left; intro w' hw'; go_simp; with_reducible rfl; simp only [zP,zS,zC,zZ]
           refine AnyS.yes 44 214 ?_ rfl rfl (by kernel_rfl) hQ hS (fun _ => rfl) ?_ ?_; rotate_left; intro w' hw'; go_simp; with_reducible rfl; simp only [zP,zS,zC,zZ]
           refine AnyS.yes 45 215 ?_ rfl rfl (by kernel_rfl) hQ hS (fun _ => rfl) ?_ ?_; rotate_left; intro w' hw'; go_simp; with_reducible rfl; simp only [zP,zS,zC,zZ]
           refine AnyS.yes 46 216 ?_ rfl rfl (by kernel_rfl) hQ hS (fun _ => rfl) ?_ ?_; rotate_left; intro w' hw'; go_simp; with_reducible rfl; simp only [zP,zS,zC,zZ]
           refine AnyS.yes 47 217 ?_ rfl rfl (by kernel_rfl) hQ hS (fun _ => rfl) ?_ ?_; rotate_left; intro w' hw'; go_simp; with_reducible rfl; simp only [zP,zS,zC,zZ]
           refine AnyS.done (by kernel_rfl) ?_ _
           clear hS
           have e : (!fb) = false := by rw [← hfb]; simp [c2, c3, c5]
           rw [e] at HK
           exact HK.out _ _ _ _ _ _ _ _ _ _ _ _ _ _ _ _ _ _ _ _ _ _ _ _ _ _ _ _ _ _ _ _ _ _ _ _ _ _ _ _ _ _ _ _ _ _ _ _ HBB.out
         · have c5' : (4096 : Int) < (ln : Int) := by omega
           refine wpIn_region_lit_late (fun W' => (W'.cell? ⟨Dl, 0, none⟩ = some (.int .i64 da) ∧ W'.cell? ⟨Dl, 1, none⟩ = some (.bool false) ∧ W'.cell? ⟨Dl, 2, none⟩ = some (.string ⟨D.toArray⟩)) ∧ W'.cell? ⟨Ix, 0, none⟩ = some (.int .i64 ia) ∧ W'.cell? ⟨Ix, 1, none⟩ = some (.bool false) ∧ W'.cell? ⟨Ix, 2, none⟩ = some (.string ⟨I.toArray⟩)) (fun _ => false) (k := 48) (listed := #[false, false, false, false, false, false, false, false, false, false, false, false, false, false, false, false, false, false, false, false, false, false, false, false, false, false, false, false, false, false, false, false, false, false, false, false, false, false, false, false, false, false, false, false, false, false, false, false]) (by kernel_rfl) (by kernel_rfl) (by kernel_rfl) ?_
           have bz := Below.drew (Below.refl w.heap.size w)
           have hS := HSF.out _ bz
           have HBZ := Lib.hid bz
           obtain ⟨wz, hwz⟩ : ∃ wz, w.drew = wz := ⟨_, rfl⟩
           rw [hwz] at hS HBZ ⊢
           clear hwz bz
           refine AnyS.yes 0 170 ?_ rfl rfl (by kernel_rfl) hQ hS (fun _ => rfl) ?_ ?_; rotate_left; intro w' hw'; go_simp; with_reducible rfl; simp only [zP,zS,zC,zZ]
           refine AnyS.yes 1 171 ?_ rfl rfl (by kernel_rfl) hQ hS (fun _ => rfl) ?_ ?_; rotate_left; intro w' hw'; go_simp; with_reducible rfl; simp only [zP,zS,zC,zZ]
           refine AnyS.yes 2 172 ?_ rfl rfl (by kernel_rfl) hQ hS (fun _ => rfl) ?_ ?_; rotate_left; intro w' hw'; go_simp; with_reducible rfl; simp only [zP,zS,zC,zZ]
           refine AnyS.yes 3 173 ?_ rfl rfl (by kernel_rfl) hQ hS (fun _ => rfl) ?_ ?_; rotate_left; intro w' hw'; go_simp; with_reducible rfl; simp only [zP,zS,zC,zZ]
           refine AnyS.yes 4 174 ?_ rfl rfl (by kernel_rfl) hQ hS (fun _ => rfl) ?_ ?_
           rotate_left
           · intro w' hw'
             obtain ⟨⟨y0, y1, y2⟩, x0, x1, x2⟩ := hw'
             go_simp
             with_reducible rfl
           simp only [zP,zN,zS,zC,zZ]
           refine AnyS.yes 5 175 ?_ rfl rfl (by kernel_rfl) hQ hS (fun _ => rfl) ?_ ?_; rotate_left; intro w' hw'; go_simp; with_reducible rfl; simp only [zP,zS,zC,zZ]
           refine AnyS.yes 6 176 ?_ rfl rfl (by kernel_rfl) hQ hS (fun _ => rfl) ?_ ?_; rotate_left; intro w' hw'; go_simp; with_reducible rfl; simp only [zP,zS,zC,zZ]
           refine AnyS.yes 7 177 ?_ rfl rfl (by kernel_rfl) hQ hS (fun _ => rfl) ?_ ?_; rotate_left; intro w' hw'; go_simp; with_reducible rfl; simp only [zP,zS,zC,zZ]
           refine AnyS.yes 8 178 ?_ rfl rfl (by kernel_rfl) hQ hS (fun _ => rfl) ?_ ?_; rotate_left; intro w' hw'; go_simp; with_reducible rfl; simp only [zP,zS,zC,zZ]
           refine AnyS.yes 9 179 ?_ rfl rfl (by kernel_rfl) hQ hS (fun _ => rfl) ?_ ?_; rotate_left; intro w' hw'; go_simp; with_reducible rfl; simp only [zP,zS,zC,zZ]
           refine AnyS.yes 10 180 ?_ rfl rfl (by kernel_rfl) hQ hS (fun _ => rfl) ?_ ?_
           rotate_left
           · intro w' hw'
             obtain ⟨⟨y0, y1, y2⟩, x0, x1, x2⟩ := hw'
             go_simp
             with_reducible rfl
           simp only [zP,zN,zS,zC,zZ]
           refine AnyS.yes 11 181 ?_ rfl rfl (by kernel_rfl) hQ hS (fun _ => rfl) ?_ ?_; rotate_left; intro w' hw'; go_simp; with_reducible rfl; simp only [zP,zS,zC,zZ]
           refine AnyS.yes 12 182 ?_ rfl rfl (by kernel_rfl) hQ hS (fun _ => rfl) ?_ ?_; rotate_left; intro w' hw'; go_simp; with_reducible rfl; simp only [zP,zS,zC,zZ]
           refine AnyS.yes 13 183 ?_ rfl rfl (by kernel_rfl) hQ hS (fun _ => rfl) ?_ ?_; rotate_left; intro w' hw'; go_simp; with_reducible rfl; simp only [zP,zS,zC,zZ]
           refine AnyS.yes 14 184 ?_ rfl rfl (by kernel_rfl) hQ hS (fun _ => rfl) ?_ ?_; rotate_left; intro w' hw'; go_simp; with_reducible rfl; simp only [zP,zS,zC,zZ]
           refine AnyS.yes 15 185 ?_ rfl rfl (by kernel_rfl) hQ hS (fun _ => rfl) ?_ ?_; rotate_left; intro w' hw'; go_simp; with_reducible rfl; simp only [zP,zS,zC,zZ]
           refine AnyS.yes 16 186 ?_ rfl rfl (by kernel_rfl) hQ hS (fun _ => rfl) ?_ ?_; rotate_left; intro w' hw'; go_simp; with_reducible rfl; simp only [zP,zS,zC,zZ]
           refine AnyS.yes 17 187 ?_ rfl rfl (by kernel_rfl) hQ hS (fun _ => rfl) ?_ ?_
           rotate_left
           · intro w' hw'
             obtain ⟨⟨y0, y1, y2⟩, x0, x1, x2⟩ := hw'
             go_simp
             with_reducible rfl
           simp only [zP,zN,zS,zC,zZ]
           refine AnyS.yes 18 188 ?_ rfl rfl (by kernel_rfl) hQ hS (fun _ => rfl) ?_ ?_; rotate_left; intro w' hw'; go_simp; with_reducible rfl; simp only [zP,zS,zC,zZ]
           refine AnyS.yes 19 189 ?_ rfl rfl (by kernel_rfl) hQ hS (fun _ => rfl) ?_ ?_; rotate_left; intro w' hw'; go_simp; with_reducible rfl; simp only [zP,zS,zC,zZ]
           refine AnyS.yes 20 190 ?_ rfl rfl (by kernel_rfl) hQ hS (fun _ => rfl) ?_ ?_; rotate_left; intro w' hw'; go_simp; with_reducible rfl; simp only [zP,zS,zC,zZ]
           refine AnyS.yes 21 191 ?_ rfl rfl (by kernel_rfl) hQ hS (fun _ => rfl) ?_ ?_
           rotate_left
           · intro w' hw'
             obtain ⟨⟨y0, y1, y2⟩, x0, x1, x2⟩ := hw'
             go_simp
             with_reducible rfl
           simp only [zP,zN,zS,zC,zZ]
           refine AnyS.yes 22 192 ?_ rfl rfl (by kernel_rfl) hQ hS (fun _ => rfl) ?_ ?_; rotate_left; intro w' hw'; go_simp; with_reducible rfl; simp only [zP,zS,zC,zZ]
           refine AnyS.yes 23 193 ?_ rfl rfl (by kernel_rfl) hQ hS (fun _ => rfl) ?_ ?_; rotate_left; intro w' hw'; go_simp; with_reducible rfl; simp only [zP,zS,zC,zZ]
           refine AnyS.yes 24 194 ?_ rfl rfl (by kernel_rfl) hQ hS (fun _ => rfl) ?_ ?_; rotate_left; intro w' hw'; go_simp; with_reducible rfl; simp only [zP,zS,zC,zZ]
           refine AnyS.yes 25 195 ?_ rfl rfl (by kernel_rfl) hQ hS (fun _ => rfl) ?_ ?_; rotate_left; intro w' hw'; go_simp; with_reducible rfl; simp only [zP,zS,zC,zZ]
           refine AnyS.yes 26 196 ?_ rfl rfl (by kernel_rfl) hQ hS (fun _ => rfl) ?_ ?_; rotate_left; intro w' hw'; go_simp; with_reducible rfl; simp only [zP,zS,zC,zZ]
           refine AnyS.yes 27 197 ?_ rfl rfl (by kernel_rfl) hQ hS (fun _ => rfl) ?_ ?_; rotate_left; intro w' hw'; go_simp; with_reducible rfl; simp only [zP,zS,zC,zZ]
           refine AnyS.yes 28 198 ?_ rfl rfl (by kernel_rfl) hQ hS (fun _ => rfl) ?_ ?_; rotate_left; intro w' hw'; go_simp; with_reducible rfl; simp only [zP,zS,zC,zZ]
           refine AnyS.yes 29 199 ?_ rfl rfl (by kernel_rfl) hQ hS (fun _ => rfl) ?_ ?_; rotate_left; intro w' hw'; go_simp; with_reducible rfl; simp only [zP,zS,zC,zZ]
           refine AnyS.yes 30 200 ?_ rfl rfl (by kernel_rfl) hQ hS (fun _ => rfl) ?_ ?_
           rotate_left
           · intro w' hw'
             obtain ⟨⟨y0, y1, y2⟩, x0, x1, x2⟩ := hw'
             go_simp
             with_reducible rfl
           simp only [zP,zN,zS,zC,zZ]
           refine AnyS.yes 31 201 ?_ rfl rfl (by kernel_rfl) hQ hS (fun _ => rfl) ?_ ?_; rotate_left; intro w' hw'; go_simp; with_reducible rfl; simp only [zP,zS,zC,zZ]
           refine AnyS.yes 32 202 ?_ rfl rfl (by kernel_rfl) hQ hS (fun _ => rfl) ?_ ?_; rotate_left; intro w' hw'; go_simp; with_reducible rfl; simp only [zP,zS,zC,zZ]
           refine AnyS.yes 33 203 ?_ rfl rfl (by kernel_rfl) hQ hS (fun _ => rfl) ?_ ?_; rotate_left; intro w' hw'; go_simp; with_reducible rfl; simp only [zP,zS,zC,zZ]
           refine AnyS.yes 34 204 ?_ rfl rfl (by kernel_rfl) hQ hS (fun _ => rfl) ?_ ?_
           rotate_left
           · intro w' hw'
             obtain ⟨⟨y0, y1, y2⟩, x0, x1, x2⟩ := hw'
             go_simp
             with_reducible rfl
           simp only [zP,zN,zS,zC,zZ]
           refine AnyS.yes 35 205 ?_ rfl rfl (by kernel_rfl) hQ hS (fun _ => rfl) ?_ ?_; rotate_left; intro w' hw'; go_simp; with_reducible rfl; simp only [zP,zS,zC,zZ]
           refine AnyS.yes 36 206 ?_ rfl rfl (by kernel_rfl) hQ hS (fun _ => rfl) ?_ ?_; rotate_left; intro w' hw'; go_simp; with_reducible rfl; simp only [zP,zS,zC,zZ]
           refine AnyS.yes 37 207 ?_ rfl rfl (by kernel_rfl) hQ hS (fun _ => rfl) ?_ ?_; rotate_left; intro w' hw'; go_simp; with_reducible rfl; simp only [zP,zS,zC,zZ]
           refine AnyS.yes 38 208 ?_ rfl rfl (by kernel_rfl) hQ hS (fun _ => rfl) ?_ ?_; rotate_left; intro w' hw'; go_simp; with_reducible rfl; simp only [zP,zS,zC,zZ]
           refine AnyS.yes 39 209 ?_ rfl rfl (by kernel_rfl) hQ hS (fun _ => rfl) ?_ ?_; rotate_left; intro w' hw'; go_simp; with_reducible rfl; simp only [zP,zS,zC,zZ]
           refine AnyS.yes 41 211 ?_ rfl rfl (by kernel_rfl) hQ hS (fun _ => rfl) ?_ ?_; rotate_left; intro w' hw'; go_simp; with_reducible rfl; simp only [zP,zS,zC,zZ]
           refine AnyS.next (i := 40) rfl (by kernel_rfl) (by kernel_rfl) fun K' hK' => ?_
           refine want_yes (by kernel_rfl) ?_
           go_simp
           refine ⟨trivial, (callsIn_wide.2 (LNC.out _ HBZ.out)).mono ?_⟩
           rintro e9 wb ⟨rfl, bb⟩
           have HBB := Lib.hid (btP HBZ.out bb)
           have hS := HSF.out _ HBB.out
           refine hK' _ _ (fun _ => hS) ?_
           clear hK' K' bb HBZ
           simp only [zP,zN,zS,zC,zZ]
           refine AnyS.yes 42 212 ?_ rfl rfl (by kernel_rfl) hQ hS (fun _ => rfl) ?_ ?_; rotate_left; intro w' hw'; go_simp; with_reducible rfl; simp only [zP,zS,zC,zZ]
           refine AnyS.yes 43 213 ?_ rfl rfl (by kernel_rfl) hQ hS (fun _ => rfl) ?_ ?_; rotate_left; intro w' hw'; go_simp; with_reducible rfl; simp only [zP,zS,zC,zZ]
           refine AnyS.yes 44 214 ?_ rfl rfl (by kernel_rfl) hQ hS (fun _ => rfl) ?_ ?_; rotate_left; intro w' hw'; go_simp; with_reducible rfl; simp only [zP,zS,zC,zZ]
           refine AnyS.yes 45 215 ?_ rfl rfl (by kernel_rfl) hQ hS (fun _ => rfl) ?_ ?_; rotate_left; intro w' hw'; go_simp; with_reducible rfl; simp only [zP,zS,zC,zZ]
           refine AnyS.yes 46 216 ?_ rfl rfl (by kernel_rfl) hQ hS (fun _ => rfl) ?_ ?_; rotate_left; intro w' hw'; go_simp; with_reducible rfl; simp only [zP,zS,zC,zZ]
           refine AnyS.yes 47 217 ?_ rfl rfl (by kernel_rfl) hQ hS (fun _ => rfl) ?_ ?_; rotate_left; intro w' hw'; go_simp; with_reducible rfl; simp only [zP,zS,zC,zZ]
           refine AnyS.done (by kernel_rfl) ?_ _
           clear hS
           have e : (!fb) = true := by rw [← hfb]; simp [c2, c3, c5]
           rw [e] at HK
           exact HK.out _ _ _ _ _ _ _ _ _ _ _ _ _ _ _ _ _ _ _ _ _ _ _ _ _ _ _ _ _ _ _ _ _ _ _ _ _ _ _ _ _ _ _ _ _ _ _ _ HBB.out
end Go.Proofs.YtoglloafpnopaaaGreat
