/- FnOver: the common one, powers, the count. Conditions: those of its statement. -/
import Derived.Test.YtlnjkjogedbhfaaIOy
import Derived.Test.YtlnjkjogedbhfaaI19
import Derived.Test.YtlnjkjogedbhfaaI16
import Derived.Deep.QuietTactic
import Derived.Deep.RegionHeld3
namespace Go.Proofs.Ytlnjkjogedbhfaa
open Go Go.RowKit
set_option linter.unusedSimpArgs false
set_option linter.unusedVariables false
set_option linter.unusedSimpArgs false
set_option linter.unusedVariables false

theorem pow_len {m : Int} (hm : primeB m = true) {a x : List Int} (ha : Ov17 m a) (hx : Ov17 m x) (h2 : 2 ≤ a.length) (k : Nat) : (powZ m a k [1] (remF m a x)).length ≤ a.length - 1 := by
  have hz := long_zero h2
  have hr := rem17 hm hx.ovr ha hz
  have h := pow_cg hm ha hz k k [1] (remF m a x) (Nat.le_refl _) (one17 hm) hr (by simp; omega) h2
  exact h.2

set_option maxRecDepth 1000000 in
set_option maxHeartbeats 20000000 in
theorem over_tail18 : OT18 := by
  intro w M code more a b pc qc pm qm wr a7 a8 x2 x3 x4 x5 x9 x10 x11 x12 x13 x14 x15 x16 x17 x18 x19 x20 x21 x22 x23 x24 x25 x26 x27 x28 x29 x30 x31 x32 x33 x34 x35 x36 x37 x38 x39 x40 x41 x42 x43 x44 x45 x46 x47 x48 x49 x50 x51 x52 x53 x54 x55 x56 x57 x58 x59 x60 x61 x62 x63 x64 x65 x66 x67 x68 x69 x70 x71 x72 x73 x74 x75 x76 x77 x78 x79 x80 x81 x82 x83 x84 x85 x86 x87 x88 x89 x90 x91 x92 x93 x94 x95 x96 x97 x98 x99 x100 x101 x102 x103 x104 x105 x106 x107 x108 x109 x110 x111 x112 x113 x114 x115 x116 x117 x118 x119 x120 x121 x122 x123 x124 x125 x126 x127 x128 x129 x130 x131 x132 x133 x134 x135 x136 x137 x138 x139 x140 x141 x142 x143 x144 x145 x146 x147 x148 x149 x150 x151 x152 x153 x154 x155 x156 x157 x158 x159 x160 x161 x162 x163 x164 x165 x166 x167 x168 x169 x170 x171 x172 x173 x174 x175 x176 x177 x178 x179 x180 x181 x182 x183 x184 x185 x186 x187 x188 x189 x190 x191 x192 x193 x194 x195 x196 x197 x198 x199 x200 x201 x202 x203 x204 x205 x206 x207 x208 x209 x210 x211 x212 x213 x214 x215 x216 x217 x218 x219 x220 x221 x222 x223 x224 x225 x226 x227 x228 x229 x230 x231 x232 x233 x234 x235 x236 x237 x238 x239 x240 x241 x242 x243 x244 x245 x246 x247 x248 x249 x250 x251 x252 x253 x254 x255 x256 x257 x258 x259 x260 x261 x262 x263 x264 x265 x266 x267 x268 x269 x270 x271 x272 x273 x274 x275 x276 x277 x278 x279 x280 x281 x282 x283 x284 x285 x286 x287 x288 x289 x290 x291 x292 x293 x294 x295 x296 x297 x298 x299 x300 x301 x302 x303 x304 x305 x306 x307 x308 x309 x310 x311 x312 x313 x314 x315 x316 x317 x318 x319 x320 x321 x322 x323 x324 x325 x326 x327 x328 x329 x330 x331 x332 x333 x334 x335 x336 x337 x338 x339 x340 x341 x342 x343 x344 x345 x346 x347 x348 x349 x350 x351 x352 x353 x354 x355 x356 x357 x358 x359 x360 x361 x362 x363 x364 x365 x366 x367 x368 x369 x370 x371 x372 x373 x374 x375 x376 x377 x378 x379 x380 x381 x382 x383 x384 x385 x386 x387 x388 x389 x390 x391 x392 x393 x394 x395 x396 x397 x398 x399 x400 x401 x402 x403 x404 x405 x406 x407 x408 x409 x410 x411 x412 x413 x414 x415 HK0 bW e7 e8
  have HK := Lib.hid HK0
  have hM := HK0.hM
  have Oa := Lib.hid HK0.oa
  have Ob := Lib.hid HK0.ob
  have ha2 := HK0.a2
  have ha6 := HK0.a6
  have hb2 := HK0.b2
  have hb4 := HK0.b4
  have Rc := Lib.hid HK0.rc
  have Rm := Lib.hid HK0.rm
  have Hm := Lib.hid (show primeB (M : Int) = true from primeB_iff.2 (by omega))
  have hm2 : (2 : Int) ≤ M ∧ (M : Int) ≤ 7 := by omega
  have HFa := Lib.hid (facs_of Hm.out Oa.out ha2 ha6)
  have HFb := Lib.hid (facs_of Hm.out Ob.out hb2 (by omega))
  clear HK0
  conv => arg 2; whnf
  have BW := Lib.hid bW
  have E7 := Lib.hid e7
  have E8 := Lib.hid e8
  clear bW e7 e8
  obtain ⟨p7, q7, x7, r7⟩ := E7.out
  have R7 := Lib.hid r7
  have l7 := World.block_lt_of_cell? _ _ x7
  simp only at l7
  clear r7
  obtain ⟨p8, q8, x8, r8⟩ := E8.out
  have R8 := Lib.hid r8
  have l8 := World.block_lt_of_cell? _ _ x8
  simp only at l8
  clear r8
  have HC := Lib.hid (common_good Hm.out Oa.out Ob.out ha2 (by omega) (by omega))
  generalize hcc : monicS (M : Int) (gcdZ (M : Int) a b) = C at *
  have Hcc := Lib.hid hcc
  clear hcc
  have hCl := HC.out.2.2.1
  go_wp2_with fail
  (go_at_call 34; ((with_reducible refine (CommonOver_impl _ _ a b (M : Int) _ (R7.out.below (by (repeat' (first | (with_reducible exact Below.refl _ _) | (with_reducible assumption) | (with_reducible refine Below.alloc ?_ ?_ _) | (with_reducible refine Below.setCell ?_ ?_ _) | (with_reducible refine Below.drew ?_) | (with_reducible refine Below.via (by assumption) ?_ ?_) | go_size)))) (R8.out.below (by (repeat' (first | (with_reducible exact Below.refl _ _) | (with_reducible assumption) | (with_reducible refine Below.alloc ?_ ?_ _) | (with_reducible refine Below.setCell ?_ ?_ _) | (with_reducible refine Below.drew ?_) | (with_reducible refine Below.via (by assumption) ?_ ?_) | go_size)))) (by omega) (by omega)).mono ?_); rintro e w1 ⟨v1, rfl, o1, b1⟩))
  rw [HC.out.1] at o1
  rw [HC.out.1]
  have O1 := Lib.hid o1
  have hB1 := (show Below wr.heap.size wr w1 by (repeat' (first | (with_reducible exact Below.refl _ _) | (with_reducible assumption) | (with_reducible refine Below.alloc ?_ ?_ _) | (with_reducible refine Below.setCell ?_ ?_ _) | (with_reducible refine Below.drew ?_) | (with_reducible refine Below.via (by assumption) ?_ ?_) | go_size)))
  obtain ⟨p29, q29, rfl⟩ := o1.rd.shape
  clear o1 b1
  replace x7 := (hB1.cell (p := ⟨a7, 0, none⟩) l7).trans x7
  replace l7 := World.block_lt_of_cell? _ _ x7
  simp only at l7
  replace x8 := (hB1.cell (p := ⟨a8, 0, none⟩) l8).trans x8
  replace l8 := World.block_lt_of_cell? _ _ x8
  simp only at l8
  replace R7 := Lib.hid (R7.out.below hB1)
  replace R8 := Lib.hid (R8.out.below hB1)
  have zz_w1 := hB1.size
  replace BW := Lib.hid (show Below w.heap.size w w1 from BW.out.trans (hB1.mono BW.out.size))
  clear hB1
  go_upto_region 41 with fail
  generalize hg2 : World.alloc _ _ = W2
  have Hg2 := Lib.hid hg2
  clear hg2
  have hB2 := (show Below w1.heap.size w1 W2 by rw [← Hg2.out]; (repeat' (first | (with_reducible exact Below.refl _ _) | (with_reducible assumption) | (with_reducible refine Below.alloc ?_ ?_ _) | (with_reducible refine Below.setCell ?_ ?_ _) | (with_reducible refine Below.drew ?_) | (with_reducible refine Below.via (by assumption) ?_ ?_) | go_size)))
  have x29 : W2.cell? ⟨w1.heap.size, 0, none⟩ = some (.slice p29 C.length q29) := by rw [← Hg2.out]; go_simp
  have l29 := World.block_lt_of_cell? _ _ x29
  simp only at l29
  clear Hg2
  replace x7 := (hB2.cell (p := ⟨a7, 0, none⟩) l7).trans x7
  replace l7 := World.block_lt_of_cell? _ _ x7
  simp only at l7
  replace x8 := (hB2.cell (p := ⟨a8, 0, none⟩) l8).trans x8
  replace l8 := World.block_lt_of_cell? _ _ x8
  simp only at l8
  replace R7 := Lib.hid (R7.out.below hB2)
  replace R8 := Lib.hid (R8.out.below hB2)
  replace O1 := Lib.hid (O1.out.below hB2)
  have zz_W2 := hB2.size
  replace BW := Lib.hid (show Below w.heap.size w W2 from BW.out.trans (hB2.mono BW.out.size))
  clear hB2
  go_wp2_with fail
  (go_at_call 61; ((with_reducible refine (DivideOver_spec _ _ a C (M : Int) _ (R7.out.below (by (repeat' (first | (with_reducible exact Below.refl _ _) | (with_reducible assumption) | (with_reducible refine Below.alloc ?_ ?_ _) | (with_reducible refine Below.setCell ?_ ?_ _) | (with_reducible refine Below.drew ?_) | (with_reducible refine Below.via (by assumption) ?_ ?_) | go_size)))) (O1.out.rd.below (by (repeat' (first | (with_reducible exact Below.refl _ _) | (with_reducible assumption) | (with_reducible refine Below.alloc ?_ ?_ _) | (with_reducible refine Below.setCell ?_ ?_ _) | (with_reducible refine Below.drew ?_) | (with_reducible refine Below.via (by assumption) ?_ ?_) | go_size)))) Hm.out Oa.out HC.out.2.1 (by omega) (by omega) HC.out.2.2.2.1).mono ?_); rintro e w3 ⟨v3, u3, rfl, o3, n3, b3⟩))
  rw [HC.out.2.2.2.2] at n3
  have O3 := Lib.hid o3
  have N3 := Lib.hid n3
  have hB3 := (show Below W2.heap.size W2 w3 by (repeat' (first | (with_reducible exact Below.refl _ _) | (with_reducible assumption) | (with_reducible refine Below.alloc ?_ ?_ _) | (with_reducible refine Below.setCell ?_ ?_ _) | (with_reducible refine Below.drew ?_) | (with_reducible refine Below.via (by assumption) ?_ ?_) | go_size)))
  obtain ⟨p31, q31, rfl⟩ := o3.rd.shape
  obtain ⟨p32, q32, rfl⟩ := n3.rd.shape
  clear o3 n3 b3
  replace x7 := (hB3.cell (p := ⟨a7, 0, none⟩) l7).trans x7
  replace l7 := World.block_lt_of_cell? _ _ x7
  simp only at l7
  replace x8 := (hB3.cell (p := ⟨a8, 0, none⟩) l8).trans x8
  replace l8 := World.block_lt_of_cell? _ _ x8
  simp only at l8
  replace x29 := (hB3.cell (p := ⟨w1.heap.size, 0, none⟩) l29).trans x29
  replace l29 := World.block_lt_of_cell? _ _ x29
  simp only at l29
  replace R7 := Lib.hid (R7.out.below hB3)
  replace R8 := Lib.hid (R8.out.below hB3)
  replace O1 := Lib.hid (O1.out.below hB3)
  have zz_w3 := hB3.size
  replace BW := Lib.hid (show Below w.heap.size w w3 from BW.out.trans (hB3.mono BW.out.size))
  clear hB3
  go_upto_region 42 with fail
  generalize hg4 : World.alloc _ _ = W4
  have Hg4 := Lib.hid hg4
  clear hg4
  have hB4 := (show Below w3.heap.size w3 W4 by rw [← Hg4.out]; (repeat' (first | (with_reducible exact Below.refl _ _) | (with_reducible assumption) | (with_reducible refine Below.alloc ?_ ?_ _) | (with_reducible refine Below.setCell ?_ ?_ _) | (with_reducible refine Below.drew ?_) | (with_reducible refine Below.via (by assumption) ?_ ?_) | go_size)))
  have x32 : W4.cell? ⟨w3.heap.size + 1, 0, none⟩ = some (.slice p32 ([0] : List Int).length q32) := by rw [← Hg4.out]; go_simp
  have l32 := World.block_lt_of_cell? _ _ x32
  simp only at l32
  clear Hg4
  replace x7 := (hB4.cell (p := ⟨a7, 0, none⟩) l7).trans x7
  replace l7 := World.block_lt_of_cell? _ _ x7
  simp only at l7
  replace x8 := (hB4.cell (p := ⟨a8, 0, none⟩) l8).trans x8
  replace l8 := World.block_lt_of_cell? _ _ x8
  simp only at l8
  replace x29 := (hB4.cell (p := ⟨w1.heap.size, 0, none⟩) l29).trans x29
  replace l29 := World.block_lt_of_cell? _ _ x29
  simp only at l29
  replace R7 := Lib.hid (R7.out.below hB4)
  replace R8 := Lib.hid (R8.out.below hB4)
  replace O1 := Lib.hid (O1.out.below hB4)
  replace N3 := Lib.hid (N3.out.below hB4)
  have zz_W4 := hB4.size
  replace BW := Lib.hid (show Below w.heap.size w W4 from BW.out.trans (hB4.mono BW.out.size))
  clear hB4
  go_wp2_with fail
  (go_at_call 14; ((with_reducible refine (b10At_law _ more 2 20 _ (Rm.out.below BW.out) (by omega) (by omega) (by omega) (by omega)).mono ?_); rintro e w' ⟨im, rfl, him0, him1, rfl⟩))
  go_wp2_with fail
  (go_at_call 14; ((with_reducible refine (b10At_law _ more 3 20 _ (Rm.out.below BW.out) (by omega) (by omega) (by omega) (by omega)).mono ?_); rintro e w' ⟨jn, rfl, hjn0, hjn1, rfl⟩))
  have hij : IntKind.i64.wrap (im + jn) = im + jn := IntWalk.i64_in _ ⟨by omega, by omega⟩
  have HPi := Lib.hid (pow_good Hm.out Oa.out ha2 (show a.length ≤ 17 by omega) him0 (show im ≤ 1000 by omega))
  have HPj := Lib.hid (pow_good Hm.out Oa.out ha2 (show a.length ≤ 17 by omega) hjn0 (show jn ≤ 1000 by omega))
  have HPk := Lib.hid (pow_good Hm.out Oa.out ha2 (show a.length ≤ 17 by omega) (show 0 ≤ im + jn by omega) (show im + jn ≤ 1000 by omega))
  have HRule := Lib.hid (show remF (M : Int) a (mulF (M : Int) (powZ (M : Int) a im.toNat [1] (remF (M : Int) a [0, 1])) (powZ (M : Int) a jn.toNat [1] (remF (M : Int) a [0, 1]))) = powZ (M : Int) a (im + jn).toNat [1] (remF (M : Int) a [0, 1]) by
    rw [show (im + jn).toNat = im.toNat + jn.toNat by omega]
    exact pow_rule Hm.out ⟨Oa.out, by omega⟩ ⟨xx_ovr (by omega), by simp⟩ ha2 _ _)
  go_upto_region 45 with fail
  generalize hg5 : World.alloc _ _ = W5
  have Hg5 := Lib.hid hg5
  clear hg5
  have hB5 := (show Below W4.heap.size W4 W5 by rw [← Hg5.out]; (repeat' (first | (with_reducible exact Below.refl _ _) | (with_reducible assumption) | (with_reducible refine Below.alloc ?_ ?_ _) | (with_reducible refine Below.setCell ?_ ?_ _) | (with_reducible refine Below.drew ?_) | (with_reducible refine Below.via (by assumption) ?_ ?_) | go_size)))
  have x36 : W5.cell? ⟨W4.heap.size + 1, 0, none⟩ = some (.slice (some ⟨W4.heap.size, 0, none⟩) 2 2) := by rw [← Hg5.out]; go_simp
  have l36 := World.block_lt_of_cell? _ _ x36
  simp only at l36
  have y0 : W5.cell? ⟨W4.heap.size, 0, none⟩ = some (.int .i64 0) := by rw [← Hg5.out]; go_simp
  have y1 : W5.cell? ⟨W4.heap.size, 1, none⟩ = some (.int .i64 1) := by rw [← Hg5.out]; go_simp
  have RX := Lib.hid (show RdI W5 (.slice (some ⟨W4.heap.size, 0, none⟩) 2 2) [0, 1] from ⟨_, 2, rfl, ⟨by simp, by simp [maxLen]⟩, .inr ⟨W4.heap.size, 0, rfl, fun i hi => by
    match i, hi with
    | 0, _ => exact y0
    | 1, _ => exact y1⟩⟩)
  clear y0 y1 Hg5
  replace x7 := (hB5.cell (p := ⟨a7, 0, none⟩) l7).trans x7
  replace l7 := World.block_lt_of_cell? _ _ x7
  simp only at l7
  replace x8 := (hB5.cell (p := ⟨a8, 0, none⟩) l8).trans x8
  replace l8 := World.block_lt_of_cell? _ _ x8
  simp only at l8
  replace x29 := (hB5.cell (p := ⟨w1.heap.size, 0, none⟩) l29).trans x29
  replace l29 := World.block_lt_of_cell? _ _ x29
  simp only at l29
  replace x32 := (hB5.cell (p := ⟨w3.heap.size + 1, 0, none⟩) l32).trans x32
  replace l32 := World.block_lt_of_cell? _ _ x32
  simp only at l32
  replace R7 := Lib.hid (R7.out.below hB5)
  replace R8 := Lib.hid (R8.out.below hB5)
  replace O1 := Lib.hid (O1.out.below hB5)
  replace N3 := Lib.hid (N3.out.below hB5)
  have zz_W5 := hB5.size
  replace BW := Lib.hid (show Below w.heap.size w W5 from BW.out.trans (hB5.mono BW.out.size))
  clear hB5
  have Lpi := Lib.hid (pow_len Hm.out ⟨Oa.out, by omega⟩ ⟨xx_ovr (by omega), by simp⟩ ha2 im.toNat)
  have Lpj := Lib.hid (pow_len Hm.out ⟨Oa.out, by omega⟩ ⟨xx_ovr (by omega), by simp⟩ ha2 jn.toNat)
  have Lpk := Lib.hid (pow_len Hm.out ⟨Oa.out, by omega⟩ ⟨xx_ovr (by omega), by simp⟩ ha2 (im + jn).toNat)
  generalize powZ (M : Int) a im.toNat [1] (remF (M : Int) a [0, 1]) = Pi at *
  generalize powZ (M : Int) a jn.toNat [1] (remF (M : Int) a [0, 1]) = Pj at *
  generalize powZ (M : Int) a (im + jn).toNat [1] (remF (M : Int) a [0, 1]) = Pk at *
  have hpi := Lpi.out
  have hpj := Lpj.out
  have hpk := Lpk.out
  go_wp2_with fail
  (go_at_call 39; ((with_reducible refine (PowerOver_impl _ _ [0, 1] a im (M : Int) _ (RX.out.below (by (repeat' (first | (with_reducible exact Below.refl _ _) | (with_reducible assumption) | (with_reducible refine Below.alloc ?_ ?_ _) | (with_reducible refine Below.setCell ?_ ?_ _) | (with_reducible refine Below.drew ?_) | (with_reducible refine Below.via (by assumption) ?_ ?_) | go_size)))) (R7.out.below (by (repeat' (first | (with_reducible exact Below.refl _ _) | (with_reducible assumption) | (with_reducible refine Below.alloc ?_ ?_ _) | (with_reducible refine Below.setCell ?_ ?_ _) | (with_reducible refine Below.drew ?_) | (with_reducible refine Below.via (by assumption) ?_ ?_) | go_size)))) (by simp) (by omega)).mono ?_); rintro e w6 ⟨v6, rfl, o6, b6⟩))
  rw [HPi.out.1] at o6
  rw [HPi.out.1]
  have O6 := Lib.hid o6
  have hB6 := (show Below W5.heap.size W5 w6 by (repeat' (first | (with_reducible exact Below.refl _ _) | (with_reducible assumption) | (with_reducible refine Below.alloc ?_ ?_ _) | (with_reducible refine Below.setCell ?_ ?_ _) | (with_reducible refine Below.drew ?_) | (with_reducible refine Below.via (by assumption) ?_ ?_) | go_size)))
  obtain ⟨p37, q37, rfl⟩ := o6.rd.shape
  clear o6 b6
  replace x7 := (hB6.cell (p := ⟨a7, 0, none⟩) l7).trans x7
  replace l7 := World.block_lt_of_cell? _ _ x7
  simp only at l7
  replace x8 := (hB6.cell (p := ⟨a8, 0, none⟩) l8).trans x8
  replace l8 := World.block_lt_of_cell? _ _ x8
  simp only at l8
  replace x29 := (hB6.cell (p := ⟨w1.heap.size, 0, none⟩) l29).trans x29
  replace l29 := World.block_lt_of_cell? _ _ x29
  simp only at l29
  replace x32 := (hB6.cell (p := ⟨w3.heap.size + 1, 0, none⟩) l32).trans x32
  replace l32 := World.block_lt_of_cell? _ _ x32
  simp only at l32
  replace x36 := (hB6.cell (p := ⟨W4.heap.size + 1, 0, none⟩) l36).trans x36
  replace l36 := World.block_lt_of_cell? _ _ x36
  simp only at l36
  replace R7 := Lib.hid (R7.out.below hB6)
  replace R8 := Lib.hid (R8.out.below hB6)
  replace O1 := Lib.hid (O1.out.below hB6)
  replace N3 := Lib.hid (N3.out.below hB6)
  replace RX := Lib.hid (RX.out.below hB6)
  have zz_w6 := hB6.size
  replace BW := Lib.hid (show Below w.heap.size w w6 from BW.out.trans (hB6.mono BW.out.size))
  clear hB6
  go_upto_region 46 with fail
  generalize hg7 : World.alloc _ _ = W7
  have Hg7 := Lib.hid hg7
  clear hg7
  have hB7 := (show Below w6.heap.size w6 W7 by rw [← Hg7.out]; (repeat' (first | (with_reducible exact Below.refl _ _) | (with_reducible assumption) | (with_reducible refine Below.alloc ?_ ?_ _) | (with_reducible refine Below.setCell ?_ ?_ _) | (with_reducible refine Below.drew ?_) | (with_reducible refine Below.via (by assumption) ?_ ?_) | go_size)))
  have x37 : W7.cell? ⟨w6.heap.size, 0, none⟩ = some (.slice p37 Pi.length q37) := by rw [← Hg7.out]; go_simp
  have l37 := World.block_lt_of_cell? _ _ x37
  simp only at l37
  clear Hg7
  replace x7 := (hB7.cell (p := ⟨a7, 0, none⟩) l7).trans x7
  replace l7 := World.block_lt_of_cell? _ _ x7
  simp only at l7
  replace x8 := (hB7.cell (p := ⟨a8, 0, none⟩) l8).trans x8
  replace l8 := World.block_lt_of_cell? _ _ x8
  simp only at l8
  replace x29 := (hB7.cell (p := ⟨w1.heap.size, 0, none⟩) l29).trans x29
  replace l29 := World.block_lt_of_cell? _ _ x29
  simp only at l29
  replace x32 := (hB7.cell (p := ⟨w3.heap.size + 1, 0, none⟩) l32).trans x32
  replace l32 := World.block_lt_of_cell? _ _ x32
  simp only at l32
  replace x36 := (hB7.cell (p := ⟨W4.heap.size + 1, 0, none⟩) l36).trans x36
  replace l36 := World.block_lt_of_cell? _ _ x36
  simp only at l36
  replace R7 := Lib.hid (R7.out.below hB7)
  replace R8 := Lib.hid (R8.out.below hB7)
  replace O1 := Lib.hid (O1.out.below hB7)
  replace N3 := Lib.hid (N3.out.below hB7)
  replace RX := Lib.hid (RX.out.below hB7)
  replace O6 := Lib.hid (O6.out.below hB7)
  have zz_W7 := hB7.size
  replace BW := Lib.hid (show Below w.heap.size w W7 from BW.out.trans (hB7.mono BW.out.size))
  clear hB7
  go_wp2_with fail
  (go_at_call 39; ((with_reducible refine (PowerOver_impl _ _ [0, 1] a jn (M : Int) _ (RX.out.below (by (repeat' (first | (with_reducible exact Below.refl _ _) | (with_reducible assumption) | (with_reducible refine Below.alloc ?_ ?_ _) | (with_reducible refine Below.setCell ?_ ?_ _) | (with_reducible refine Below.drew ?_) | (with_reducible refine Below.via (by assumption) ?_ ?_) | go_size)))) (R7.out.below (by (repeat' (first | (with_reducible exact Below.refl _ _) | (with_reducible assumption) | (with_reducible refine Below.alloc ?_ ?_ _) | (with_reducible refine Below.setCell ?_ ?_ _) | (with_reducible refine Below.drew ?_) | (with_reducible refine Below.via (by assumption) ?_ ?_) | go_size)))) (by simp) (by omega)).mono ?_); rintro e w8 ⟨v8, rfl, o8, b8⟩))
  rw [HPj.out.1] at o8
  rw [HPj.out.1]
  have O8 := Lib.hid o8
  have hB8 := (show Below W7.heap.size W7 w8 by (repeat' (first | (with_reducible exact Below.refl _ _) | (with_reducible assumption) | (with_reducible refine Below.alloc ?_ ?_ _) | (with_reducible refine Below.setCell ?_ ?_ _) | (with_reducible refine Below.drew ?_) | (with_reducible refine Below.via (by assumption) ?_ ?_) | go_size)))
  obtain ⟨p39, q39, rfl⟩ := o8.rd.shape
  clear o8 b8
  replace x7 := (hB8.cell (p := ⟨a7, 0, none⟩) l7).trans x7
  replace l7 := World.block_lt_of_cell? _ _ x7
  simp only at l7
  replace x8 := (hB8.cell (p := ⟨a8, 0, none⟩) l8).trans x8
  replace l8 := World.block_lt_of_cell? _ _ x8
  simp only at l8
  replace x29 := (hB8.cell (p := ⟨w1.heap.size, 0, none⟩) l29).trans x29
  replace l29 := World.block_lt_of_cell? _ _ x29
  simp only at l29
  replace x32 := (hB8.cell (p := ⟨w3.heap.size + 1, 0, none⟩) l32).trans x32
  replace l32 := World.block_lt_of_cell? _ _ x32
  simp only at l32
  replace x36 := (hB8.cell (p := ⟨W4.heap.size + 1, 0, none⟩) l36).trans x36
  replace l36 := World.block_lt_of_cell? _ _ x36
  simp only at l36
  replace x37 := (hB8.cell (p := ⟨w6.heap.size, 0, none⟩) l37).trans x37
  replace l37 := World.block_lt_of_cell? _ _ x37
  simp only at l37
  replace R7 := Lib.hid (R7.out.below hB8)
  replace R8 := Lib.hid (R8.out.below hB8)
  replace O1 := Lib.hid (O1.out.below hB8)
  replace N3 := Lib.hid (N3.out.below hB8)
  replace RX := Lib.hid (RX.out.below hB8)
  replace O6 := Lib.hid (O6.out.below hB8)
  have zz_w8 := hB8.size
  replace BW := Lib.hid (show Below w.heap.size w w8 from BW.out.trans (hB8.mono BW.out.size))
  clear hB8
  go_upto_region 47 with fail
  generalize hg9 : World.alloc _ _ = W9
  have Hg9 := Lib.hid hg9
  clear hg9
  have hB9 := (show Below w8.heap.size w8 W9 by rw [← Hg9.out]; (repeat' (first | (with_reducible exact Below.refl _ _) | (with_reducible assumption) | (with_reducible refine Below.alloc ?_ ?_ _) | (with_reducible refine Below.setCell ?_ ?_ _) | (with_reducible refine Below.drew ?_) | (with_reducible refine Below.via (by assumption) ?_ ?_) | go_size)))
  have x39 : W9.cell? ⟨w8.heap.size, 0, none⟩ = some (.slice p39 Pj.length q39) := by rw [← Hg9.out]; go_simp
  have l39 := World.block_lt_of_cell? _ _ x39
  simp only at l39
  clear Hg9
  replace x7 := (hB9.cell (p := ⟨a7, 0, none⟩) l7).trans x7
  replace l7 := World.block_lt_of_cell? _ _ x7
  simp only at l7
  replace x8 := (hB9.cell (p := ⟨a8, 0, none⟩) l8).trans x8
  replace l8 := World.block_lt_of_cell? _ _ x8
  simp only at l8
  replace x29 := (hB9.cell (p := ⟨w1.heap.size, 0, none⟩) l29).trans x29
  replace l29 := World.block_lt_of_cell? _ _ x29
  simp only at l29
  replace x32 := (hB9.cell (p := ⟨w3.heap.size + 1, 0, none⟩) l32).trans x32
  replace l32 := World.block_lt_of_cell? _ _ x32
  simp only at l32
  replace x36 := (hB9.cell (p := ⟨W4.heap.size + 1, 0, none⟩) l36).trans x36
  replace l36 := World.block_lt_of_cell? _ _ x36
  simp only at l36
  replace x37 := (hB9.cell (p := ⟨w6.heap.size, 0, none⟩) l37).trans x37
  replace l37 := World.block_lt_of_cell? _ _ x37
  simp only at l37
  replace R7 := Lib.hid (R7.out.below hB9)
  replace R8 := Lib.hid (R8.out.below hB9)
  replace O1 := Lib.hid (O1.out.below hB9)
  replace N3 := Lib.hid (N3.out.below hB9)
  replace RX := Lib.hid (RX.out.below hB9)
  replace O6 := Lib.hid (O6.out.below hB9)
  replace O8 := Lib.hid (O8.out.below hB9)
  have zz_W9 := hB9.size
  replace BW := Lib.hid (show Below w.heap.size w W9 from BW.out.trans (hB9.mono BW.out.size))
  clear hB9
  go_wp2_with fail
  (go_at_call 39; ((with_reducible refine (PowerOver_impl _ _ [0, 1] a (im + jn) (M : Int) _ (RX.out.below (by (repeat' (first | (with_reducible exact Below.refl _ _) | (with_reducible assumption) | (with_reducible refine Below.alloc ?_ ?_ _) | (with_reducible refine Below.setCell ?_ ?_ _) | (with_reducible refine Below.drew ?_) | (with_reducible refine Below.via (by assumption) ?_ ?_) | go_size)))) (R7.out.below (by (repeat' (first | (with_reducible exact Below.refl _ _) | (with_reducible assumption) | (with_reducible refine Below.alloc ?_ ?_ _) | (with_reducible refine Below.setCell ?_ ?_ _) | (with_reducible refine Below.drew ?_) | (with_reducible refine Below.via (by assumption) ?_ ?_) | go_size)))) (by simp) (by omega)).mono ?_); rintro e w10 ⟨v10, rfl, o10, b10⟩))
  rw [HPk.out.1] at o10
  rw [HPk.out.1]
  have O10 := Lib.hid o10
  have hB10 := (show Below W9.heap.size W9 w10 by (repeat' (first | (with_reducible exact Below.refl _ _) | (with_reducible assumption) | (with_reducible refine Below.alloc ?_ ?_ _) | (with_reducible refine Below.setCell ?_ ?_ _) | (with_reducible refine Below.drew ?_) | (with_reducible refine Below.via (by assumption) ?_ ?_) | go_size)))
  obtain ⟨p41, q41, rfl⟩ := o10.rd.shape
  clear o10 b10
  replace x7 := (hB10.cell (p := ⟨a7, 0, none⟩) l7).trans x7
  replace l7 := World.block_lt_of_cell? _ _ x7
  simp only at l7
  replace x8 := (hB10.cell (p := ⟨a8, 0, none⟩) l8).trans x8
  replace l8 := World.block_lt_of_cell? _ _ x8
  simp only at l8
  replace x29 := (hB10.cell (p := ⟨w1.heap.size, 0, none⟩) l29).trans x29
  replace l29 := World.block_lt_of_cell? _ _ x29
  simp only at l29
  replace x32 := (hB10.cell (p := ⟨w3.heap.size + 1, 0, none⟩) l32).trans x32
  replace l32 := World.block_lt_of_cell? _ _ x32
  simp only at l32
  replace x36 := (hB10.cell (p := ⟨W4.heap.size + 1, 0, none⟩) l36).trans x36
  replace l36 := World.block_lt_of_cell? _ _ x36
  simp only at l36
  replace x37 := (hB10.cell (p := ⟨w6.heap.size, 0, none⟩) l37).trans x37
  replace l37 := World.block_lt_of_cell? _ _ x37
  simp only at l37
  replace x39 := (hB10.cell (p := ⟨w8.heap.size, 0, none⟩) l39).trans x39
  replace l39 := World.block_lt_of_cell? _ _ x39
  simp only at l39
  replace R7 := Lib.hid (R7.out.below hB10)
  replace R8 := Lib.hid (R8.out.below hB10)
  replace O1 := Lib.hid (O1.out.below hB10)
  replace N3 := Lib.hid (N3.out.below hB10)
  replace RX := Lib.hid (RX.out.below hB10)
  replace O6 := Lib.hid (O6.out.below hB10)
  replace O8 := Lib.hid (O8.out.below hB10)
  have zz_w10 := hB10.size
  replace BW := Lib.hid (show Below w.heap.size w w10 from BW.out.trans (hB10.mono BW.out.size))
  clear hB10
  go_upto_region 48 with fail
  generalize hg11 : World.alloc _ _ = W11
  have Hg11 := Lib.hid hg11
  clear hg11
  have hB11 := (show Below w10.heap.size w10 W11 by rw [← Hg11.out]; (repeat' (first | (with_reducible exact Below.refl _ _) | (with_reducible assumption) | (with_reducible refine Below.alloc ?_ ?_ _) | (with_reducible refine Below.setCell ?_ ?_ _) | (with_reducible refine Below.drew ?_) | (with_reducible refine Below.via (by assumption) ?_ ?_) | go_size)))
  have x41 : W11.cell? ⟨w10.heap.size, 0, none⟩ = some (.slice p41 Pk.length q41) := by rw [← Hg11.out]; go_simp
  have l41 := World.block_lt_of_cell? _ _ x41
  simp only at l41
  clear Hg11
  replace x7 := (hB11.cell (p := ⟨a7, 0, none⟩) l7).trans x7
  replace l7 := World.block_lt_of_cell? _ _ x7
  simp only at l7
  replace x8 := (hB11.cell (p := ⟨a8, 0, none⟩) l8).trans x8
  replace l8 := World.block_lt_of_cell? _ _ x8
  simp only at l8
  replace x29 := (hB11.cell (p := ⟨w1.heap.size, 0, none⟩) l29).trans x29
  replace l29 := World.block_lt_of_cell? _ _ x29
  simp only at l29
  replace x32 := (hB11.cell (p := ⟨w3.heap.size + 1, 0, none⟩) l32).trans x32
  replace l32 := World.block_lt_of_cell? _ _ x32
  simp only at l32
  replace x36 := (hB11.cell (p := ⟨W4.heap.size + 1, 0, none⟩) l36).trans x36
  replace l36 := World.block_lt_of_cell? _ _ x36
  simp only at l36
  replace x37 := (hB11.cell (p := ⟨w6.heap.size, 0, none⟩) l37).trans x37
  replace l37 := World.block_lt_of_cell? _ _ x37
  simp only at l37
  replace x39 := (hB11.cell (p := ⟨w8.heap.size, 0, none⟩) l39).trans x39
  replace l39 := World.block_lt_of_cell? _ _ x39
  simp only at l39
  replace R7 := Lib.hid (R7.out.below hB11)
  replace R8 := Lib.hid (R8.out.below hB11)
  replace O1 := Lib.hid (O1.out.below hB11)
  replace N3 := Lib.hid (N3.out.below hB11)
  replace RX := Lib.hid (RX.out.below hB11)
  replace O6 := Lib.hid (O6.out.below hB11)
  replace O8 := Lib.hid (O8.out.below hB11)
  replace O10 := Lib.hid (O10.out.below hB11)
  have zz_W11 := hB11.size
  replace BW := Lib.hid (show Below w.heap.size w W11 from BW.out.trans (hB11.mono BW.out.size))
  clear hB11
  have hml := mulF_len (M : Int) Pi Pj
  go_wp2_with fail
  (go_at_call 59; ((with_reducible refine (MulOver_spec _ _ Pi Pj (M : Int) _ (O6.out.rd.below (by (repeat' (first | (with_reducible exact Below.refl _ _) | (with_reducible assumption) | (with_reducible refine Below.alloc ?_ ?_ _) | (with_reducible refine Below.setCell ?_ ?_ _) | (with_reducible refine Below.drew ?_) | (with_reducible refine Below.via (by assumption) ?_ ?_) | go_size)))) (O8.out.rd.below (by (repeat' (first | (with_reducible exact Below.refl _ _) | (with_reducible assumption) | (with_reducible refine Below.alloc ?_ ?_ _) | (with_reducible refine Below.setCell ?_ ?_ _) | (with_reducible refine Below.drew ?_) | (with_reducible refine Below.via (by assumption) ?_ ?_) | go_size)))) Hm.out HPi.out.2.ovr HPj.out.2.ovr (by omega) (by omega) (by omega)).mono ?_); rintro e w12 ⟨v12, rfl, o12, b12⟩))
  have O12 := Lib.hid o12
  have hB12 := (show Below W11.heap.size W11 w12 by (repeat' (first | (with_reducible exact Below.refl _ _) | (with_reducible assumption) | (with_reducible refine Below.alloc ?_ ?_ _) | (with_reducible refine Below.setCell ?_ ?_ _) | (with_reducible refine Below.drew ?_) | (with_reducible refine Below.via (by assumption) ?_ ?_) | go_size)))
  obtain ⟨p43, q43, rfl⟩ := o12.rd.shape
  clear o12 b12
  replace x7 := (hB12.cell (p := ⟨a7, 0, none⟩) l7).trans x7
  replace l7 := World.block_lt_of_cell? _ _ x7
  simp only at l7
  replace x8 := (hB12.cell (p := ⟨a8, 0, none⟩) l8).trans x8
  replace l8 := World.block_lt_of_cell? _ _ x8
  simp only at l8
  replace x29 := (hB12.cell (p := ⟨w1.heap.size, 0, none⟩) l29).trans x29
  replace l29 := World.block_lt_of_cell? _ _ x29
  simp only at l29
  replace x32 := (hB12.cell (p := ⟨w3.heap.size + 1, 0, none⟩) l32).trans x32
  replace l32 := World.block_lt_of_cell? _ _ x32
  simp only at l32
  replace x36 := (hB12.cell (p := ⟨W4.heap.size + 1, 0, none⟩) l36).trans x36
  replace l36 := World.block_lt_of_cell? _ _ x36
  simp only at l36
  replace x37 := (hB12.cell (p := ⟨w6.heap.size, 0, none⟩) l37).trans x37
  replace l37 := World.block_lt_of_cell? _ _ x37
  simp only at l37
  replace x39 := (hB12.cell (p := ⟨w8.heap.size, 0, none⟩) l39).trans x39
  replace l39 := World.block_lt_of_cell? _ _ x39
  simp only at l39
  replace x41 := (hB12.cell (p := ⟨w10.heap.size, 0, none⟩) l41).trans x41
  replace l41 := World.block_lt_of_cell? _ _ x41
  simp only at l41
  replace R7 := Lib.hid (R7.out.below hB12)
  replace R8 := Lib.hid (R8.out.below hB12)
  replace O1 := Lib.hid (O1.out.below hB12)
  replace N3 := Lib.hid (N3.out.below hB12)
  replace RX := Lib.hid (RX.out.below hB12)
  replace O6 := Lib.hid (O6.out.below hB12)
  replace O8 := Lib.hid (O8.out.below hB12)
  replace O10 := Lib.hid (O10.out.below hB12)
  have zz_w12 := hB12.size
  replace BW := Lib.hid (show Below w.heap.size w w12 from BW.out.trans (hB12.mono BW.out.size))
  clear hB12
  have Ouv := Lib.hid (mulF_ovr (m := (M : Int)) (by omega) HPi.out.2.ovr HPj.out.2.ovr (by omega))
  generalize mulF (M : Int) Pi Pj = UV at *
  go_upto_region 49 with fail
  generalize hg13 : World.alloc _ _ = W13
  have Hg13 := Lib.hid hg13
  clear hg13
  have hB13 := (show Below w12.heap.size w12 W13 by rw [← Hg13.out]; (repeat' (first | (with_reducible exact Below.refl _ _) | (with_reducible assumption) | (with_reducible refine Below.alloc ?_ ?_ _) | (with_reducible refine Below.setCell ?_ ?_ _) | (with_reducible refine Below.drew ?_) | (with_reducible refine Below.via (by assumption) ?_ ?_) | go_size)))
  have x43 : W13.cell? ⟨w12.heap.size, 0, none⟩ = some (.slice p43 UV.length q43) := by rw [← Hg13.out]; go_simp
  have l43 := World.block_lt_of_cell? _ _ x43
  simp only at l43
  clear Hg13
  replace x7 := (hB13.cell (p := ⟨a7, 0, none⟩) l7).trans x7
  replace l7 := World.block_lt_of_cell? _ _ x7
  simp only at l7
  replace x8 := (hB13.cell (p := ⟨a8, 0, none⟩) l8).trans x8
  replace l8 := World.block_lt_of_cell? _ _ x8
  simp only at l8
  replace x29 := (hB13.cell (p := ⟨w1.heap.size, 0, none⟩) l29).trans x29
  replace l29 := World.block_lt_of_cell? _ _ x29
  simp only at l29
  replace x32 := (hB13.cell (p := ⟨w3.heap.size + 1, 0, none⟩) l32).trans x32
  replace l32 := World.block_lt_of_cell? _ _ x32
  simp only at l32
  replace x36 := (hB13.cell (p := ⟨W4.heap.size + 1, 0, none⟩) l36).trans x36
  replace l36 := World.block_lt_of_cell? _ _ x36
  simp only at l36
  replace x37 := (hB13.cell (p := ⟨w6.heap.size, 0, none⟩) l37).trans x37
  replace l37 := World.block_lt_of_cell? _ _ x37
  simp only at l37
  replace x39 := (hB13.cell (p := ⟨w8.heap.size, 0, none⟩) l39).trans x39
  replace l39 := World.block_lt_of_cell? _ _ x39
  simp only at l39
  replace x41 := (hB13.cell (p := ⟨w10.heap.size, 0, none⟩) l41).trans x41
  replace l41 := World.block_lt_of_cell? _ _ x41
  simp only at l41
  replace R7 := Lib.hid (R7.out.below hB13)
  replace R8 := Lib.hid (R8.out.below hB13)
  replace O1 := Lib.hid (O1.out.below hB13)
  replace N3 := Lib.hid (N3.out.below hB13)
  replace RX := Lib.hid (RX.out.below hB13)
  replace O6 := Lib.hid (O6.out.below hB13)
  replace O8 := Lib.hid (O8.out.below hB13)
  replace O10 := Lib.hid (O10.out.below hB13)
  replace O12 := Lib.hid (O12.out.below hB13)
  have zz_W13 := hB13.size
  replace BW := Lib.hid (show Below w.heap.size w W13 from BW.out.trans (hB13.mono BW.out.size))
  clear hB13
  have HR2 := Lib.hid (show (divF UV a (M : Int)).2 = Pk from HRule.out)
  go_wp2_with fail
  (go_at_call 61; ((with_reducible refine (DivideOver_spec _ _ UV a (M : Int) _ (O12.out.rd.below (by (repeat' (first | (with_reducible exact Below.refl _ _) | (with_reducible assumption) | (with_reducible refine Below.alloc ?_ ?_ _) | (with_reducible refine Below.setCell ?_ ?_ _) | (with_reducible refine Below.drew ?_) | (with_reducible refine Below.via (by assumption) ?_ ?_) | go_size)))) (R7.out.below (by (repeat' (first | (with_reducible exact Below.refl _ _) | (with_reducible assumption) | (with_reducible refine Below.alloc ?_ ?_ _) | (with_reducible refine Below.setCell ?_ ?_ _) | (with_reducible refine Below.drew ?_) | (with_reducible refine Below.via (by assumption) ?_ ?_) | go_size)))) Hm.out Ouv.out Oa.out (by omega) (by omega) (long_zero ha2)).mono ?_); rintro e w14 ⟨v14, u14, rfl, o14, n14, b14⟩))
  rw [HR2.out] at n14
  have N14 := Lib.hid n14
  have hB14 := (show Below W13.heap.size W13 w14 by (repeat' (first | (with_reducible exact Below.refl _ _) | (with_reducible assumption) | (with_reducible refine Below.alloc ?_ ?_ _) | (with_reducible refine Below.setCell ?_ ?_ _) | (with_reducible refine Below.drew ?_) | (with_reducible refine Below.via (by assumption) ?_ ?_) | go_size)))
  obtain ⟨p45, q45, rfl⟩ := o14.rd.shape
  obtain ⟨p46, q46, rfl⟩ := n14.rd.shape
  clear o14 n14 b14
  replace x7 := (hB14.cell (p := ⟨a7, 0, none⟩) l7).trans x7
  replace l7 := World.block_lt_of_cell? _ _ x7
  simp only at l7
  replace x8 := (hB14.cell (p := ⟨a8, 0, none⟩) l8).trans x8
  replace l8 := World.block_lt_of_cell? _ _ x8
  simp only at l8
  replace x29 := (hB14.cell (p := ⟨w1.heap.size, 0, none⟩) l29).trans x29
  replace l29 := World.block_lt_of_cell? _ _ x29
  simp only at l29
  replace x32 := (hB14.cell (p := ⟨w3.heap.size + 1, 0, none⟩) l32).trans x32
  replace l32 := World.block_lt_of_cell? _ _ x32
  simp only at l32
  replace x36 := (hB14.cell (p := ⟨W4.heap.size + 1, 0, none⟩) l36).trans x36
  replace l36 := World.block_lt_of_cell? _ _ x36
  simp only at l36
  replace x37 := (hB14.cell (p := ⟨w6.heap.size, 0, none⟩) l37).trans x37
  replace l37 := World.block_lt_of_cell? _ _ x37
  simp only at l37
  replace x39 := (hB14.cell (p := ⟨w8.heap.size, 0, none⟩) l39).trans x39
  replace l39 := World.block_lt_of_cell? _ _ x39
  simp only at l39
  replace x41 := (hB14.cell (p := ⟨w10.heap.size, 0, none⟩) l41).trans x41
  replace l41 := World.block_lt_of_cell? _ _ x41
  simp only at l41
  replace x43 := (hB14.cell (p := ⟨w12.heap.size, 0, none⟩) l43).trans x43
  replace l43 := World.block_lt_of_cell? _ _ x43
  simp only at l43
  replace R7 := Lib.hid (R7.out.below hB14)
  replace R8 := Lib.hid (R8.out.below hB14)
  replace O1 := Lib.hid (O1.out.below hB14)
  replace N3 := Lib.hid (N3.out.below hB14)
  replace RX := Lib.hid (RX.out.below hB14)
  replace O6 := Lib.hid (O6.out.below hB14)
  replace O8 := Lib.hid (O8.out.below hB14)
  replace O10 := Lib.hid (O10.out.below hB14)
  replace O12 := Lib.hid (O12.out.below hB14)
  have zz_w14 := hB14.size
  replace BW := Lib.hid (show Below w.heap.size w w14 from BW.out.trans (hB14.mono BW.out.size))
  clear hB14
  go_upto_region 50 with fail
  generalize hg15 : World.alloc _ _ = W15
  have Hg15 := Lib.hid hg15
  clear hg15
  have hB15 := (show Below w14.heap.size w14 W15 by rw [← Hg15.out]; (repeat' (first | (with_reducible exact Below.refl _ _) | (with_reducible assumption) | (with_reducible refine Below.alloc ?_ ?_ _) | (with_reducible refine Below.setCell ?_ ?_ _) | (with_reducible refine Below.drew ?_) | (with_reducible refine Below.via (by assumption) ?_ ?_) | go_size)))
  have x46 : W15.cell? ⟨w14.heap.size + 1, 0, none⟩ = some (.slice p46 Pk.length q46) := by rw [← Hg15.out]; go_simp
  have l46 := World.block_lt_of_cell? _ _ x46
  simp only at l46
  clear Hg15
  replace x7 := (hB15.cell (p := ⟨a7, 0, none⟩) l7).trans x7
  replace l7 := World.block_lt_of_cell? _ _ x7
  simp only at l7
  replace x8 := (hB15.cell (p := ⟨a8, 0, none⟩) l8).trans x8
  replace l8 := World.block_lt_of_cell? _ _ x8
  simp only at l8
  replace x29 := (hB15.cell (p := ⟨w1.heap.size, 0, none⟩) l29).trans x29
  replace l29 := World.block_lt_of_cell? _ _ x29
  simp only at l29
  replace x32 := (hB15.cell (p := ⟨w3.heap.size + 1, 0, none⟩) l32).trans x32
  replace l32 := World.block_lt_of_cell? _ _ x32
  simp only at l32
  replace x36 := (hB15.cell (p := ⟨W4.heap.size + 1, 0, none⟩) l36).trans x36
  replace l36 := World.block_lt_of_cell? _ _ x36
  simp only at l36
  replace x37 := (hB15.cell (p := ⟨w6.heap.size, 0, none⟩) l37).trans x37
  replace l37 := World.block_lt_of_cell? _ _ x37
  simp only at l37
  replace x39 := (hB15.cell (p := ⟨w8.heap.size, 0, none⟩) l39).trans x39
  replace l39 := World.block_lt_of_cell? _ _ x39
  simp only at l39
  replace x41 := (hB15.cell (p := ⟨w10.heap.size, 0, none⟩) l41).trans x41
  replace l41 := World.block_lt_of_cell? _ _ x41
  simp only at l41
  replace x43 := (hB15.cell (p := ⟨w12.heap.size, 0, none⟩) l43).trans x43
  replace l43 := World.block_lt_of_cell? _ _ x43
  simp only at l43
  replace R7 := Lib.hid (R7.out.below hB15)
  replace R8 := Lib.hid (R8.out.below hB15)
  replace O1 := Lib.hid (O1.out.below hB15)
  replace N3 := Lib.hid (N3.out.below hB15)
  replace RX := Lib.hid (RX.out.below hB15)
  replace O6 := Lib.hid (O6.out.below hB15)
  replace O8 := Lib.hid (O8.out.below hB15)
  replace O10 := Lib.hid (O10.out.below hB15)
  replace O12 := Lib.hid (O12.out.below hB15)
  replace N14 := Lib.hid (N14.out.below hB15)
  have zz_W15 := hB15.size
  replace BW := Lib.hid (show Below w.heap.size w W15 from BW.out.trans (hB15.mono BW.out.size))
  clear hB15
  go_wp2_with fail
  (go_at_call 62; ((with_reducible refine (CountPrimes_impl (M : Int) _ (by omega)).mono ?_); rintro e w16 ⟨rfl, b16⟩))
  have hB16 := (show Below W15.heap.size W15 w16 by (repeat' (first | (with_reducible exact Below.refl _ _) | (with_reducible assumption) | (with_reducible refine Below.alloc ?_ ?_ _) | (with_reducible refine Below.setCell ?_ ?_ _) | (with_reducible refine Below.drew ?_) | (with_reducible refine Below.via (by assumption) ?_ ?_) | go_size)))
  clear b16
  replace x7 := (hB16.cell (p := ⟨a7, 0, none⟩) l7).trans x7
  replace l7 := World.block_lt_of_cell? _ _ x7
  simp only at l7
  replace x8 := (hB16.cell (p := ⟨a8, 0, none⟩) l8).trans x8
  replace l8 := World.block_lt_of_cell? _ _ x8
  simp only at l8
  replace x29 := (hB16.cell (p := ⟨w1.heap.size, 0, none⟩) l29).trans x29
  replace l29 := World.block_lt_of_cell? _ _ x29
  simp only at l29
  replace x32 := (hB16.cell (p := ⟨w3.heap.size + 1, 0, none⟩) l32).trans x32
  replace l32 := World.block_lt_of_cell? _ _ x32
  simp only at l32
  replace x36 := (hB16.cell (p := ⟨W4.heap.size + 1, 0, none⟩) l36).trans x36
  replace l36 := World.block_lt_of_cell? _ _ x36
  simp only at l36
  replace x37 := (hB16.cell (p := ⟨w6.heap.size, 0, none⟩) l37).trans x37
  replace l37 := World.block_lt_of_cell? _ _ x37
  simp only at l37
  replace x39 := (hB16.cell (p := ⟨w8.heap.size, 0, none⟩) l39).trans x39
  replace l39 := World.block_lt_of_cell? _ _ x39
  simp only at l39
  replace x41 := (hB16.cell (p := ⟨w10.heap.size, 0, none⟩) l41).trans x41
  replace l41 := World.block_lt_of_cell? _ _ x41
  simp only at l41
  replace x43 := (hB16.cell (p := ⟨w12.heap.size, 0, none⟩) l43).trans x43
  replace l43 := World.block_lt_of_cell? _ _ x43
  simp only at l43
  replace x46 := (hB16.cell (p := ⟨w14.heap.size + 1, 0, none⟩) l46).trans x46
  replace l46 := World.block_lt_of_cell? _ _ x46
  simp only at l46
  replace R7 := Lib.hid (R7.out.below hB16)
  replace R8 := Lib.hid (R8.out.below hB16)
  replace O1 := Lib.hid (O1.out.below hB16)
  replace N3 := Lib.hid (N3.out.below hB16)
  replace RX := Lib.hid (RX.out.below hB16)
  replace O6 := Lib.hid (O6.out.below hB16)
  replace O8 := Lib.hid (O8.out.below hB16)
  replace O10 := Lib.hid (O10.out.below hB16)
  replace O12 := Lib.hid (O12.out.below hB16)
  replace N14 := Lib.hid (N14.out.below hB16)
  have zz_w16 := hB16.size
  replace BW := Lib.hid (show Below w.heap.size w w16 from BW.out.trans (hB16.mono BW.out.size))
  clear hB16
  obtain ⟨b32, f32, c32, he32, hb32, hc32⟩ := (N3.out.rd).open (by simp)
  simp only [Value.slice.injEq, true_and] at he32
  obtain ⟨rfl, rfl⟩ := he32
  have y32 := hc32 0 (by simp)
  simp only [Nat.add_zero, List.getD_cons_zero] at y32
  have hw1 : IntKind.i64.wrap ((M : Int) - 1) = (M : Int) - 1 := IntWalk.i64_in _ ⟨by omega, by omega⟩
  have hmm1 : (M : Int) * ((M : Int) - 1) ≤ 7 * 7 := Int.mul_le_mul (by omega) (by omega) (by omega) (by omega)
  have hmm2 : 0 ≤ (M : Int) * ((M : Int) - 1) := Int.mul_nonneg (by omega) (by omega)
  have hw2 : IntKind.i64.wrap ((M : Int) * ((M : Int) - 1)) = (M : Int) * ((M : Int) - 1) := IntWalk.i64_in _ ⟨by omega, by omega⟩
  go_wp2_with fail
  (go_at_call 25; ((with_reducible refine (b10Whole_law _ _ Pk _ (O10.out.rd.below (by (repeat' (first | (with_reducible exact Below.refl _ _) | (with_reducible assumption) | (with_reducible refine Below.alloc ?_ ?_ _) | (with_reducible refine Below.setCell ?_ ?_ _) | (with_reducible refine Below.drew ?_) | (with_reducible refine Below.via (by assumption) ?_ ?_) | go_size)))) (N14.out.rd.below (by (repeat' (first | (with_reducible exact Below.refl _ _) | (with_reducible assumption) | (with_reducible refine Below.alloc ?_ ?_ _) | (with_reducible refine Below.setCell ?_ ?_ _) | (with_reducible refine Below.drew ?_) | (with_reducible refine Below.via (by assumption) ?_ ?_) | go_size)))) HPk.out.2.ovr.ne (by omega)).mono ?_); rintro e we ⟨rfl, be⟩))
  have BE := Lib.hid (BW.out.trans (be.mono BW.out.size))
  clear be
  have hcount : (((M : Int) * ((M : Int) - 1)).tdiv 2 == (M : Int) * ((M : Int) - 1) / 2) = true := by rw [Int.tdiv_eq_ediv_of_nonneg hmm2]; simp
  go_wp2_with fail
  go_ret
  exact ⟨rfl, BE.out⟩


end Go.Proofs.Ytlnjkjogedbhfaa

/- FnOver: the product of the factors, the number of roots. Conditions: those of its statement. -/
namespace Go.Proofs.Ytlnjkjogedbhfaa
open Go Go.RowKit
set_option linter.unusedSimpArgs false
set_option linter.unusedVariables false
set_option linter.unusedSimpArgs false
set_option linter.unusedVariables false

set_option maxRecDepth 1000000 in
set_option maxHeartbeats 20000000 in
theorem over_tail17 (T : OT18) : OT17 := by
  intro w M code more a b pc qc pm qm wr a7 a8 a24 n18 q18 p18 x2 x3 x4 x5 x9 x10 x11 x12 x13 x14 x15 x16 x17 x19 x20 x21 x22 x23 x26 x27 x28 x29 x30 x31 x32 x33 x34 x35 x36 x37 x38 x39 x40 x41 x42 x43 x44 x45 x46 x47 x48 x49 x50 x51 x52 x53 x54 x55 x56 x57 x58 x59 x60 x61 x62 x63 x64 x65 x66 x67 x68 x69 x70 x71 x72 x73 x74 x75 x76 x77 x78 x79 x80 x81 x82 x83 x84 x85 x86 x87 x88 x89 x90 x91 x92 x93 x94 x95 x96 x97 x98 x99 x100 x101 x102 x103 x104 x105 x106 x107 x108 x109 x110 x111 x112 x113 x114 x115 x116 x117 x118 x119 x120 x121 x122 x123 x124 x125 x126 x127 x128 x129 x130 x131 x132 x133 x134 x135 x136 x137 x138 x139 x140 x141 x142 x143 x144 x145 x146 x147 x148 x149 x150 x151 x152 x153 x154 x155 x156 x157 x158 x159 x160 x161 x162 x163 x164 x165 x166 x167 x168 x169 x170 x171 x172 x173 x174 x175 x176 x177 x178 x179 x180 x181 x182 x183 x184 x185 x186 x187 x188 x189 x190 x191 x192 x193 x194 x195 x196 x197 x198 x199 x200 x201 x202 x203 x204 x205 x206 x207 x208 x209 x210 x211 x212 x213 x214 x215 x216 x217 x218 x219 x220 x221 x222 x223 x224 x225 x226 x227 x228 x229 x230 x231 x232 x233 x234 x235 x236 x237 x238 x239 x240 x241 x242 x243 x244 x245 x246 x247 x248 x249 x250 x251 x252 x253 x254 x255 x256 x257 x258 x259 x260 x261 x262 x263 x264 x265 x266 x267 x268 x269 x270 x271 x272 x273 x274 x275 x276 x277 x278 x279 x280 x281 x282 x283 x284 x285 x286 x287 x288 x289 x290 x291 x292 x293 x294 x295 x296 x297 x298 x299 x300 x301 x302 x303 x304 x305 x306 x307 x308 x309 x310 x311 x312 x313 x314 x315 x316 x317 x318 x319 x320 x321 x322 x323 x324 x325 x326 x327 x328 x329 x330 x331 x332 x333 x334 x335 x336 x337 x338 x339 x340 x341 x342 x343 x344 x345 x346 x347 x348 x349 x350 x351 x352 x353 x354 x355 x356 x357 x358 x359 x360 x361 x362 x363 x364 x365 x366 x367 x368 x369 x370 x371 x372 x373 x374 x375 x376 x377 x378 x379 x380 x381 x382 x383 x384 x385 x386 x387 x388 x389 x390 x391 x392 x393 x394 x395 x396 x397 x398 x399 x400 x401 x402 x403 x404 x405 x406 x407 x408 x409 x410 x411 x412 x413 x414 x415 HK0 bW e7 e8 e24
  have HK := Lib.hid HK0
  have hM := HK0.hM
  have Oa := Lib.hid HK0.oa
  have Ob := Lib.hid HK0.ob
  have ha2 := HK0.a2
  have ha6 := HK0.a6
  have hb2 := HK0.b2
  have hb4 := HK0.b4
  have Rc := Lib.hid HK0.rc
  have Rm := Lib.hid HK0.rm
  have Hm := Lib.hid (show primeB (M : Int) = true from primeB_iff.2 (by omega))
  have hm2 : (2 : Int) ≤ M ∧ (M : Int) ≤ 7 := by omega
  have HFa := Lib.hid (facs_of Hm.out Oa.out ha2 ha6)
  have HFb := Lib.hid (facs_of Hm.out Ob.out hb2 (by omega))
  clear HK0
  conv => arg 2; whnf
  have BW := Lib.hid bW
  have E7 := Lib.hid e7
  have E8 := Lib.hid e8
  clear bW e7 e8
  have E24 := Lib.hid e24
  clear e24
  obtain ⟨p7, q7, x7, r7⟩ := E7.out
  have R7 := Lib.hid r7
  have l7 := World.block_lt_of_cell? _ _ x7
  simp only at l7
  clear r7
  obtain ⟨p24, q24, x24, r24⟩ := E24.out
  have R24 := Lib.hid r24
  have l24 := World.block_lt_of_cell? _ _ x24
  simp only at l24
  clear r24
  have hn : ((n18 : Int) != (n18 : Int)) = false := by simp
  have hn2 : ((n18 : Int) == (n18 : Int)) = true := by simp
  go_wp2_with fail
  (go_at_call 25; ((with_reducible refine (b10Whole_law _ _ a _ (R24.out.below (by (repeat' (first | (with_reducible exact Below.refl _ _) | (with_reducible assumption) | (with_reducible refine Below.alloc ?_ ?_ _) | (with_reducible refine Below.setCell ?_ ?_ _) | (with_reducible refine Below.drew ?_) | (with_reducible refine Below.via (by assumption) ?_ ?_) | go_size)))) (R7.out.below (by (repeat' (first | (with_reducible exact Below.refl _ _) | (with_reducible assumption) | (with_reducible refine Below.alloc ?_ ?_ _) | (with_reducible refine Below.setCell ?_ ?_ _) | (with_reducible refine Below.drew ?_) | (with_reducible refine Below.via (by assumption) ?_ ?_) | go_size)))) Oa.out.ne (by omega)).mono ?_); rintro e w1 ⟨rfl, b1⟩))
  have B1 := Lib.hid (BW.out.trans (b1.mono BW.out.size))
  have E7b := Lib.hid (E7.out.below b1)
  have E8b := Lib.hid (E8.out.below b1)
  clear b1
  go_upto_if 299 with fail
  (iterate 8 (try (first | (exact T HK.out B1.out E7b.out E8b.out) | go_step)))


end Go.Proofs.Ytlnjkjogedbhfaa

/- FnOver: the first of the products. Conditions: those of its statement. -/
namespace Go.Proofs.Ytlnjkjogedbhfaa
open Go Go.RowKit
set_option linter.unusedSimpArgs false
set_option linter.unusedVariables false
set_option linter.unusedSimpArgs false
set_option linter.unusedVariables false

set_option maxRecDepth 1000000 in
set_option maxHeartbeats 20000000 in
theorem over_tail14 (T : OT16) : OT14 := by
  intro w M code more a b pc qc pm qm wr a7 a8 p14 p16 p18 p20 q14 q16 q18 q20 n18 x2 x3 x4 x5 x9 x10 x11 x12 x13 x15 x17 x19 x21 x22 x23 x24 x25 x26 x27 x28 x29 x30 x31 x32 x33 x34 x35 x36 x37 x38 x39 x40 x41 x42 x43 x44 x45 x46 x47 x48 x49 x50 x51 x52 x53 x54 x55 x56 x57 x58 x59 x60 x61 x62 x63 x64 x65 x66 x67 x68 x69 x70 x71 x72 x73 x74 x75 x76 x77 x78 x79 x80 x81 x82 x83 x84 x85 x86 x87 x88 x89 x90 x91 x92 x93 x94 x95 x96 x97 x98 x99 x100 x101 x102 x103 x104 x105 x106 x107 x108 x109 x110 x111 x112 x113 x114 x115 x116 x117 x118 x119 x120 x121 x122 x123 x124 x125 x126 x127 x128 x129 x130 x131 x132 x133 x134 x135 x136 x137 x138 x139 x140 x141 x142 x143 x144 x145 x146 x147 x148 x149 x150 x151 x152 x153 x154 x155 x156 x157 x158 x159 x160 x161 x162 x163 x164 x165 x166 x167 x168 x169 x170 x171 x172 x173 x174 x175 x176 x177 x178 x179 x180 x181 x182 x183 x184 x185 x186 x187 x188 x189 x190 x191 x192 x193 x194 x195 x196 x197 x198 x199 x200 x201 x202 x203 x204 x205 x206 x207 x208 x209 x210 x211 x212 x213 x214 x215 x216 x217 x218 x219 x220 x221 x222 x223 x224 x225 x226 x227 x228 x229 x230 x231 x232 x233 x234 x235 x236 x237 x238 x239 x240 x241 x242 x243 x244 x245 x246 x247 x248 x249 x250 x251 x252 x253 x254 x255 x256 x257 x258 x259 x260 x261 x262 x263 x264 x265 x266 x267 x268 x269 x270 x271 x272 x273 x274 x275 x276 x277 x278 x279 x280 x281 x282 x283 x284 x285 x286 x287 x288 x289 x290 x291 x292 x293 x294 x295 x296 x297 x298 x299 x300 x301 x302 x303 x304 x305 x306 x307 x308 x309 x310 x311 x312 x313 x314 x315 x316 x317 x318 x319 x320 x321 x322 x323 x324 x325 x326 x327 x328 x329 x330 x331 x332 x333 x334 x335 x336 x337 x338 x339 x340 x341 x342 x343 x344 x345 x346 x347 x348 x349 x350 x351 x352 x353 x354 x355 x356 x357 x358 x359 x360 x361 x362 x363 x364 x365 x366 x367 x368 x369 x370 x371 x372 x373 x374 x375 x376 x377 x378 x379 x380 x381 x382 x383 x384 x385 x386 x387 x388 x389 x390 x391 x392 x393 x394 x395 x396 x397 x398 x399 x400 x401 x402 x403 x404 x405 x406 x407 x408 x409 x410 x411 x412 x413 x414 x415 HK0 bW e7 e8 hn18 r14 r16 r20
  have HK := Lib.hid HK0
  have hM := HK0.hM
  have Oa := Lib.hid HK0.oa
  have Ob := Lib.hid HK0.ob
  have ha2 := HK0.a2
  have ha6 := HK0.a6
  have hb2 := HK0.b2
  have hb4 := HK0.b4
  have Rc := Lib.hid HK0.rc
  have Rm := Lib.hid HK0.rm
  have Hm := Lib.hid (show primeB (M : Int) = true from primeB_iff.2 (by omega))
  have hm2 : (2 : Int) ≤ M ∧ (M : Int) ≤ 7 := by omega
  have HFa := Lib.hid (facs_of Hm.out Oa.out ha2 ha6)
  have HFb := Lib.hid (facs_of Hm.out Ob.out hb2 (by omega))
  clear HK0
  conv => arg 2; whnf
  have BW := Lib.hid bW
  have E7 := Lib.hid e7
  have E8 := Lib.hid e8
  clear bW e7 e8
  have Hn18 := Lib.hid hn18
  have R14 := Lib.hid r14
  have R16 := Lib.hid r16
  have R20 := Lib.hid r20
  clear r14 r16 r20 hn18
  obtain ⟨p7, q7, x7, r7⟩ := E7.out
  have R7 := Lib.hid r7
  have l7 := World.block_lt_of_cell? _ _ x7
  simp only at l7
  clear r7
  obtain ⟨bA, fA, qA, hve, hbA, hcA⟩ := R7.out.open Oa.out.ne
  simp only [Value.slice.injEq, true_and] at hve
  obtain ⟨rfl, rfl⟩ := hve
  have c1 := hcA (a.length - 1) (by omega)
  rw [show a.getD (a.length - 1) 0 = lastZ a from rfl] at c1
  have h0 : 0 < a.length := by omega
  generalize hz : lastZ a = z at *
  have Hz := Lib.hid hz
  clear hz hcA
  obtain ⟨w0, hw0⟩ : ∃ w0 : World, w0 = wr := ⟨_, rfl⟩
  subst hw0
  go_upto_region 27 with fail
  generalize hw1 : World.alloc _ _ = w1
  have Hw1 := Lib.hid hw1
  clear hw1
  have b01 := Lib.hid (show Below w0.heap.size w0 w1 by rw [← Hw1.out]; (repeat' (first | (with_reducible exact Below.refl _ _) | (with_reducible assumption) | (with_reducible refine Below.alloc ?_ ?_ _) | (with_reducible refine Below.setCell ?_ ?_ _) | (with_reducible refine Below.drew ?_) | (with_reducible refine Below.via (by assumption) ?_ ?_) | go_size)))
  have xc : w1.cell? ⟨w0.heap.size + 1, 0, none⟩ = some (.slice (some ⟨w0.heap.size, 0, none⟩) 1 1) := by rw [← Hw1.out]; go_simp
  have yc : w1.frozen? ⟨w0.heap.size + 1, 0, none⟩ = false := by rw [← Hw1.out]; go_simp
  have xd : w1.cell? ⟨w0.heap.size, 0, none⟩ = some (.int .i64 z) := by rw [← Hw1.out]; go_simp
  have RX := Lib.hid (show RdI w1 (.slice (some ⟨w0.heap.size, 0, none⟩) 1 1) [lastZ a] from ⟨_, 1, rfl, ⟨by simp, by simp [maxLen]⟩, .inr ⟨w0.heap.size, 0, rfl, fun i hi => by
    match i, hi with
    | 0, _ => rw [Hz.out]; exact xd⟩⟩)
  clear Hw1 xd c1
  have Xc := Lib.hid xc
  have Yc := Lib.hid yc
  clear xc yc
  go_cut [25] (fun v wx => v = .int .i64 0 ∧ wx = w1)
  case first =>
    as_aux_lemma =>
    go_wp2_with fail
    go_meet
    exact ⟨rfl, rfl⟩
  case rest =>
    obtain ⟨rfl, hwx⟩ := hcut
    subst hwx
    go_step
    exact T HK.out BW.out E7.out E8.out Hn18.out R14.out R16.out R20.out b01.out (Nat.le_refl _) (Nat.lt_succ_self _) Xc.out Yc.out RX.out


end Go.Proofs.Ytlnjkjogedbhfaa

/- FnOver: quotient and rest make the whole again. Conditions: those of its statement. -/
namespace Go.Proofs.Ytlnjkjogedbhfaa
open Go Go.RowKit
set_option linter.unusedSimpArgs false
set_option linter.unusedVariables false
set_option linter.unusedSimpArgs false
set_option linter.unusedVariables false

set_option maxRecDepth 1000000 in
set_option maxHeartbeats 20000000 in
theorem over_tail13 (T : OT14) : OT13 := by
  intro w M code more a b pc qc pm qm wr a7 a8 p14 p16 p18 p20 q14 q16 q18 q20 n18 a10 a12 x2 x3 x4 x5 x9 x11 x13 x15 x17 x19 x21 x22 x23 x24 x25 x26 x27 x28 x29 x30 x31 x32 x33 x34 x35 x36 x37 x38 x39 x40 x41 x42 x43 x44 x45 x46 x47 x48 x49 x50 x51 x52 x53 x54 x55 x56 x57 x58 x59 x60 x61 x62 x63 x64 x65 x66 x67 x68 x69 x70 x71 x72 x73 x74 x75 x76 x77 x78 x79 x80 x81 x82 x83 x84 x85 x86 x87 x88 x89 x90 x91 x92 x93 x94 x95 x96 x97 x98 x99 x100 x101 x102 x103 x104 x105 x106 x107 x108 x109 x110 x111 x112 x113 x114 x115 x116 x117 x118 x119 x120 x121 x122 x123 x124 x125 x126 x127 x128 x129 x130 x131 x132 x133 x134 x135 x136 x137 x138 x139 x140 x141 x142 x143 x144 x145 x146 x147 x148 x149 x150 x151 x152 x153 x154 x155 x156 x157 x158 x159 x160 x161 x162 x163 x164 x165 x166 x167 x168 x169 x170 x171 x172 x173 x174 x175 x176 x177 x178 x179 x180 x181 x182 x183 x184 x185 x186 x187 x188 x189 x190 x191 x192 x193 x194 x195 x196 x197 x198 x199 x200 x201 x202 x203 x204 x205 x206 x207 x208 x209 x210 x211 x212 x213 x214 x215 x216 x217 x218 x219 x220 x221 x222 x223 x224 x225 x226 x227 x228 x229 x230 x231 x232 x233 x234 x235 x236 x237 x238 x239 x240 x241 x242 x243 x244 x245 x246 x247 x248 x249 x250 x251 x252 x253 x254 x255 x256 x257 x258 x259 x260 x261 x262 x263 x264 x265 x266 x267 x268 x269 x270 x271 x272 x273 x274 x275 x276 x277 x278 x279 x280 x281 x282 x283 x284 x285 x286 x287 x288 x289 x290 x291 x292 x293 x294 x295 x296 x297 x298 x299 x300 x301 x302 x303 x304 x305 x306 x307 x308 x309 x310 x311 x312 x313 x314 x315 x316 x317 x318 x319 x320 x321 x322 x323 x324 x325 x326 x327 x328 x329 x330 x331 x332 x333 x334 x335 x336 x337 x338 x339 x340 x341 x342 x343 x344 x345 x346 x347 x348 x349 x350 x351 x352 x353 x354 x355 x356 x357 x358 x359 x360 x361 x362 x363 x364 x365 x366 x367 x368 x369 x370 x371 x372 x373 x374 x375 x376 x377 x378 x379 x380 x381 x382 x383 x384 x385 x386 x387 x388 x389 x390 x391 x392 x393 x394 x395 x396 x397 x398 x399 x400 x401 x402 x403 x404 x405 x406 x407 x408 x409 x410 x411 x412 x413 x414 x415 HK0 bW e7 e8 hn18 r14 r16 r20 e10 e12
  have HK := Lib.hid HK0
  have hM := HK0.hM
  have Oa := Lib.hid HK0.oa
  have Ob := Lib.hid HK0.ob
  have ha2 := HK0.a2
  have ha6 := HK0.a6
  have hb2 := HK0.b2
  have hb4 := HK0.b4
  have Rc := Lib.hid HK0.rc
  have Rm := Lib.hid HK0.rm
  have Hm := Lib.hid (show primeB (M : Int) = true from primeB_iff.2 (by omega))
  have hm2 : (2 : Int) ≤ M ∧ (M : Int) ≤ 7 := by omega
  have HFa := Lib.hid (facs_of Hm.out Oa.out ha2 ha6)
  have HFb := Lib.hid (facs_of Hm.out Ob.out hb2 (by omega))
  clear HK0
  conv => arg 2; whnf
  have BW := Lib.hid bW
  have E7 := Lib.hid e7
  have E8 := Lib.hid e8
  clear bW e7 e8
  have Hn18 := Lib.hid hn18
  have R14 := Lib.hid r14
  have R16 := Lib.hid r16
  have R20 := Lib.hid r20
  clear r14 r16 r20 hn18
  have E10 := Lib.hid e10
  have E12 := Lib.hid e12
  clear e10 e12
  have Hback := Lib.hid (fun i => back_term Hm.out Oa.out Ob.out (long_zero hb2) i)
  have hdv := divF_ovr Hm.out Oa.out Ob.out (long_zero hb2)
  have Hr := Lib.hid hdv.2.1
  have Hx := Lib.hid (mulF_ovr (m := (M : Int)) (by omega) hdv.1 Ob.out (by have := hdv.2.2.2; omega))
  clear hdv
  generalize mulF (M : Int) (divF a b (M : Int)).1 b = X at *
  generalize (divF a b (M : Int)).2 = R at *
  obtain ⟨p7, q7, x7, r7⟩ := E7.out
  have R7 := Lib.hid r7
  have l7 := World.block_lt_of_cell? _ _ x7
  simp only at l7
  clear r7
  obtain ⟨p10, q10, x10, r10⟩ := E10.out
  have R10 := Lib.hid r10
  have l10 := World.block_lt_of_cell? _ _ x10
  simp only at l10
  clear r10
  obtain ⟨p12, q12, x12, r12⟩ := E12.out
  have R12 := Lib.hid r12
  have l12 := World.block_lt_of_cell? _ _ x12
  simp only at l12
  clear r12
  obtain ⟨b7, f7, c7, hve7, hb7, hc7⟩ := R7.out.open Oa.out.ne
  simp only [Value.slice.injEq, true_and] at hve7
  obtain ⟨rfl, rfl⟩ := hve7
  have HC7 := Lib.hid hc7
  clear hc7
  obtain ⟨b10, f10, c10, hve10, hb10, hc10⟩ := R10.out.open Hr.out.ne
  simp only [Value.slice.injEq, true_and] at hve10
  obtain ⟨rfl, rfl⟩ := hve10
  have HC10 := Lib.hid hc10
  clear hc10
  obtain ⟨b12, f12, c12, hve12, hb12, hc12⟩ := R12.out.open Hx.out.ne
  simp only [Value.slice.injEq, true_and] at hve12
  obtain ⟨rfl, rfl⟩ := hve12
  have HC12 := Lib.hid hc12
  clear hc12
  obtain ⟨w0, hw0⟩ : ∃ w0 : World, w0 = wr := ⟨_, rfl⟩
  subst hw0
  have zW := BW.out.size
  go_upto_block 0 with fail
  go_cut [] (fun wx => Below w0.heap.size w0 wx)
  case first =>
    as_aux_lemma =>
    clear T HK E7 E8 E10 E12 Rc Rm HFa HFb Hn18 R14 R16 R20 R7 R10 R12 BW
    go_wp2_with fail
    go_loopw [170] (fun i wr => ∃ k : Nat, k ≤ a.length ∧ i = .int .i64 k ∧ Below w0.heap.size w0 wr) (fun i _ => a.length - (intOf i).toNat)
    case atStart => exact ⟨0, Nat.zero_le _, rfl, Below.refl _ _⟩
    case round =>
      obtain ⟨k, hk, rfl, hbel⟩ := hrel
      have Hbel := Lib.hid hbel
      have hsz := hbel.size
      by_cases hlt : k < a.length
      · have hlti : (k : Int) < (a.length : Int) := by omega
        have ea := (hbel.cell (p := ⟨a7, 0, none⟩) l7).trans x7
        have er := (hbel.cell (p := ⟨a10, 0, none⟩) l10).trans x10
        have ex := (hbel.cell (p := ⟨a12, 0, none⟩) l12).trans x12
        have da := (hbel.cell (p := ⟨b7, f7 + k, none⟩) hb7).trans (HC7.out k hlt)
        have ht := Hback.out k
        have bx := Hx.out.ov k
        have br := Hr.out.ov k
        have by_ := Oa.out.ov k
        have hX : ¬ k < X.length → X.getD k 0 = 0 := fun h => co_beyond X (by omega)
        have hR : ¬ k < R.length → R.getD k 0 = 0 := fun h => co_beyond R (by omega)
        have dx : k < X.length → wr.cell? ⟨b12, f12 + k, none⟩ = some (.int .i64 (X.getD k 0)) := fun h => (hbel.cell (p := ⟨b12, f12 + k, none⟩) hb12).trans (HC12.out k h)
        have dr : k < R.length → wr.cell? ⟨b10, f10 + k, none⟩ = some (.int .i64 (R.getD k 0)) := fun h => (hbel.cell (p := ⟨b10, f10 + k, none⟩) hb10).trans (HC10.out k h)
        clear hbel x7 x10 x12
        generalize X.getD k 0 = x at *
        generalize R.getD k 0 = r at *
        generalize a.getD k 0 = y at *
        have g3 : (y != y) = false := by simp
        have g4 : (y == y) = true := by simp
        have g5 : ¬ ((M : Int) = 0) := by omega
        have kk1 : (0 : Int) ≤ (k : Int) := by omega
        clear Hback HC7 HC10 HC12 Hx Hr Oa Ob Hm hb7 hb10 hb12 hb2 hb4 ha2 hM
        by_cases h1 : k < X.length
        · have h1i : (k : Int) < (X.length : Int) := by omega
          have cx_ := dx h1
          by_cases h2 : k < R.length
          · have h2i : (k : Int) < (R.length : Int) := by omega
            have cr_ := dr h2
            have q1 : IntKind.i64.wrap (x + r) = x + r := IntWalk.i64_in _ ⟨by omega, by omega⟩
            clear dx dr hX hR
            go_wp2_with fail
            go_quiet (fail)
            go_wp2
            go_roundw
            case rel => exact ⟨k + 1, by omega, by go_num, Hbel.out.trans ((drewN_below _ _).mono hsz)⟩
            case measure => simp [intOf]; omega
          · have h2i : ¬ (k : Int) < (R.length : Int) := by omega
            have hr0 := hR h2
            rw [hr0, Int.add_zero] at ht
            clear dx dr hX hR hr0
            go_wp2_with fail
            go_quiet (fail)
            go_wp2
            go_roundw
            case rel => exact ⟨k + 1, by omega, by go_num, Hbel.out.trans ((drewN_below _ _).mono hsz)⟩
            case measure => simp [intOf]; omega
        · have h1i : ¬ (k : Int) < (X.length : Int) := by omega
          have hx0 := hX h1
          rw [hx0, Int.zero_add] at ht
          by_cases h2 : k < R.length
          · have h2i : (k : Int) < (R.length : Int) := by omega
            have cr_ := dr h2
            clear dx dr hX hR hx0
            go_wp2_with fail
            go_quiet (fail)
            go_wp2
            go_roundw
            case rel => exact ⟨k + 1, by omega, by go_num, Hbel.out.trans ((drewN_below _ _).mono hsz)⟩
            case measure => simp [intOf]; omega
          · have h2i : ¬ (k : Int) < (R.length : Int) := by omega
            have hr0 := hR h2
            rw [hr0] at ht
            have hy0 : y = 0 := by rw [← ht]; simp
            subst hy0
            clear dx dr hX hR hx0 hr0 ht
            go_wp2_with fail
            go_quiet (fail)
            go_wp2
            go_roundw
            case rel => exact ⟨k + 1, by omega, by go_num, Hbel.out.trans ((drewN_below _ _).mono hsz)⟩
            case measure => simp [intOf]; omega
      · obtain rfl : k = a.length := by omega
        have hlti : ¬ ((a.length : Int) < (a.length : Int)) := by omega
        clear hbel
        go_wp2_with fail
        go_meet
        exact Hbel.out
  case rest =>
    go_step
    exact T HK.out (BW.out.trans (hcut.mono zW)) (E7.out.below hcut) (E8.out.below hcut) Hn18.out (R14.out.below hcut) (R16.out.below hcut) (R20.out.below hcut)


end Go.Proofs.Ytlnjkjogedbhfaa

/- FnOver: the calls ahead of the loops. Conditions: those of its statement. -/
namespace Go.Proofs.Ytlnjkjogedbhfaa
open Go Go.RowKit
set_option linter.unusedSimpArgs false
set_option linter.unusedVariables false
set_option linter.unusedSimpArgs false
set_option linter.unusedVariables false

theorem RdSS.open2 {w : World} {v : Value} {lss : List (List (List Int))} (h : RdSS w v lss) (hn : lss ≠ []) : ∃ b cap, v = .slice (some ⟨b, 0, none⟩) lss.length cap ∧ b < w.heap.size ∧ ∀ i, i < lss.length → ∃ u, w.cell? ⟨b, i, none⟩ = some u ∧ RdWs w u (lss.getD i []) := by
  obtain ⟨ao, cap, hv, _, hr⟩ := h
  rcases hr with hr | ⟨b, rfl, hl, hc⟩
  · exact absurd hr hn
  · exact ⟨b, cap, hv, hl, hc⟩
theorem lit2c {w : World} {g : Nat} {u0 u1 : Value} {a b : List Int} (h0 : w.cell? ⟨g, 0, none⟩ = some u0) (h1 : w.cell? ⟨g, 1, none⟩ = some u1) (r0 : RdI w u0 a) (r1 : RdI w u1 b) : RdWs w (.slice (some ⟨g, 0, none⟩) 2 2) [a, b] :=
  ⟨_, 2, rfl, ⟨by simp, by simp [maxLen]⟩, .inr ⟨g, 0, rfl, fun i hi => by
    match i, hi with
    | 0, _ => exact ⟨u0, h0, r0⟩
    | 1, _ => exact ⟨u1, h1, r1⟩⟩⟩

set_option maxRecDepth 1000000 in
set_option maxHeartbeats 20000000 in
theorem over_tail6 (T : OT13) : OT6 := by
  intro w M code more a b pc qc pm qm wr a7 a8 x2 x3 x4 x5 x9 x10 x11 x12 x13 x14 x15 x16 x17 x18 x19 x20 x21 x22 x23 x24 x25 x26 x27 x28 x29 x30 x31 x32 x33 x34 x35 x36 x37 x38 x39 x40 x41 x42 x43 x44 x45 x46 x47 x48 x49 x50 x51 x52 x53 x54 x55 x56 x57 x58 x59 x60 x61 x62 x63 x64 x65 x66 x67 x68 x69 x70 x71 x72 x73 x74 x75 x76 x77 x78 x79 x80 x81 x82 x83 x84 x85 x86 x87 x88 x89 x90 x91 x92 x93 x94 x95 x96 x97 x98 x99 x100 x101 x102 x103 x104 x105 x106 x107 x108 x109 x110 x111 x112 x113 x114 x115 x116 x117 x118 x119 x120 x121 x122 x123 x124 x125 x126 x127 x128 x129 x130 x131 x132 x133 x134 x135 x136 x137 x138 x139 x140 x141 x142 x143 x144 x145 x146 x147 x148 x149 x150 x151 x152 x153 x154 x155 x156 x157 x158 x159 x160 x161 x162 x163 x164 x165 x166 x167 x168 x169 x170 x171 x172 x173 x174 x175 x176 x177 x178 x179 x180 x181 x182 x183 x184 x185 x186 x187 x188 x189 x190 x191 x192 x193 x194 x195 x196 x197 x198 x199 x200 x201 x202 x203 x204 x205 x206 x207 x208 x209 x210 x211 x212 x213 x214 x215 x216 x217 x218 x219 x220 x221 x222 x223 x224 x225 x226 x227 x228 x229 x230 x231 x232 x233 x234 x235 x236 x237 x238 x239 x240 x241 x242 x243 x244 x245 x246 x247 x248 x249 x250 x251 x252 x253 x254 x255 x256 x257 x258 x259 x260 x261 x262 x263 x264 x265 x266 x267 x268 x269 x270 x271 x272 x273 x274 x275 x276 x277 x278 x279 x280 x281 x282 x283 x284 x285 x286 x287 x288 x289 x290 x291 x292 x293 x294 x295 x296 x297 x298 x299 x300 x301 x302 x303 x304 x305 x306 x307 x308 x309 x310 x311 x312 x313 x314 x315 x316 x317 x318 x319 x320 x321 x322 x323 x324 x325 x326 x327 x328 x329 x330 x331 x332 x333 x334 x335 x336 x337 x338 x339 x340 x341 x342 x343 x344 x345 x346 x347 x348 x349 x350 x351 x352 x353 x354 x355 x356 x357 x358 x359 x360 x361 x362 x363 x364 x365 x366 x367 x368 x369 x370 x371 x372 x373 x374 x375 x376 x377 x378 x379 x380 x381 x382 x383 x384 x385 x386 x387 x388 x389 x390 x391 x392 x393 x394 x395 x396 x397 x398 x399 x400 x401 x402 x403 x404 x405 x406 x407 x408 x409 x410 x411 x412 x413 x414 x415 HK0 bW e7 e8
  have HK := Lib.hid HK0
  have hM := HK0.hM
  have Oa := Lib.hid HK0.oa
  have Ob := Lib.hid HK0.ob
  have ha2 := HK0.a2
  have ha6 := HK0.a6
  have hb2 := HK0.b2
  have hb4 := HK0.b4
  have Rc := Lib.hid HK0.rc
  have Rm := Lib.hid HK0.rm
  have Hm := Lib.hid (show primeB (M : Int) = true from primeB_iff.2 (by omega))
  have hm2 : (2 : Int) ≤ M ∧ (M : Int) ≤ 7 := by omega
  have HFa := Lib.hid (facs_of Hm.out Oa.out ha2 ha6)
  have HFb := Lib.hid (facs_of Hm.out Ob.out hb2 (by omega))
  clear HK0
  conv => arg 2; whnf
  have BW := Lib.hid bW
  have E7 := Lib.hid e7
  have E8 := Lib.hid e8
  clear bW e7 e8
  obtain ⟨p7, q7, x7, r7⟩ := E7.out
  have R7 := Lib.hid r7
  have l7 := World.block_lt_of_cell? _ _ x7
  simp only at l7
  clear r7
  obtain ⟨p8, q8, x8, r8⟩ := E8.out
  have R8 := Lib.hid r8
  have l8 := World.block_lt_of_cell? _ _ x8
  simp only at l8
  clear r8
  have hdv := divF_ovr Hm.out Oa.out Ob.out (long_zero hb2)
  have Hq := Lib.hid hdv.1
  have hql := hdv.2.2.2
  have hrs := rest_short Hm.out Oa.out Ob.out hb2
  have Hx := Lib.hid (mulF_ovr (m := (M : Int)) (by omega) hdv.1 Ob.out (by omega))
  have hxl := mulF_len (M : Int) (divF a b (M : Int)).1 b
  have Hfr := Lib.hid (show facR (M : Int) a = some (facL (M : Int) a) by rw [facR, if_pos HFa.out.1])
  clear hdv
  generalize hQ : (divF a b (M : Int)).1 = Q at *
  generalize hR : (divF a b (M : Int)).2 = R at *
  have HQ := Lib.hid hQ
  have HR := Lib.hid hR
  clear hQ hR
  go_wp2_with fail
  (go_at_call 56; ((with_reducible refine (DivideOver_impl _ _ a b (M : Int) _ (R7.out.below (by (repeat' (first | (with_reducible exact Below.refl _ _) | (with_reducible assumption) | (with_reducible refine Below.alloc ?_ ?_ _) | (with_reducible refine Below.setCell ?_ ?_ _) | (with_reducible refine Below.drew ?_) | (with_reducible refine Below.via (by assumption) ?_ ?_) | go_size)))) (R8.out.below (by (repeat' (first | (with_reducible exact Below.refl _ _) | (with_reducible assumption) | (with_reducible refine Below.alloc ?_ ?_ _) | (with_reducible refine Below.setCell ?_ ?_ _) | (with_reducible refine Below.drew ?_) | (with_reducible refine Below.via (by assumption) ?_ ?_) | go_size)))) Hm.out Oa.out Ob.out (by omega) (by omega) (long_zero hb2)).mono ?_); rintro e w1 ⟨v1, u1, rfl, o1, n1, b1⟩))
  rw [HQ.out] at o1
  rw [HR.out] at n1
  have O1 := Lib.hid o1
  have N1 := Lib.hid n1
  have hB1 := (show Below wr.heap.size wr w1 by (repeat' (first | (with_reducible exact Below.refl _ _) | (with_reducible assumption) | (with_reducible refine Below.alloc ?_ ?_ _) | (with_reducible refine Below.setCell ?_ ?_ _) | (with_reducible refine Below.drew ?_) | (with_reducible refine Below.via (by assumption) ?_ ?_) | go_size)))
  obtain ⟨p9, q9, rfl⟩ := o1.rd.shape
  obtain ⟨p10, q10, rfl⟩ := n1.rd.shape
  clear o1 n1 b1
  replace x7 := (hB1.cell (p := ⟨a7, 0, none⟩) l7).trans x7
  replace l7 := World.block_lt_of_cell? _ _ x7
  simp only at l7
  replace x8 := (hB1.cell (p := ⟨a8, 0, none⟩) l8).trans x8
  replace l8 := World.block_lt_of_cell? _ _ x8
  simp only at l8
  replace R7 := Lib.hid (R7.out.below hB1)
  replace R8 := Lib.hid (R8.out.below hB1)
  have zz_w1 := hB1.size
  replace BW := Lib.hid (show Below w.heap.size w w1 from BW.out.trans (hB1.mono BW.out.size))
  clear hB1
  go_upto_region 8 with fail
  generalize hg2 : World.alloc _ _ = W2
  have Hg2 := Lib.hid hg2
  clear hg2
  have hB2 := (show Below w1.heap.size w1 W2 by rw [← Hg2.out]; (repeat' (first | (with_reducible exact Below.refl _ _) | (with_reducible assumption) | (with_reducible refine Below.alloc ?_ ?_ _) | (with_reducible refine Below.setCell ?_ ?_ _) | (with_reducible refine Below.drew ?_) | (with_reducible refine Below.via (by assumption) ?_ ?_) | go_size)))
  have x9 : W2.cell? ⟨w1.heap.size, 0, none⟩ = some (.slice p9 Q.length q9) := by rw [← Hg2.out]; go_simp
  have l9 := World.block_lt_of_cell? _ _ x9
  simp only at l9
  have x10 : W2.cell? ⟨w1.heap.size + 1, 0, none⟩ = some (.slice p10 R.length q10) := by rw [← Hg2.out]; go_simp
  have l10 := World.block_lt_of_cell? _ _ x10
  simp only at l10
  clear Hg2
  replace x7 := (hB2.cell (p := ⟨a7, 0, none⟩) l7).trans x7
  replace l7 := World.block_lt_of_cell? _ _ x7
  simp only at l7
  replace x8 := (hB2.cell (p := ⟨a8, 0, none⟩) l8).trans x8
  replace l8 := World.block_lt_of_cell? _ _ x8
  simp only at l8
  replace R7 := Lib.hid (R7.out.below hB2)
  replace R8 := Lib.hid (R8.out.below hB2)
  replace O1 := Lib.hid (O1.out.below hB2)
  replace N1 := Lib.hid (N1.out.below hB2)
  have zz_W2 := hB2.size
  replace BW := Lib.hid (show Below w.heap.size w W2 from BW.out.trans (hB2.mono BW.out.size))
  clear hB2
  go_wp2_with fail
  (go_at_call 57; ((with_reducible refine (MulOver_impl _ _ Q b (M : Int) _ (O1.out.rd.below (by (repeat' (first | (with_reducible exact Below.refl _ _) | (with_reducible assumption) | (with_reducible refine Below.alloc ?_ ?_ _) | (with_reducible refine Below.setCell ?_ ?_ _) | (with_reducible refine Below.drew ?_) | (with_reducible refine Below.via (by assumption) ?_ ?_) | go_size)))) (R8.out.below (by (repeat' (first | (with_reducible exact Below.refl _ _) | (with_reducible assumption) | (with_reducible refine Below.alloc ?_ ?_ _) | (with_reducible refine Below.setCell ?_ ?_ _) | (with_reducible refine Below.drew ?_) | (with_reducible refine Below.via (by assumption) ?_ ?_) | go_size)))) Hm.out Hq.out Ob.out (by omega) (by omega) (by omega)).mono ?_); rintro e w3 ⟨v3, rfl, o3, b3⟩))
  have O3 := Lib.hid o3
  have hB3 := (show Below W2.heap.size W2 w3 by (repeat' (first | (with_reducible exact Below.refl _ _) | (with_reducible assumption) | (with_reducible refine Below.alloc ?_ ?_ _) | (with_reducible refine Below.setCell ?_ ?_ _) | (with_reducible refine Below.drew ?_) | (with_reducible refine Below.via (by assumption) ?_ ?_) | go_size)))
  obtain ⟨p12, q12, rfl⟩ := o3.rd.shape
  clear o3 b3
  replace x7 := (hB3.cell (p := ⟨a7, 0, none⟩) l7).trans x7
  replace l7 := World.block_lt_of_cell? _ _ x7
  simp only at l7
  replace x8 := (hB3.cell (p := ⟨a8, 0, none⟩) l8).trans x8
  replace l8 := World.block_lt_of_cell? _ _ x8
  simp only at l8
  replace x9 := (hB3.cell (p := ⟨w1.heap.size, 0, none⟩) l9).trans x9
  replace l9 := World.block_lt_of_cell? _ _ x9
  simp only at l9
  replace x10 := (hB3.cell (p := ⟨w1.heap.size + 1, 0, none⟩) l10).trans x10
  replace l10 := World.block_lt_of_cell? _ _ x10
  simp only at l10
  replace R7 := Lib.hid (R7.out.below hB3)
  replace R8 := Lib.hid (R8.out.below hB3)
  replace O1 := Lib.hid (O1.out.below hB3)
  replace N1 := Lib.hid (N1.out.below hB3)
  have zz_w3 := hB3.size
  replace BW := Lib.hid (show Below w.heap.size w w3 from BW.out.trans (hB3.mono BW.out.size))
  clear hB3
  go_upto_region 9 with fail
  generalize hg4 : World.alloc _ _ = W4
  have Hg4 := Lib.hid hg4
  clear hg4
  have hB4 := (show Below w3.heap.size w3 W4 by rw [← Hg4.out]; (repeat' (first | (with_reducible exact Below.refl _ _) | (with_reducible assumption) | (with_reducible refine Below.alloc ?_ ?_ _) | (with_reducible refine Below.setCell ?_ ?_ _) | (with_reducible refine Below.drew ?_) | (with_reducible refine Below.via (by assumption) ?_ ?_) | go_size)))
  have x12 : W4.cell? ⟨w3.heap.size, 0, none⟩ = some (.slice p12 (mulF (M : Int) Q b).length q12) := by rw [← Hg4.out]; go_simp
  have l12 := World.block_lt_of_cell? _ _ x12
  simp only at l12
  clear Hg4
  replace x7 := (hB4.cell (p := ⟨a7, 0, none⟩) l7).trans x7
  replace l7 := World.block_lt_of_cell? _ _ x7
  simp only at l7
  replace x8 := (hB4.cell (p := ⟨a8, 0, none⟩) l8).trans x8
  replace l8 := World.block_lt_of_cell? _ _ x8
  simp only at l8
  replace x9 := (hB4.cell (p := ⟨w1.heap.size, 0, none⟩) l9).trans x9
  replace l9 := World.block_lt_of_cell? _ _ x9
  simp only at l9
  replace x10 := (hB4.cell (p := ⟨w1.heap.size + 1, 0, none⟩) l10).trans x10
  replace l10 := World.block_lt_of_cell? _ _ x10
  simp only at l10
  replace R7 := Lib.hid (R7.out.below hB4)
  replace R8 := Lib.hid (R8.out.below hB4)
  replace O1 := Lib.hid (O1.out.below hB4)
  replace N1 := Lib.hid (N1.out.below hB4)
  replace O3 := Lib.hid (O3.out.below hB4)
  have zz_W4 := hB4.size
  replace BW := Lib.hid (show Below w.heap.size w W4 from BW.out.trans (hB4.mono BW.out.size))
  clear hB4
  go_wp2_with fail
  (go_at_call 48; ((with_reducible refine (FactorsOver_impl _ a (M : Int) _ (R7.out.below (by (repeat' (first | (with_reducible exact Below.refl _ _) | (with_reducible assumption) | (with_reducible refine Below.alloc ?_ ?_ _) | (with_reducible refine Below.setCell ?_ ?_ _) | (with_reducible refine Below.drew ?_) | (with_reducible refine Below.via (by assumption) ?_ ?_) | go_size)))) (by omega)).mono ?_); rintro e w5 ⟨v5, rfl, o5, b5⟩))
  rw [Hfr.out] at o5
  rw [Hfr.out]
  have O5 := Lib.hid o5
  have hB5 := (show Below W4.heap.size W4 w5 by (repeat' (first | (with_reducible exact Below.refl _ _) | (with_reducible assumption) | (with_reducible refine Below.alloc ?_ ?_ _) | (with_reducible refine Below.setCell ?_ ?_ _) | (with_reducible refine Below.drew ?_) | (with_reducible refine Below.via (by assumption) ?_ ?_) | go_size)))
  obtain ⟨p14, q14, rfl⟩ := o5.rd.shape'
  clear o5 b5
  replace x7 := (hB5.cell (p := ⟨a7, 0, none⟩) l7).trans x7
  replace l7 := World.block_lt_of_cell? _ _ x7
  simp only at l7
  replace x8 := (hB5.cell (p := ⟨a8, 0, none⟩) l8).trans x8
  replace l8 := World.block_lt_of_cell? _ _ x8
  simp only at l8
  replace x9 := (hB5.cell (p := ⟨w1.heap.size, 0, none⟩) l9).trans x9
  replace l9 := World.block_lt_of_cell? _ _ x9
  simp only at l9
  replace x10 := (hB5.cell (p := ⟨w1.heap.size + 1, 0, none⟩) l10).trans x10
  replace l10 := World.block_lt_of_cell? _ _ x10
  simp only at l10
  replace x12 := (hB5.cell (p := ⟨w3.heap.size, 0, none⟩) l12).trans x12
  replace l12 := World.block_lt_of_cell? _ _ x12
  simp only at l12
  replace R7 := Lib.hid (R7.out.below hB5)
  replace R8 := Lib.hid (R8.out.below hB5)
  replace O1 := Lib.hid (O1.out.below hB5)
  replace N1 := Lib.hid (N1.out.below hB5)
  replace O3 := Lib.hid (O3.out.below hB5)
  have zz_w5 := hB5.size
  replace BW := Lib.hid (show Below w.heap.size w w5 from BW.out.trans (hB5.mono BW.out.size))
  clear hB5
  go_wp2_with fail
  (go_at_call 47; ((with_reducible refine (FactorsOver_spec _ a (M : Int) _ (R7.out.below (by (repeat' (first | (with_reducible exact Below.refl _ _) | (with_reducible assumption) | (with_reducible refine Below.alloc ?_ ?_ _) | (with_reducible refine Below.setCell ?_ ?_ _) | (with_reducible refine Below.drew ?_) | (with_reducible refine Below.via (by assumption) ?_ ?_) | go_size)))) (by omega)).mono ?_); rintro e w6 ⟨v6, rfl, o6, b6⟩))
  rw [Hfr.out] at o6
  rw [Hfr.out]
  have O6 := Lib.hid o6
  have hB6 := (show Below w5.heap.size w5 w6 by (repeat' (first | (with_reducible exact Below.refl _ _) | (with_reducible assumption) | (with_reducible refine Below.alloc ?_ ?_ _) | (with_reducible refine Below.setCell ?_ ?_ _) | (with_reducible refine Below.drew ?_) | (with_reducible refine Below.via (by assumption) ?_ ?_) | go_size)))
  obtain ⟨p16, q16, rfl⟩ := o6.rd.shape'
  clear o6 b6
  replace x7 := (hB6.cell (p := ⟨a7, 0, none⟩) l7).trans x7
  replace l7 := World.block_lt_of_cell? _ _ x7
  simp only at l7
  replace x8 := (hB6.cell (p := ⟨a8, 0, none⟩) l8).trans x8
  replace l8 := World.block_lt_of_cell? _ _ x8
  simp only at l8
  replace x9 := (hB6.cell (p := ⟨w1.heap.size, 0, none⟩) l9).trans x9
  replace l9 := World.block_lt_of_cell? _ _ x9
  simp only at l9
  replace x10 := (hB6.cell (p := ⟨w1.heap.size + 1, 0, none⟩) l10).trans x10
  replace l10 := World.block_lt_of_cell? _ _ x10
  simp only at l10
  replace x12 := (hB6.cell (p := ⟨w3.heap.size, 0, none⟩) l12).trans x12
  replace l12 := World.block_lt_of_cell? _ _ x12
  simp only at l12
  replace R7 := Lib.hid (R7.out.below hB6)
  replace R8 := Lib.hid (R8.out.below hB6)
  replace O1 := Lib.hid (O1.out.below hB6)
  replace N1 := Lib.hid (N1.out.below hB6)
  replace O3 := Lib.hid (O3.out.below hB6)
  replace O5 := Lib.hid (O5.out.below hB6)
  have zz_w6 := hB6.size
  replace BW := Lib.hid (show Below w.heap.size w w6 from BW.out.trans (hB6.mono BW.out.size))
  clear hB6
  go_wp2_with fail
  (go_at_call 58; ((with_reducible refine (RootsOver_impl _ a M _ (R7.out.below (by (repeat' (first | (with_reducible exact Below.refl _ _) | (with_reducible assumption) | (with_reducible refine Below.alloc ?_ ?_ _) | (with_reducible refine Below.setCell ?_ ?_ _) | (with_reducible refine Below.drew ?_) | (with_reducible refine Below.via (by assumption) ?_ ?_) | go_size)))) Hm.out Oa.out (by omega) (long_zero ha2)).mono ?_); rintro e w7 ⟨v7, zs7, rfl, o7, hn7, b7⟩))
  have hB7 := (show Below w6.heap.size w6 w7 by (repeat' (first | (with_reducible exact Below.refl _ _) | (with_reducible assumption) | (with_reducible refine Below.alloc ?_ ?_ _) | (with_reducible refine Below.setCell ?_ ?_ _) | (with_reducible refine Below.drew ?_) | (with_reducible refine Below.via (by assumption) ?_ ?_) | go_size)))
  obtain ⟨p18, q18, rfl⟩ := o7.rd.shape
  rw [hn7]
  have Hcx := Lib.hid (show cx M a M = cx M a M from rfl)
  obtain ⟨n18, hn18⟩ : ∃ n18, n18 = cx M a M := ⟨_, rfl⟩
  rw [← hn18]
  have Hn18 := Lib.hid hn18
  clear o7 hn7 b7 hn18 Hcx
  replace x7 := (hB7.cell (p := ⟨a7, 0, none⟩) l7).trans x7
  replace l7 := World.block_lt_of_cell? _ _ x7
  simp only at l7
  replace x8 := (hB7.cell (p := ⟨a8, 0, none⟩) l8).trans x8
  replace l8 := World.block_lt_of_cell? _ _ x8
  simp only at l8
  replace x9 := (hB7.cell (p := ⟨w1.heap.size, 0, none⟩) l9).trans x9
  replace l9 := World.block_lt_of_cell? _ _ x9
  simp only at l9
  replace x10 := (hB7.cell (p := ⟨w1.heap.size + 1, 0, none⟩) l10).trans x10
  replace l10 := World.block_lt_of_cell? _ _ x10
  simp only at l10
  replace x12 := (hB7.cell (p := ⟨w3.heap.size, 0, none⟩) l12).trans x12
  replace l12 := World.block_lt_of_cell? _ _ x12
  simp only at l12
  replace R7 := Lib.hid (R7.out.below hB7)
  replace R8 := Lib.hid (R8.out.below hB7)
  replace O1 := Lib.hid (O1.out.below hB7)
  replace N1 := Lib.hid (N1.out.below hB7)
  replace O3 := Lib.hid (O3.out.below hB7)
  replace O5 := Lib.hid (O5.out.below hB7)
  replace O6 := Lib.hid (O6.out.below hB7)
  have zz_w7 := hB7.size
  replace BW := Lib.hid (show Below w.heap.size w w7 from BW.out.trans (hB7.mono BW.out.size))
  clear hB7
  have Hl2 := Lib.hid (show ∀ i, ([a, b].getD i []).length ≤ 1099511627776 from fun i => by
    match i with
    | 0 => simp; omega
    | 1 => simp; omega
    | i + 2 => simp)
  have Hfs := Lib.hid (fun (z : Int) (h0 : 0 ≤ z) (h1 : z < 8) => show facS (M : Int) (1 + z) [a, b] = some [(facL (M : Int) a), facL (M : Int) b] by
    unfold facS
    rw [Hm.out]
    have e : inB 1 (1 + z) 8 = true := by simp [inB]; omega
    rw [e]
    simp [HFa.out.1, HFb.out.1])
  go_upto_region 12 with fail
  go_cut [20, 21] (fun v t wx => ∃ p q, v = .slice p 2 q ∧ t = .bool true ∧ RdSS wx (.slice p 2 q) [(facL (M : Int) a), facL (M : Int) b] ∧ Below w7.heap.size w7 wx)
  case first =>
    as_aux_lemma =>
    clear T
    have bw := BW.out
    have hzw := bw.size
    go_region_held3 (fun w' => w'.cell? ⟨a7, 0, none⟩ = some (.slice p7 a.length q7) ∧ w'.cell? ⟨a8, 0, none⟩ = some (.slice p8 b.length q8))
      (((try dsimp only); (repeat' (refine And.intro ?_ ?_)); all_goals (first | assumption | (refine (Below.cell (B := w7.heap.size) (w := w7) ?_ ?_).trans ?_ <;> (first | assumption | omega | (simp only; omega) | (skip; (repeat' (first | (with_reducible exact Below.refl _ _) | (with_reducible assumption) | (with_reducible refine Below.alloc ?_ ?_ _) | (with_reducible refine Below.setCell ?_ ?_ _) | (with_reducible refine Below.drew ?_) | (with_reducible refine Below.via (by assumption) ?_ ?_) | go_size)); done))) | (go_keep; done))))
      (first
        | (go_at_call 14; ((with_reducible refine (b10At_law _ more 1 8 _ (Rm.out.below (by (repeat' (first | (with_reducible exact Below.refl _ _) | (with_reducible assumption) | (with_reducible refine Below.alloc ?_ ?_ _) | (with_reducible refine Below.setCell ?_ ?_ _) | (with_reducible refine Below.drew ?_) | (with_reducible refine Below.via (by assumption) ?_ ?_) | go_size)))) (by omega) (by omega) (by omega) (by omega)).mono ?_); rintro e w' ⟨z, rfl, hz0, hz1, rfl⟩; have hz2 : IntKind.i64.wrap (1 + z) = 1 + z := IntWalk.i64_in _ ⟨by omega, by omega⟩))
        | (go_at_call 52; ((with_reducible refine (FactorsShared_impl _ [a, b] (M : Int) (1 + z) _ (lit2c (by go_simp) (by go_simp) (R7.out.below (by (repeat' (first | (with_reducible exact Below.refl _ _) | (with_reducible assumption) | (with_reducible refine Below.alloc ?_ ?_ _) | (with_reducible refine Below.setCell ?_ ?_ _) | (with_reducible refine Below.drew ?_) | (with_reducible refine Below.via (by assumption) ?_ ?_) | go_size)))) (R8.out.below (by (repeat' (first | (with_reducible exact Below.refl _ _) | (with_reducible assumption) | (with_reducible refine Below.alloc ?_ ?_ _) | (with_reducible refine Below.setCell ?_ ?_ _) | (with_reducible refine Below.drew ?_) | (with_reducible refine Below.via (by assumption) ?_ ?_) | go_size))))) (by simp) Hl2.out).mono ?_); rintro e ws ⟨vs, rfl, os, bs⟩; rw [Hfs.out z hz0 hz1] at os; rw [Hfs.out z hz0 hz1]; obtain ⟨ps, qs, rfl⟩ := os.rd.shape; have zs := bs.size; (try simp only [World.size_alloc, World.size_drew] at zs))))
    all_goals (go_wp2_with fail; go_meet; exact ⟨ps, qs, rfl, rfl, os.rd.below (by (repeat' (first | (with_reducible exact Below.refl _ _) | (with_reducible assumption) | (with_reducible refine Below.alloc ?_ ?_ _) | (with_reducible refine Below.setCell ?_ ?_ _) | (with_reducible refine Below.drew ?_) | (with_reducible refine Below.via (by assumption) ?_ ?_) | go_size))), by (repeat' (first | (with_reducible exact Below.refl _ _) | (with_reducible assumption) | (with_reducible refine Below.alloc ?_ ?_ _) | (with_reducible refine Below.setCell ?_ ?_ _) | (with_reducible refine Below.drew ?_) | (with_reducible refine Below.via (by assumption) ?_ ?_) | go_size))⟩)
  case rest =>
    obtain ⟨p20, q20, rfl, rfl, hss, hbx⟩ := hcut
    have HSS := Lib.hid hss
    obtain ⟨b0, cap0, hve0, hb0, hc0⟩ := RdSS.open2 hss (by simp)
    simp only [Value.slice.injEq] at hve0
    obtain ⟨rfl, _, rfl⟩ := hve0
    obtain ⟨u0, hu0, ru0⟩ := hc0 0 (by simp)
    obtain ⟨pu, qu, rfl⟩ := ru0.shape'
    simp only [List.getD_cons_zero] at hu0
    rename World => wc
    replace x7 := (hbx.cell (p := ⟨a7, 0, none⟩) l7).trans x7
    replace l7 := World.block_lt_of_cell? _ _ x7
    simp only at l7
    replace x8 := (hbx.cell (p := ⟨a8, 0, none⟩) l8).trans x8
    replace l8 := World.block_lt_of_cell? _ _ x8
    simp only at l8
    replace x9 := (hbx.cell (p := ⟨w1.heap.size, 0, none⟩) l9).trans x9
    replace l9 := World.block_lt_of_cell? _ _ x9
    simp only at l9
    replace x10 := (hbx.cell (p := ⟨w1.heap.size + 1, 0, none⟩) l10).trans x10
    replace l10 := World.block_lt_of_cell? _ _ x10
    simp only at l10
    replace x12 := (hbx.cell (p := ⟨w3.heap.size, 0, none⟩) l12).trans x12
    replace l12 := World.block_lt_of_cell? _ _ x12
    simp only at l12
    replace R7 := Lib.hid (R7.out.below hbx)
    replace R8 := Lib.hid (R8.out.below hbx)
    replace O1 := Lib.hid (O1.out.below hbx)
    replace N1 := Lib.hid (N1.out.below hbx)
    replace O3 := Lib.hid (O3.out.below hbx)
    replace O5 := Lib.hid (O5.out.below hbx)
    replace O6 := Lib.hid (O6.out.below hbx)
    have zz_wc := hbx.size
    replace BW := Lib.hid (show Below w.heap.size w wc from BW.out.trans (hbx.mono BW.out.size))
    clear hbx
    have hl1 : (((facL (M : Int) a).length : Int) != ((facL (M : Int) a).length : Int)) = false := by simp
    have hl2 : ¬ ((b.length : Int) ≤ (R.length : Int)) := by omega
    clear hc0
    go_upto_if 166 with fail
    have T7 := Lib.hid (show BxW wc a7 a from ⟨_, _, x7, R7.out⟩)
    have T8 := Lib.hid (show BxW wc a8 b from ⟨_, _, x8, R8.out⟩)
    have T10 := Lib.hid (show BxW wc (w1.heap.size + 1) (divF a b (M : Int)).2 by rw [HR.out]; exact ⟨_, _, x10, N1.out.rd⟩)
    have T12 := Lib.hid (show BxW wc (w3.heap.size) (mulF (M : Int) (divF a b (M : Int)).1 b) by rw [HQ.out]; exact ⟨_, _, x12, O3.out.rd⟩)
    (iterate 8 (try (first | (exact T HK.out BW.out T7.out T8.out Hn18.out O5.out.rd O6.out.rd HSS.out T10.out T12.out) | go_step)))


end Go.Proofs.Ytlnjkjogedbhfaa
