/- FnOver: the products of the factors, the linear ones counted. Conditions: those of its statement. -/
import Derived.Test.YtlnjkjogedbhfaaIOy
import Derived.Deep.RegionHeld3
namespace Go.Proofs.Ytlnjkjogedbhfaa
open Go Go.RowKit
set_option linter.unusedSimpArgs false
set_option linter.unusedVariables false
set_option linter.unusedSimpArgs false
set_option linter.unusedVariables false

theorem OwI.own {w : World} {B : Nat} {v : Value} {zs : List Int} (h : OwI w B v zs) (hn : zs ≠ []) : ∃ g q, v = .slice (some ⟨g, 0, none⟩) zs.length q ∧ B ≤ g := by
  rcases h with h | ⟨g, cap, cur, h1, h2, h3⟩
  · exact absurd h.2 hn
  · exact ⟨g, cap, h1, h2⟩
theorem RdSS.open3 {w : World} {v : Value} {lss : List (List (List Int))} (h : RdSS w v lss) (hn : lss ≠ []) : ∃ b cap, v = .slice (some ⟨b, 0, none⟩) lss.length cap ∧ b < w.heap.size ∧ ∀ i, i < lss.length → ∃ u, w.cell? ⟨b, i, none⟩ = some u ∧ RdWs w u (lss.getD i []) := by
  obtain ⟨ao, cap, hv, _, hr⟩ := h
  rcases hr with hr | ⟨b, rfl, hl, hc⟩
  · exact absurd hr hn
  · exact ⟨b, cap, hv, hl, hc⟩
theorem linU_le (L : List (List Int)) : ∀ k, linU L k ≤ k
  | 0 => Nat.le_refl _
  | k + 1 => by
    have h := linU_le L k
    simp only [linU, linE]
    split <;> omega
/-- The box of the product: its list lies in memory of its own. -/
def AllX (w : World) (B k : Nat) (zs : List Int) : Prop := ∃ p q, w.cell? ⟨k, 0, none⟩ = some (.slice (some ⟨p, 0, none⟩) zs.length q) ∧ w.frozen? ⟨k, 0, none⟩ = false ∧ RdI w (.slice (some ⟨p, 0, none⟩) zs.length q) zs ∧ B ≤ p ∧ p ≠ k

set_option maxRecDepth 1000000 in
set_option maxHeartbeats 20000000 in
theorem over_tail16 (T : OT17) : OT16 := by
  intro w M code more a b pc qc pm qm wr a7 a8 p14 p16 p18 p20 q14 q16 q18 q20 n18 a24 p24 q24 Wb x2 x3 x4 x5 x9 x10 x11 x12 x13 x15 x17 x19 x21 x22 x23 x26 x27 x28 x29 x30 x31 x32 x33 x34 x35 x36 x37 x38 x39 x40 x41 x42 x43 x44 x45 x46 x47 x48 x49 x50 x51 x52 x53 x54 x55 x56 x57 x58 x59 x60 x61 x62 x63 x64 x65 x66 x67 x68 x69 x70 x71 x72 x73 x74 x75 x76 x77 x78 x79 x80 x81 x82 x83 x84 x85 x86 x87 x88 x89 x90 x91 x92 x93 x94 x95 x96 x97 x98 x99 x100 x101 x102 x103 x104 x105 x106 x107 x108 x109 x110 x111 x112 x113 x114 x115 x116 x117 x118 x119 x120 x121 x122 x123 x124 x125 x126 x127 x128 x129 x130 x131 x132 x133 x134 x135 x136 x137 x138 x139 x140 x141 x142 x143 x144 x145 x146 x147 x148 x149 x150 x151 x152 x153 x154 x155 x156 x157 x158 x159 x160 x161 x162 x163 x164 x165 x166 x167 x168 x169 x170 x171 x172 x173 x174 x175 x176 x177 x178 x179 x180 x181 x182 x183 x184 x185 x186 x187 x188 x189 x190 x191 x192 x193 x194 x195 x196 x197 x198 x199 x200 x201 x202 x203 x204 x205 x206 x207 x208 x209 x210 x211 x212 x213 x214 x215 x216 x217 x218 x219 x220 x221 x222 x223 x224 x225 x226 x227 x228 x229 x230 x231 x232 x233 x234 x235 x236 x237 x238 x239 x240 x241 x242 x243 x244 x245 x246 x247 x248 x249 x250 x251 x252 x253 x254 x255 x256 x257 x258 x259 x260 x261 x262 x263 x264 x265 x266 x267 x268 x269 x270 x271 x272 x273 x274 x275 x276 x277 x278 x279 x280 x281 x282 x283 x284 x285 x286 x287 x288 x289 x290 x291 x292 x293 x294 x295 x296 x297 x298 x299 x300 x301 x302 x303 x304 x305 x306 x307 x308 x309 x310 x311 x312 x313 x314 x315 x316 x317 x318 x319 x320 x321 x322 x323 x324 x325 x326 x327 x328 x329 x330 x331 x332 x333 x334 x335 x336 x337 x338 x339 x340 x341 x342 x343 x344 x345 x346 x347 x348 x349 x350 x351 x352 x353 x354 x355 x356 x357 x358 x359 x360 x361 x362 x363 x364 x365 x366 x367 x368 x369 x370 x371 x372 x373 x374 x375 x376 x377 x378 x379 x380 x381 x382 x383 x384 x385 x386 x387 x388 x389 x390 x391 x392 x393 x394 x395 x396 x397 x398 x399 x400 x401 x402 x403 x404 x405 x406 x407 x408 x409 x410 x411 x412 x413 x414 x415 HK0 bW e7 e8 hn18 r14 r16 r20 bX hp24 hpa0 xc yc RX0
  have HK := Lib.hid HK0
  have hM := HK0.hM
  have Oa := Lib.hid HK0.oa
  have Ob := Lib.hid HK0.ob
  have ha2 := HK0.a2
  have ha6 := HK0.a6
  have hb2 := HK0.b2
  have hb4 := HK0.b4
  have Rc := Lib.hid HK0.rc
  have Rm := Lib.hid HK0.rm
  have Hm := Lib.hid (show primeB (M : Int) = true from primeB_iff.2 (by omega))
  have hm2 : (2 : Int) ≤ M ∧ (M : Int) ≤ 7 := by omega
  have HFa := Lib.hid (facs_of Hm.out Oa.out ha2 ha6)
  have HFb := Lib.hid (facs_of Hm.out Ob.out hb2 (by omega))
  clear HK0
  conv => arg 2; whnf
  have B0 := Lib.hid bW
  have E7 := Lib.hid e7
  have E8 := Lib.hid e8
  have BX0 := Lib.hid bX
  have RX := Lib.hid RX0
  have XC := Lib.hid xc
  have YC := Lib.hid yc
  clear bW e7 e8 bX RX0 xc yc
  have Hn18 := Lib.hid hn18
  have R14 := Lib.hid r14
  have R16 := Lib.hid r16
  have R20 := Lib.hid r20
  clear r14 r16 r20 hn18
  have HF := Lib.hid HFa.out.2.1
  have hLn := HFa.out.2.1.len
  have Hlin := Lib.hid (lin_roots hM Oa.out HFa.out.2.1.nz (by omega) HFa.out.2.2)
  generalize facL (M : Int) a = L at *
  have hne : L ≠ [] := by intro h; rw [h] at hLn; simp at hLn
  obtain ⟨b14, f14, c14, he14, hb14, hc14⟩ := R14.out.open hne
  simp only [Value.slice.injEq, true_and] at he14
  obtain ⟨rfl, rfl⟩ := he14
  obtain ⟨b16, f16, c16, he16, hb16, hc16⟩ := R16.out.open hne
  simp only [Value.slice.injEq, true_and] at he16
  obtain ⟨rfl, rfl⟩ := he16
  obtain ⟨b20, c20, he20, hb20, hc20⟩ := RdSS.open3 R20.out (by simp)
  simp only [Value.slice.injEq] at he20
  obtain ⟨rfl, _, rfl⟩ := he20
  obtain ⟨u20, x20, r20⟩ := hc20 0 (by simp)
  simp only [List.getD_cons_zero] at r20
  obtain ⟨b21, f21, c21, rfl, hb21, hc21⟩ := r20.open hne
  have H14 := Lib.hid hc14
  have H16 := Lib.hid hc16
  have H21 := Lib.hid hc21
  clear hc14 hc16 hc21 hc20 r20 hne
  go_upto_block 2 with fail
  go_cut [25] (fun v wx => v = .int .i64 n18 ∧ Below Wb.heap.size Wb wx ∧ BxW wx a24 a)
  case first =>
    as_aux_lemma =>
    clear T HK Rc Rm E7 E8 Ob HFa HFb R14 R16 R20 B0
    go_wp2_with fail
    go_loopw [25, 219] (fun lin i wr => ∃ k : Nat, k ≤ L.length ∧ lin = .int .i64 (linU L k) ∧ i = .int .i64 k ∧ Below Wb.heap.size Wb wr ∧ AllX wr Wb.heap.size a24 (PL M a L k)) (fun _ i _ => L.length - (intOf i).toNat)
    case atStart => exact ⟨0, Nat.zero_le _, rfl, rfl, BX0.out, ⟨_, _, XC.out, YC.out, RX.out, by omega, by omega⟩⟩
    case round =>
      obtain ⟨k, hk, rfl, rfl, hbel, pA, qA, xA, fA, rA, hpA, hpa⟩ := hrel
      have Hbel := Lib.hid hbel
      have hsz := hbel.size
      have RA := Lib.hid rA
      have HO := Lib.hid (HF.out.pl k hk).1
      have h6 := HF.out.pl6 hk
      clear rA
      by_cases hlt : k < L.length
      · have hlti : (k : Int) < (L.length : Int) := by omega
        obtain ⟨u14, x14, r14⟩ := H14.out k hlt
        obtain ⟨u16, x16, r16⟩ := H16.out k hlt
        obtain ⟨u21, x21, r21⟩ := H21.out k hlt
        have d14 := (hbel.cell (p := ⟨b14, f14 + k, none⟩) hb14).trans x14
        have d16 := (hbel.cell (p := ⟨b16, f16 + k, none⟩) hb16).trans x16
        have d20 := (hbel.cell (p := ⟨b20, 0, none⟩) hb20).trans x20
        have d21 := (hbel.cell (p := ⟨b21, f21 + k, none⟩) hb21).trans x21
        have l20 := World.block_lt_of_cell? _ _ d20
        simp only at l20
        obtain ⟨oF, f2, fl6⟩ := HF.out.el k hlt
        have OF := Lib.hid oF
        have Hps := Lib.hid (PL_succ (M := M) (a := a) hlt)
        have Hls := Lib.hid (show linU L (k + 1) = linU L k + linE L k from rfl)
        have Hel := Lib.hid (show linE L k = if (L.getD k []).length = 2 ∧ (k = 0 ∨ L.getD k [] ≠ L.getD (k - 1) []) then 1 else 0 from rfl)
        have R14 := Lib.hid (r14.below hbel)
        have R16 := Lib.hid (r16.below hbel)
        have R21 := Lib.hid (r21.below hbel)
        have ho6 := HF.out.pl6 (k := k + 1) (by omega)
        rw [Hps.out] at ho6
        have HO1 := Lib.hid (HF.out.pl (k + 1) (by omega)).1
        have X14 := Lib.hid x14
        have RB14 := Lib.hid r14
        clear oF r14 r16 r21 x14 x16 x20 x21 hbel
        obtain ⟨p14, q14, rfl⟩ := R14.out.shape
        obtain ⟨p16, q16, rfl⟩ := R16.out.shape
        obtain ⟨p21, q21, rfl⟩ := R21.out.shape
        have l24 := World.block_lt_of_cell? _ _ xA
        simp only at l24
        generalize PL M a L k = A at *
        generalize L.getD k [] = F at *
        obtain ⟨ws, hws⟩ : ∃ ws : World, ws = wr := ⟨_, rfl⟩
        subst hws
        go_upto_region 31 with fail
        go_cut [27, 28] (fun v t wx => ∃ a27 u, v = .pointer (some ⟨a27, 0, none⟩) ∧ t = .bool true ∧ wx.cell? ⟨a27, 0, none⟩ = some u ∧ OwI wx ws.heap.size u (mulF (M : Int) A F) ∧ ws.heap.size ≤ a27 ∧ Below ws.heap.size ws wx)
        case first =>
          as_aux_lemma =>
          clear d16 d20 d21 Hlin Hls Hel Hps R16 R21 HO1 HF H14 H16 H21 Hbel BX0 RX XC YC
          go_region_held3 (fun w' => w'.cell? ⟨a24, 0, none⟩ = some (.slice (some ⟨pA, 0, none⟩) A.length qA) ∧ w'.cell? ⟨b14, f14 + k, none⟩ = some (.slice p14 F.length q14))
            (((try dsimp only); (repeat' (refine And.intro ?_ ?_)); all_goals (first | assumption | (refine (Below.cell (B := ws.heap.size) (w := ws) ?_ ?_).trans ?_ <;> (first | assumption | omega | (simp only; omega) | (skip; (repeat' (first | (with_reducible exact Below.refl _ _) | (with_reducible assumption) | (with_reducible refine Below.alloc ?_ ?_ _) | (with_reducible refine Below.setCell ?_ ?_ _) | (with_reducible refine Below.drew ?_) | (with_reducible refine Below.via (by assumption) ?_ ?_) | go_size)); done))) | (go_keep; done))))
            (first | (go_at_call 59; ((with_reducible refine (MulOver_spec _ _ A F (M : Int) _ (RA.out.below (by (repeat' (first | (with_reducible exact Below.refl _ _) | (with_reducible assumption) | (with_reducible refine Below.alloc ?_ ?_ _) | (with_reducible refine Below.setCell ?_ ?_ _) | (with_reducible refine Below.drew ?_) | (with_reducible refine Below.via (by assumption) ?_ ?_) | go_size)))) (R14.out.below (by (repeat' (first | (with_reducible exact Below.refl _ _) | (with_reducible assumption) | (with_reducible refine Below.alloc ?_ ?_ _) | (with_reducible refine Below.setCell ?_ ?_ _) | (with_reducible refine Below.drew ?_) | (with_reducible refine Below.via (by assumption) ?_ ?_) | go_size)))) Hm.out HO.out OF.out (by omega) (by omega) (by omega)).mono ?_); rintro e wc ⟨vc, rfl, oc, dc⟩; obtain ⟨pc_, qc_, rfl⟩ := oc.rd.shape; have zc := dc.size; (try simp only [World.size_drew, World.size_alloc] at zc); obtain ⟨cc, fc⟩ := bcell dc; (try have lc1 : ws.heap.size < wc.heap.size := by omega))))
          all_goals (go_wp2_with fail; go_meet; (refine ⟨_, .slice pc_ (mulF (M : Int) A F).length qc_, rfl, rfl, ?_, ?_, ?_, ?_⟩ <;> first | omega | (simp; omega) | (with_reducible exact OwI.mono (OwI.alloc oc _) (by first | omega | (simp only [World.size_alloc, World.size_drew]; omega) | (simp; omega))) | ((with_reducible refine OwI.mono (OwI.setCell oc ?_ _) ?_) <;> (first | omega | (simp only [World.size_alloc, World.size_drew, World.size_setCell]; omega) | (simp; omega))) | ((with_reducible refine OwI.mono (OwI.setCell (OwI.alloc oc _) ?_ _) ?_) <;> (first | omega | (simp only [World.size_alloc, World.size_drew, World.size_setCell]; omega) | (simp; omega))) | (go_simp; done) | (refine cell_set_some ?_; rw [cc _ _ (by first | omega | (simp <;> omega))]; go_simp; done) | (skip; (repeat' (first | (with_reducible exact Below.refl _ _) | (with_reducible assumption) | (with_reducible refine Below.alloc ?_ ?_ _) | (with_reducible refine Below.setCell ?_ ?_ _) | (with_reducible refine Below.drew ?_) | (with_reducible refine Below.via (by assumption) ?_ ?_) | go_size)); done)))
        case rest =>
          obtain ⟨a27, u27, rfl, rfl, x27, o27, h27, b27⟩ := hcut
          go_step
          rename World => wd
          have hNe : mulF (M : Int) A F ≠ [] := by rw [← Hps.out]; exact HO1.out.ne
          obtain ⟨p27, q27, rfl, hp27⟩ := o27.own hNe
          have R27 := Lib.hid o27.rd
          have z27 := b27.size
          have y24 := (b27.cell (p := ⟨a24, 0, none⟩) l24).trans xA
          have g24 := (b27.frozen (p := ⟨a24, 0, none⟩) l24).trans fA
          have e14 := (b27.cell (p := ⟨b14, f14 + k, none⟩) (by simp only; omega)).trans d14
          have e16 := (b27.cell (p := ⟨b16, f16 + k, none⟩) (by simp only; omega)).trans d16
          have e20 := (b27.cell (p := ⟨b20, 0, none⟩) (by simp only; omega)).trans d20
          have e21 := (b27.cell (p := ⟨b21, f21 + k, none⟩) (by simp only; omega)).trans d21
          have l27 := World.block_lt_of_cell? _ _ x27
          simp only at l27
          have k14 : b14 < wd.heap.size := by omega
          have k16 : b16 < wd.heap.size := by omega
          have k20 : b20 < wd.heap.size := by omega
          have k21 : b21 < wd.heap.size := by omega
          have k24 : a24 < wd.heap.size := by omega
          have Rd14 := Lib.hid (R14.out.below b27)
          have Rd16 := Lib.hid (R16.out.below b27)
          have Rd21 := Lib.hid (R21.out.below b27)
          have Hbd := Lib.hid (Hbel.out.trans (b27.mono hsz))
          clear xA fA d14 d16 d20 d21 R14 R16 R21 b27 o27 hNe RA
          go_upto_region 32 with fail
          go_cut [259] (fun v wx => v = .bool false ∧ Below wd.heap.size wd wx)
          case first =>
            as_aux_lemma =>
            clear Hlin Hls Hel Hps HO1 HF H14 H16 H21 Hbel BX0 RX XC YC x27 y24 g24 R27
            go_region_held3 (fun w' => w'.cell? ⟨b14, f14 + k, none⟩ = some (.slice p14 F.length q14) ∧ w'.cell? ⟨b16, f16 + k, none⟩ = some (.slice p16 F.length q16) ∧ w'.cell? ⟨b21, f21 + k, none⟩ = some (.slice p21 F.length q21) ∧ w'.cell? ⟨b20, 0, none⟩ = some (.slice (some ⟨b21, f21, none⟩) L.length c21))
              (((try dsimp only); (repeat' (refine And.intro ?_ ?_)); all_goals (first | assumption | (refine (Below.cell (B := wd.heap.size) (w := wd) ?_ ?_).trans ?_ <;> (first | assumption | omega | (simp only; omega) | (skip; (repeat' (first | (with_reducible exact Below.refl _ _) | (with_reducible assumption) | (with_reducible refine Below.alloc ?_ ?_ _) | (with_reducible refine Below.setCell ?_ ?_ _) | (with_reducible refine Below.drew ?_) | (with_reducible refine Below.via (by assumption) ?_ ?_) | go_size)); done))) | (go_keep; done))))
              (first
                | (go_at_call 25; ((with_reducible refine (b10Whole_law _ _ F _ (Rd14.out.below (by (repeat' (first | (with_reducible exact Below.refl _ _) | (with_reducible assumption) | (with_reducible refine Below.alloc ?_ ?_ _) | (with_reducible refine Below.setCell ?_ ?_ _) | (with_reducible refine Below.drew ?_) | (with_reducible refine Below.via (by assumption) ?_ ?_) | go_size)))) (Rd16.out.below (by (repeat' (first | (with_reducible exact Below.refl _ _) | (with_reducible assumption) | (with_reducible refine Below.alloc ?_ ?_ _) | (with_reducible refine Below.setCell ?_ ?_ _) | (with_reducible refine Below.drew ?_) | (with_reducible refine Below.via (by assumption) ?_ ?_) | go_size)))) OF.out.ne (by omega)).mono ?_); rintro e we ⟨rfl, be⟩; have ze := be.size; (try simp only [World.size_drew, World.size_alloc] at ze); have Be := (show Below wd.heap.size wd we by (repeat' (first | (with_reducible exact Below.refl _ _) | (with_reducible assumption) | (with_reducible refine Below.alloc ?_ ?_ _) | (with_reducible refine Below.setCell ?_ ?_ _) | (with_reducible refine Below.drew ?_) | (with_reducible refine Below.via (by assumption) ?_ ?_) | go_size)))))
                | (go_at_call 25; ((with_reducible refine (b10Whole_law _ _ F _ (Rd21.out.below (by (repeat' (first | (with_reducible exact Below.refl _ _) | (with_reducible assumption) | (with_reducible refine Below.alloc ?_ ?_ _) | (with_reducible refine Below.setCell ?_ ?_ _) | (with_reducible refine Below.drew ?_) | (with_reducible refine Below.via (by assumption) ?_ ?_) | go_size)))) (Rd14.out.below (by (repeat' (first | (with_reducible exact Below.refl _ _) | (with_reducible assumption) | (with_reducible refine Below.alloc ?_ ?_ _) | (with_reducible refine Below.setCell ?_ ?_ _) | (with_reducible refine Below.drew ?_) | (with_reducible refine Below.via (by assumption) ?_ ?_) | go_size)))) OF.out.ne (by omega)).mono ?_); rintro e wf ⟨rfl, bf⟩; have zf := bf.size; (try simp only [World.size_drew, World.size_alloc] at zf); have Bf := (show Below wd.heap.size wd wf by (repeat' (first | (with_reducible exact Below.refl _ _) | (with_reducible assumption) | (with_reducible refine Below.alloc ?_ ?_ _) | (with_reducible refine Below.setCell ?_ ?_ _) | (with_reducible refine Below.drew ?_) | (with_reducible refine Below.via (by assumption) ?_ ?_) | go_size))))))
            all_goals (go_wp2_with fail; go_meet; exact ⟨rfl, by (repeat' (first | (with_reducible exact Below.refl _ _) | (with_reducible assumption) | (with_reducible refine Below.alloc ?_ ?_ _) | (with_reducible refine Below.setCell ?_ ?_ _) | (with_reducible refine Below.drew ?_) | (with_reducible refine Below.via (by assumption) ?_ ?_) | go_size))⟩)
          case rest =>
            obtain ⟨rfl, bwt⟩ := hcut
            go_step
            rename World => wt
            have zt := bwt.size
            replace y24 := (bwt.cell (p := ⟨a24, 0, none⟩) k24).trans y24
            replace g24 := (bwt.frozen (p := ⟨a24, 0, none⟩) k24).trans g24
            replace x27 := (bwt.cell (p := ⟨a27, 0, none⟩) l27).trans x27
            replace e14 := (bwt.cell (p := ⟨b14, f14 + k, none⟩) k14).trans e14
            replace Rd14 := Lib.hid (Rd14.out.below bwt)
            replace R27 := Lib.hid (R27.out.below bwt)
            replace Hbd := Lib.hid (Hbd.out.trans (bwt.mono (by have := Hbd.out.size; omega)))
            have Hn27 := Lib.hid hp27
            clear e16 e20 e21 k16 k20 k21 Rd16 Rd21 bwt
            go_upto_region 35 with fail
            generalize hw3 : World.setCell _ _ _ = w3
            have Hw3 := Lib.hid hw3
            clear hw3
            have x3 := Lib.hid (show w3.cell? ⟨a24, 0, none⟩ = some (.slice (some ⟨p27, 0, none⟩) (mulF (M : Int) A F).length q27) by rw [← Hw3.out]; go_simp)
            have g3 := Lib.hid (show w3.frozen? ⟨a24, 0, none⟩ = false by rw [← Hw3.out]; go_simp)
            have R3 := Lib.hid (show RdI w3 (.slice (some ⟨p27, 0, none⟩) (mulF (M : Int) A F).length q27) (mulF (M : Int) A F) by
              rw [← Hw3.out]
              refine R27.out.blk fun p n c hv => Below.heap_setCell _ _ _ _ ?_
              simp only [Value.slice.injEq, Option.some.injEq] at hv
              obtain ⟨rfl, _⟩ := hv
              simp only
              omega)
            have h3 := Lib.hid (show Below Wb.heap.size Wb w3 by rw [← Hw3.out]; have := Hbd.out; (repeat' (first | (with_reducible exact Below.refl _ _) | (with_reducible assumption) | (with_reducible refine Below.alloc ?_ ?_ _) | (with_reducible refine Below.setCell ?_ ?_ _) | (with_reducible refine Below.drew ?_) | (with_reducible refine Below.via (by assumption) ?_ ?_) | go_size)))
            have d3 := (h3.out.cell (p := ⟨b14, f14 + k, none⟩) hb14).trans X14.out
            have r3 := Lib.hid (RB14.out.below h3.out)
            have z3 := h3.out.size
            clear Hw3 x27 y24 g24 e14 Rd14 R27 Hbd
            obtain ⟨wz, hwz⟩ : ∃ wz : World, wz = w3 := ⟨_, rfl⟩
            have Wz := Lib.hid hwz
            clear hwz
            go_cut [286] (fun v wx => ∃ bb, v = .bool bb ∧ linE L k = (if bb then 1 else 0) ∧ Below wz.heap.size wz wx)
            case first =>
              as_aux_lemma =>
              obtain rfl := Wz.out
              by_cases h2 : F.length = 2
              · have g1 : ((F.length : Int) == 2) = true := by rw [h2]; rfl
                by_cases hk0 : k = 0
                · have HE := Lib.hid (show linE L k = 1 by rw [Hel.out, if_pos ⟨h2, .inl hk0⟩])
                  have g2 : ((k : Int) == 0) = true := by rw [hk0]; rfl
                  clear Hlin Hls Hel Hps HO1 HF H14 H16 H21 Hbel BX0 RX XC YC x3 g3 R3 h3 h2 hk0
                  go_quiet (fail)
                  all_goals (go_wp2_with fail; go_meet; exact ⟨true, rfl, HE.out, drewN_below _ _⟩)
                · have g2 : ((k : Int) == 0) = false := by simp; omega
                  obtain ⟨j, hj⟩ : ∃ j, k = j + 1 := ⟨k - 1, by omega⟩
                  have hwj : IntKind.i64.wrap ((k : Int) - 1) = (j : Int) := by rw [hj]; exact (IntWalk.i64_in _ ⟨by omega, by omega⟩).trans (by omega)
                  have hjl : j < L.length := by omega
                  have hjli : (j : Int) < (L.length : Int) := by omega
                  obtain ⟨uj, xj, rj⟩ := H14.out j hjl
                  have dj := (h3.out.cell (p := ⟨b14, f14 + j, none⟩) hb14).trans xj
                  have Rj := Lib.hid (rj.below h3.out)
                  obtain ⟨oj, j2, jl6⟩ := HF.out.el j hjl
                  have Oj := Lib.hid oj
                  have HE := Lib.hid (show linE L k = if decide (F = L.getD j []) then 0 else 1 by
                    rw [Hel.out, show k - 1 = j by omega]
                    by_cases e : F = L.getD j [] <;> simp [e, h2, hk0])
                  generalize L.getD j [] = G at *
                  obtain ⟨pj, qj, rfl⟩ := Rj.out.shape
                  clear xj rj oj Hlin Hls Hel Hps HO1 HF H14 H16 H21 Hbel BX0 RX XC YC x3 g3 R3 h3 h2 hk0 hj
                  go_region_held3 (fun w' => w'.cell? ⟨b14, f14 + k, none⟩ = some (.slice p14 F.length q14) ∧ w'.cell? ⟨b14, f14 + j, none⟩ = some (.slice pj G.length qj))
                    (((try dsimp only); (repeat' (refine And.intro ?_ ?_)); all_goals (first | assumption | (refine (Below.cell (B := wz.heap.size) (w := wz) ?_ ?_).trans ?_ <;> (first | assumption | omega | (simp only; omega) | (skip; (repeat' (first | (with_reducible exact Below.refl _ _) | (with_reducible assumption) | (with_reducible refine Below.alloc ?_ ?_ _) | (with_reducible refine Below.setCell ?_ ?_ _) | (with_reducible refine Below.drew ?_) | (with_reducible refine Below.via (by assumption) ?_ ?_) | go_size)); done))) | (go_keep; done))))
                    (first
                      | (go_at_call 60; ((with_reducible refine (b10Ints_gen _ _ F G _ (r3.out.below (by (repeat' (first | (with_reducible exact Below.refl _ _) | (with_reducible assumption) | (with_reducible refine Below.alloc ?_ ?_ _) | (with_reducible refine Below.setCell ?_ ?_ _) | (with_reducible refine Below.drew ?_) | (with_reducible refine Below.via (by assumption) ?_ ?_) | go_size)))) (Rj.out.below (by (repeat' (first | (with_reducible exact Below.refl _ _) | (with_reducible assumption) | (with_reducible refine Below.alloc ?_ ?_ _) | (with_reducible refine Below.setCell ?_ ?_ _) | (with_reducible refine Below.drew ?_) | (with_reducible refine Below.via (by assumption) ?_ ?_) | go_size)))) OF.out.ne Oj.out.ne (by omega) (by omega)).mono ?_); rintro e we ⟨rfl, be⟩; have ze := be.size; (try simp only [World.size_drew, World.size_alloc] at ze))))
                  all_goals (go_wp2_with fail; go_meet; refine ⟨!(decide (F = G)), rfl, ?_, by (repeat' (first | (with_reducible exact Below.refl _ _) | (with_reducible assumption) | (with_reducible refine Below.alloc ?_ ?_ _) | (with_reducible refine Below.setCell ?_ ?_ _) | (with_reducible refine Below.drew ?_) | (with_reducible refine Below.via (by assumption) ?_ ?_) | go_size))⟩; rw [HE.out]; cases decide (F = G) <;> rfl)
              · have g1 : ((F.length : Int) == 2) = false := by simp; omega
                have HE := Lib.hid (show linE L k = 0 by rw [Hel.out, if_neg (fun h => h2 h.1)])
                clear Hlin Hls Hel Hps HO1 HF H14 H16 H21 Hbel BX0 RX XC YC x3 g3 R3 h3 h2
                go_quiet (fail)
                all_goals (go_wp2_with fail; go_meet; exact ⟨false, rfl, HE.out, drewN_below _ _⟩)
            case rest =>
              obtain ⟨bb, rfl, hle, bz⟩ := hcut
              obtain rfl := Wz.out
              go_step
              rename World => wv
              have l3 := World.block_lt_of_cell? _ _ x3.out
              simp only at l3
              have HA := Lib.hid (show AllX wv Wb.heap.size a24 (PL M a L (k + 1)) by
                rw [Hps.out]
                exact ⟨p27, q27, (bz.cell (p := ⟨a24, 0, none⟩) l3).trans x3.out, (bz.frozen (p := ⟨a24, 0, none⟩) l3).trans g3.out, R3.out.below bz, by omega, by omega⟩)
              have HB := Lib.hid (h3.out.trans (bz.mono (by omega)))
              have Hle := Lib.hid hle
              have hlu := linU_le L k
              cases bb with
              | false =>
                have HU := Lib.hid (show linU L (k + 1) = linU L k by rw [Hls.out, Hle.out]; rfl)
                clear hle
                go_wp2_with fail
                go_roundw
                case rel => exact ⟨k + 1, by omega, by rw [HU.out], by go_num, HB.out, HA.out⟩
                case measure => simp [intOf]; omega
              | true =>
                have hw1 : IntKind.i64.wrap (((linU L k : Nat) : Int) + 1) = ((linU L k : Nat) : Int) + 1 := IntWalk.i64_in _ ⟨by omega, by omega⟩
                have HU := Lib.hid (show ((linU L (k + 1) : Nat) : Int) = ((linU L k : Nat) : Int) + 1 by rw [Hls.out, Hle.out]; rfl)
                clear hle
                go_wp2_with fail
                go_roundw
                case rel => exact ⟨k + 1, by omega, by rw [HU.out], by go_num, HB.out, HA.out⟩
                case measure => simp [intOf]; omega
      · obtain rfl : k = L.length := by omega
        have hlti : ¬ ((L.length : Int) < (L.length : Int)) := by omega
        rw [HF.out.all] at xA RA
        have HX := Lib.hid (show BxW wr a24 a from ⟨_, _, xA, RA.out⟩)
        have HN := Lib.hid (show linU L L.length = n18 by rw [Hlin.out, Hn18.out])
        clear xA fA RA
        go_wp2_with fail
        go_meet
        exact ⟨by rw [HN.out], Hbel.out, HX.out⟩
  case rest =>
    obtain ⟨rfl, hbx, h24⟩ := hcut
    go_step
    exact T HK.out (B0.out.trans (hbx.mono B0.out.size)) (E7.out.below hbx) (E8.out.below hbx) h24


end Go.Proofs.Ytlnjkjogedbhfaa

/- FnOver: its head. Conditions: none. -/
namespace Go.Proofs.Ytlnjkjogedbhfaa
open Go Go.RowKit
set_option linter.unusedSimpArgs false
set_option linter.unusedVariables false
set_option linter.unusedSimpArgs false
set_option linter.unusedVariables false

set_option maxRecDepth 1000000 in
set_option maxHeartbeats 20000000 in
theorem over_head (T : OT6) (va : Value) (code : List Int) (vb : Value) (more : List Int) (w : World) (ha : RdB w va code) (hb : RdB w vb more) : Calls Try.prog 12 #[va, vb] w (RB true w) := by
  have Ha := Lib.hid ha
  have Hb := Lib.hid hb
  obtain ⟨aoc, cc, rfl⟩ := ha.shape
  obtain ⟨aom, cm, rfl⟩ := hb.shape
  clear ha hb
  cases hlong : longB code more
  case true =>
    have Hlo := Lib.hid hlong
    clear hlong
    go_enter Try.func12, Try.ntmps12
    go_wp2_with fail
    (go_at_call 13; ((with_reducible refine (b10Long_law _ _ code more _ Ha.out Hb.out).mono ?_); rintro e w' ⟨rfl, rfl⟩))
    rw [Hlo.out]
    go_wp2_with fail
    go_ret
    exact ⟨rfl, Below.refl _ _⟩
  have Hlo := Lib.hid hlong
  have hl1 : code.length ≤ 1048576 := by simp [longB] at hlong; omega
  have hl2 : more.length ≤ 1048576 := by simp [longB] at hlong; omega
  clear hlong
  go_enter Try.func12, Try.ntmps12
  go_wp2_with fail
  (go_at_call 13; ((with_reducible refine (b10Long_law _ _ code more _ Ha.out Hb.out).mono ?_); rintro e w' ⟨rfl, rfl⟩))
  rw [Hlo.out]
  go_upto_region 4 with fail
  generalize hw0 : World.alloc _ _ = w0
  have Hw0 := Lib.hid hw0
  clear hw0
  have B0 := Lib.hid (show Below w.heap.size w w0 by rw [← Hw0.out]; (repeat' (first | (with_reducible exact Below.refl _ _) | (with_reducible assumption) | (with_reducible refine Below.alloc ?_ ?_ _) | (with_reducible refine Below.setCell ?_ ?_ _) | (with_reducible refine Below.drew ?_) | (with_reducible refine Below.via (by assumption) ?_ ?_) | go_size)))
  have z0 := B0.out.size
  have c0 : w0.cell? ⟨w.heap.size, 0, none⟩ = some (.int .i64 2) := by rw [← Hw0.out]; go_simp
  have c1 : w0.cell? ⟨w.heap.size, 1, none⟩ = some (.int .i64 3) := by rw [← Hw0.out]; go_simp
  have c2 : w0.cell? ⟨w.heap.size, 2, none⟩ = some (.int .i64 5) := by rw [← Hw0.out]; go_simp
  have c3 : w0.cell? ⟨w.heap.size, 3, none⟩ = some (.int .i64 7) := by rw [← Hw0.out]; go_simp
  go_cut [6] (fun v wx => wx = w0 ∧ ∃ M : Nat, v = .int .i64 (M : Int) ∧ (M = 2 ∨ M = 3 ∨ M = 5 ∨ M = 7))
  case first =>
    as_aux_lemma =>
    clear T
    go_wp2_with fail
    (go_at_call 14; ((with_reducible refine (b10At_law _ more 0 4 _ (Hb.out.below B0.out) (by omega) (by omega) (by omega) (by omega)).mono ?_); rintro e w' ⟨z, rfl, hz0, hz1, rfl⟩))
    have hz : z = 0 ∨ z = 1 ∨ z = 2 ∨ z = 3 := by omega
    rcases hz with rfl | rfl | rfl | rfl
    all_goals
      go_wp2_with fail
      go_meet
      first | exact ⟨rfl, 2, rfl, by omega⟩ | exact ⟨rfl, 3, rfl, by omega⟩ | exact ⟨rfl, 5, rfl, by omega⟩ | exact ⟨rfl, 7, rfl, by omega⟩
  case rest =>
    obtain ⟨hwx, M, rfl, hM⟩ := hcut
    subst hwx
    have hm2 : (2 : Int) ≤ (M : Int) ∧ (M : Int) ≤ 13 := by omega
    clear c0 c1 c2 c3
    go_wp2_with fail
    (go_at_call 15; ((with_reducible refine (over_draw _ code (M : Int) 5 _ (Ha.out.below B0.out) hl1 hm2 (by omega)).mono ?_); rintro e w1 ⟨u1, zs1, rfl, o1, v1, l1a, l1b, b1⟩))
    have z1 := b1.size
    have B1 := Lib.hid (B0.out.trans (b1.mono z0))
    have O1 := Lib.hid o1
    have V1 := Lib.hid v1
    obtain ⟨p1, k1, rfl⟩ := o1.rd.shape
    clear o1 v1 b1
    go_upto_region 6 with fail
    generalize hw3 : World.alloc _ _ = w3
    have Hw3 := Lib.hid hw3
    clear hw3
    have b13 : Below w1.heap.size w1 w3 := by rw [← Hw3.out]; (repeat' (first | (with_reducible exact Below.refl _ _) | (with_reducible assumption) | (with_reducible refine Below.alloc ?_ ?_ _) | (with_reducible refine Below.setCell ?_ ?_ _) | (with_reducible refine Below.drew ?_) | (with_reducible refine Below.via (by assumption) ?_ ?_) | go_size))
    have x7 : w3.cell? ⟨w1.heap.size, 0, none⟩ = some (.slice p1 zs1.length k1) := by rw [← Hw3.out]; go_simp
    have B3 := Lib.hid (B1.out.trans (b13.mono B1.out.size))
    have E7 := Lib.hid (show BxW w3 w1.heap.size zs1 from ⟨_, _, x7, O1.out.rd.below b13⟩)
    have z3 := B3.out.size
    clear x7 b13 Hw3 O1 B1
    go_cut [8] (fun v wx => ∃ a8 zs2, v = .pointer (some ⟨a8, 0, none⟩) ∧ BxW wx a8 zs2 ∧ Ovr (M : Int) zs2 ∧ 2 ≤ zs2.length ∧ zs2.length ≤ 4 ∧ Below w3.heap.size w3 wx)
    case first =>
      as_aux_lemma =>
      clear T
      go_wp2_with fail
      (go_at_call 15; ((with_reducible refine (over_draw _ more (M : Int) 3 _ (Hb.out.below (by have h := B3.out; (repeat' (first | (with_reducible exact Below.refl _ _) | (with_reducible assumption) | (with_reducible refine Below.alloc ?_ ?_ _) | (with_reducible refine Below.setCell ?_ ?_ _) | (with_reducible refine Below.drew ?_) | (with_reducible refine Below.via (by assumption) ?_ ?_) | go_size)))) hl2 hm2 (by omega)).mono ?_); rintro e w2 ⟨u2, zs2, rfl, o2, v2, l2a, l2b, b2⟩))
      have z2 := b2.size
      have O2 := Lib.hid o2
      have V2 := Lib.hid v2
      obtain ⟨p2, k2, rfl⟩ := o2.rd.shape
      clear o2 v2
      go_wp2_with fail
      go_meet
      exact ⟨_, zs2, rfl, ⟨p2, k2, by go_simp, O2.out.rd.below (by (repeat' (first | (with_reducible exact Below.refl _ _) | (with_reducible assumption) | (with_reducible refine Below.alloc ?_ ?_ _) | (with_reducible refine Below.setCell ?_ ?_ _) | (with_reducible refine Below.drew ?_) | (with_reducible refine Below.via (by assumption) ?_ ?_) | go_size)))⟩, V2.out, l2a, by omega, by (repeat' (first | (with_reducible exact Below.refl _ _) | (with_reducible assumption) | (with_reducible refine Below.alloc ?_ ?_ _) | (with_reducible refine Below.setCell ?_ ?_ _) | (with_reducible refine Below.drew ?_) | (with_reducible refine Below.via (by assumption) ?_ ?_) | go_size))⟩
    case rest =>
      obtain ⟨a8, zs2, rfl, T8, V2, l2a, l2b, bx⟩ := hcut
      go_step
      exact T (show OK w M code more zs1 zs2 aoc cc aom cm from ⟨Ha.out, Hb.out, hM, V1.out, l1a, by omega, V2, l2a, by omega⟩) (B3.out.trans (bx.mono z3)) (E7.out.below bx) T8

end Go.Proofs.Ytlnjkjogedbhfaa
