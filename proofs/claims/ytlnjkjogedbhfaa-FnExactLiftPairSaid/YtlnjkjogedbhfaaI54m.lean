/- LiftPair of the reference: the first loop. Conditions: those of its statement. -/
import Derived.Test.YtlnjkjogedbhfaaI54a
namespace Go.Proofs.Ytlnjkjogedbhfaa
open Go Go.RowKit
set_option linter.unusedSimpArgs false
set_option linter.unusedVariables false

set_option maxRecDepth 100000 in
set_option maxHeartbeats 20000000 in
theorem lifts_tail3 (T : ST7) : ST3 := by
  intro w m p g h pp qp pg qg ph qh wr  x0 x1 x2 x7 x10 x11 x12 x13 x14 x15 x16 x17 x18 x19 x20 x21 x22 x23 x24 x25 x26 x27 x28 x29 x30 x31 x32 x33 x34 x35 x36 x37 x38 x39 x40 x41 x42 x43 x44 x45 x46 x47 x48 x49 x50 x51 x52 x53 x54 x55 x56 x57 x58 x59 x60 x61 x62 x63 x64 x65 x66 x67 x68 x69 x70 x71 x72 x73 x74 x75 x76 x77 x78 x79 x80 x81 x82 x83 x84 x85 x86 x87 x88 x89 x90 x91 x92 x93 x94 x95 x96 x97 x98 x99 x100 x101 x102 x103 x104 x105 x106 x107 x108 x109 x110 x111 x112 x113 x114 x115 x116 x117 x118 x119 x120 x121 x122 x123 x124 x125 x126 x127 x128 x129 x130 x131 x132 x133 x134 x135 x136 x137 x138 x139 x140 x141 x142 x143 x144 x145 x146 x147 x148 x149 x150 x151 x152 x153 x154 x155 x156 x157 x158 x159 x160 x161 x162 x163 x164 x165 x166 x167 x168 x169 x170 x171 x172 x173 x174 x175 x176 x177 x178 x179 x180 x181 x182 x183 x184 x185 x186 x187 x188 x189 x190 x191 x192 x193 x194 x195 x196 x197 x198 x199 x200 x201 x202 x203 x204 x205 x206 x207 x208 x209 x210 x211 x212 x213 x214 x215 x216 x217 x218 x219 x220 x221 x222 HK0 HB0 
  have HB := Lib.hid HB0
  have HK := Lib.hid HK0
  have Hp := Lib.hid HK0.rp
  have Hg := Lib.hid HK0.rg
  have Hh := Lib.hid HK0.rh
  have C := Lib.hid HK0.c
  have Ho := Lib.hid HK0.ho
  have hm := Lib.hid HK0.c.hm
  have Og := Lib.hid HK0.c.og
  have Oh := Lib.hid HK0.c.oh
  have Hvp := Lib.hid (validB_iff.1 HK0.vp)
  have hpn := Lib.hid ((validB_ne HK0.vp).1)
  have hm2 := primeB_bd hm.out
  have hlg := HK0.c.lg
  have hlh := HK0.c.lh
  have Fl : g.length ≤ 17 ∧ h.length ≤ 17 := ⟨HK0.lg, HK0.lh⟩
  have hlp2 := Hvp.out.len
  have hlp3 := HK0.c.lp
  have HPl := Lib.hid (C.out.len)
  have hzg : zeroB g = false := long_zero (by omega)
  clear HK0 HB0
  conv => arg 2; whnf
  have hplen := C.out.lp
  obtain ⟨wx, rfl⟩ : ∃ wx : World, wx = wr := ⟨_, rfl⟩
  have x4 := HB.out.c4
  have l4 := World.block_lt_of_cell? _ _ x4
  have x5 := HB.out.c5
  have l5 := World.block_lt_of_cell? _ _ x5
  have x6 := HB.out.c6
  have l6 := World.block_lt_of_cell? _ _ x6
  have x8 := HB.out.c8
  have l8 := World.block_lt_of_cell? _ _ x8
  have x9 := HB.out.c9
  have l9 := World.block_lt_of_cell? _ _ x9
  simp only at l4 l5 l6 l8 l9
  have y8 := HB.out.f8
  have y9 := HB.out.f9
  have hsq1 : 0 ≤ m * m := Int.mul_nonneg (by omega) (by omega)
  have hsq2 : m * m ≤ 13 * 13 := Int.mul_le_mul hm2.2 hm2.2 (by omega) (by omega)
  have hsq3 : 0 < m * m := Int.mul_pos (by omega) (by omega)
  have hsq : IntKind.i64.wrap (m * m) = m * m := IntWalk.i64_in _ ⟨by omega, by omega⟩
  have hzg : zeroB g = false := long_zero (by omega)
  have hwx := HB.out.lt
  have HBx := HB
  have hpl0 : 0 < p.length := Hvp.out.trd.1
  have hplc : (p.length : Int) ≤ 1099511627776 := by omega
  obtain ⟨bp, fp, qp, hpe, hbp, hcp⟩ := (Hp.out.below HB.out.bel).open hpn.out
  simp only [Value.slice.injEq, true_and] at hpe
  obtain ⟨rfl, rfl⟩ := hpe
  have Hcp := Lib.hid hcp
  clear hcp
  go_upto_region 6 with fail
  go_cut [12] (fun v wy => v = .slice (some ⟨wx.heap.size, 0, none⟩) p.length p.length ∧ RowI wy wx.heap.size (.slice (some ⟨wx.heap.size, 0, none⟩) p.length p.length) (List.replicate p.length 0) ∧ Below wx.heap.size wx wy ∧ wx.heap.size < wy.heap.size)
  case first =>
    as_aux_lemma =>
    go_wp2_with (at_make; refine wpList_makeI _ rfl _ _ _ rfl int64S_under _ _ p.length rfl rfl (by omega) (by omega) (by omega) ?_; intro w1 hr1 hb1 hl1)
    all_goals (go_meet; exact ⟨rfl, hr1, hb1, hl1⟩)
  case rest =>
    obtain ⟨rfl, hRe, hbx, hge⟩ := hcut
    rename World => wy
    have HRe := Lib.hid hRe
    have Bxy := Lib.hid hbx
    replace HB := Lib.hid (HB.out.below hbx)
    have hbpx := hbp
    have Hcp2 := Lib.hid (fun i (hi : i < p.length) => (hbx.cell (p := ⟨bp, fp + i, none⟩) hbp).trans (Hcp.out i hi))
    clear hRe hbx Hcp x4 x5 x6 x8 x9 y8 y9 l4 l5 l6 l8 l9
    have x4 := HB.out.c4
    have l4 := World.block_lt_of_cell? _ _ x4
    have x5 := HB.out.c5
    have l5 := World.block_lt_of_cell? _ _ x5
    have x6 := HB.out.c6
    have l6 := World.block_lt_of_cell? _ _ x6
    have x8 := HB.out.c8
    have l8 := World.block_lt_of_cell? _ _ x8
    have x9 := HB.out.c9
    have l9 := World.block_lt_of_cell? _ _ x9
    simp only at l4 l5 l6 l8 l9
    have y8 := HB.out.f8
    have y9 := HB.out.f9
    have hgb : BdI 1000000 g := Og.out.ov.bd (by omega)
    have hhb : BdI 1000000 h := Oh.out.ov.bd (by omega)
    have Hgb := Lib.hid hgb
    have Hhb := Lib.hid hhb
    have hgl0 : 0 < g.length := by omega
    have hhl0 : 0 < h.length := by omega
    have HPl := Lib.hid (C.out.len)
    clear hgb hhb
    go_upto_region 7 with fail
    go_cut [13] (fun v wz => ∃ b f q, v = .slice (some ⟨b, f, none⟩) (mulZ g h).length q ∧ b < wz.heap.size ∧ wy.heap.size ≤ b ∧ (∀ i, i < (mulZ g h).length → wz.cell? ⟨b, f + i, none⟩ = some (.int .i64 ((mulZ g h).getD i 0))) ∧ Below wy.heap.size wy wz)
    case first =>
      as_aux_lemma =>
      go_wp2_with fail
      (go_at_call 67; ((with_reducible refine (mul_spec _ _ g h _ (Hg.out.below HB.out.bel) (Hh.out.below HB.out.bel) hgl0 hhl0 (by omega) (by omega) Hgb.out Hhb.out).mono ?_); rintro e w1p ⟨vP, rfl, rP, bP⟩))
      have hmn : mulZ g h ≠ [] := List.ne_nil_of_length_pos (by rw [mulZ_length]; omega)
      rcases rP.own with ⟨_, h0⟩ | ⟨gq, cq, curq, rfl, hq0, hq1, hq2⟩
      · exact absurd h0 hmn
      have hq3 := (Array.getElem?_eq_some_iff.1 hq1).1
      have hrr := rP.own.rd
      have HQ2 := Lib.hid hq2
      clear hq2 hq1
      go_wp2_with fail
      go_meet
      refine ⟨gq, 0, cq, rfl, hq3, hq0, fun i hi => ?_, bP⟩
      obtain ⟨ao9, cap9, hv9, _, hr9⟩ := hrr
      simp only [Value.slice.injEq] at hv9
      rcases hr9 with hr9 | ⟨b9, o9, ha9, hc9⟩
      · exact absurd hr9 hmn
      · rw [ha9] at hv9
        simp only [Option.some.injEq, Addr.mk.injEq, and_true] at hv9
        obtain ⟨⟨rfl, rfl⟩, _⟩ := hv9
        exact hc9 i hi
    case rest =>
      obtain ⟨bQ, fQ, qQ, rfl, hbQ, hbQ2, hcQ, hbx⟩ := hcut
      rename World => wz
      have HcQ := Lib.hid hcQ
      replace HB := Lib.hid (HB.out.below hbx)
      replace HRe := Lib.hid (HRe.out.below hbx)
      have Hcp3 := Lib.hid (fun i (hi : i < p.length) => (hbx.cell (p := ⟨bp, fp + i, none⟩) (Nat.lt_trans hbpx hge)).trans (Hcp2.out i hi))
      have zyz := hbx.size
      have Bxz := Lib.hid (Bxy.out.trans (hbx.mono (Nat.le_of_lt hge)))
      clear hcQ hbx Hcp2 x4 x5 x6 x8 x9 y8 y9 l4 l5 l6 l8 l9
      have x4 := HB.out.c4
      have l4 := World.block_lt_of_cell? _ _ x4
      have x5 := HB.out.c5
      have l5 := World.block_lt_of_cell? _ _ x5
      have x6 := HB.out.c6
      have l6 := World.block_lt_of_cell? _ _ x6
      have x8 := HB.out.c8
      have l8 := World.block_lt_of_cell? _ _ x8
      have x9 := HB.out.c9
      have l9 := World.block_lt_of_cell? _ _ x9
      simp only at l4 l5 l6 l8 l9
      have y8 := HB.out.f8
      have y9 := HB.out.f9
      have hrl := HRe.out.lt
      have BW := HB.out.bel
      have zw := BW.size
      go_wp2_with fail
      go_loopw [115] (fun i wr => ∃ k : Nat, k ≤ p.length ∧ i = .int .i64 k ∧ RowI wr wx.heap.size (.slice (some ⟨wx.heap.size, 0, none⟩) p.length p.length) (fz (misE m p g h) p.length k) ∧ Only wx.heap.size (wx.heap.size + 1) wz wr) (fun i _ => p.length - (intOf i).toNat)
      case atStart => exact ⟨0, Nat.zero_le _, rfl, by rw [fz_zero]; exact HRe.out, Only.refl _ _ _⟩
      case round =>
        obtain ⟨k, hk, rfl, hrow, honly⟩ := hrel
        have Hrow := Lib.hid hrow
        have Honly := Lib.hid honly
        have hsz := honly.size
        have hrlr := hrow.lt
        clear hrow honly
        by_cases hlt : k < p.length
        · have hlti : (k : Int) < (p.length : Int) := by omega
          have hltq : k < (mulZ g h).length := by rw [mulZ_length]; have := HPl.out; omega
          have hltqi : (k : Int) < ((mulZ g h).length : Int) := by omega
          have cP := (Honly.out.cell (p := ⟨bp, fp + k, none⟩) (by simp only; omega) (by simp only; omega)).trans (Hcp3.out k hlt)
          have cQ := (Honly.out.cell (p := ⟨bQ, fQ + k, none⟩) hbQ (by simp only; omega)).trans (HcQ.out k hltq)
          have c4 := (Honly.out.cell (p := ⟨w.heap.size, 0, none⟩) l4 (by simp only; omega)).trans x4
          have cE := Hrow.out.cell (j := k) (by rw [fz_length]; exact hlt)
          have fE := Hrow.out.frozen k
          have Hx := Lib.hid (Hrow.out.set k (misE m p g h k))
          rw [fz_set hlt] at Hx
          have bd1 := Hvp.out.bd k
          have bd2 := mulZ_bd (Og.out.ov.bd (M := 1000) (by omega)) (Oh.out.ov.bd (M := 1000) (by omega)) Og.out.len k
          obtain ⟨c, hcd⟩ := C.out.dvd k
          have hE : misE m p g h k = c % m := by unfold misE; rw [hcd, Int.mul_ediv_cancel_left _ (by omega)]
          rw [hE] at Hx
          have hcm1 := Int.emod_nonneg c (show m ≠ 0 by omega)
          have hcm2 := Int.emod_lt_of_pos c (show 0 < m by omega)
          generalize p.getD k 0 = X at *
          generalize (mulZ g h).getD k 0 = Y at *
          generalize (fz (misE m p g h) p.length k).getD k 0 = Z at *
          obtain ⟨r1, r2, r3⟩ := mis_ref (c := c) hm2.1 hcd
          generalize c % m = D at *
          have hmD0 : 0 ≤ m * D := Int.mul_nonneg (by omega) hcm1
          have hmD1 : m * D ≤ 13 * 13 := Int.mul_le_mul hm2.2 (by omega) hcm1 (by omega)
          have hw1 : IntKind.i64.wrap (X - Y) = X - Y := IntWalk.i64_in _ ⟨by omega, by omega⟩
          have hw2 : IntKind.i64.wrap D = D := IntWalk.i64_in _ ⟨by omega, by omega⟩
          have hm0 : ¬ (m = 0) := by omega
          have hgE : wx.heap.size ≠ bp := by omega
          have R1 := Lib.hid r1
          have R3 := Lib.hid r3
          clear hcd hE r1 r3
          go_wp2_with fail
          go_region_held3 (fun w' => w'.cell? ⟨w.heap.size, 0, none⟩ = some (.slice (some ⟨bp, fp, none⟩) p.length qp) ∧ w'.cell? ⟨bp, fp + k, none⟩ = some (.int .i64 X) ∧ w'.cell? ⟨bQ, fQ + k, none⟩ = some (.int .i64 Y))
            (((try dsimp only); (repeat' (refine And.intro ?_ ?_)); all_goals (first | assumption | (refine (Below.cell (B := wr.heap.size) (w := wr) ?_ ?_).trans ?_ <;> (first | assumption | omega | (simp only; omega) | (skip; (repeat' (first | (with_reducible exact Below.refl _ _) | (with_reducible assumption) | (with_reducible refine Below.alloc ?_ ?_ _) | (with_reducible refine Below.setCell ?_ ?_ _) | (with_reducible refine Below.drew ?_) | (with_reducible refine Below.via (by assumption) ?_ ?_) | go_size)); done))) | (rw [World.cell?_drew, World.cell?_setCell_far _ _ _ _ (by first | omega | (simp only; omega))]; assumption) | (go_keep; done))))
            (first
              | (go_at_call 73; ((with_reducible refine (mod_spec (X - Y) (m * m) _ (by omega) (by omega) (by omega) (by omega)).mono ?_); rintro e w' ⟨rfl, rfl⟩; rw [R1.out]))
              | (go_at_call 73; ((with_reducible refine (mod_spec D m _ (by omega) (by omega) (by omega) (by omega)).mono ?_); rintro e w' ⟨rfl, rfl⟩; rw [R3.out])))
          go_wp2_with fail
          go_roundw
          case rel => exact ⟨k + 1, by omega, by go_num, Hx.out.below ((Below.refl _ _).drew), (Honly.out.setCell (p := ⟨wx.heap.size, k, none⟩) (Nat.le_refl _) (Nat.lt_succ_self _) _).below' ((Below.refl _ _).drew)⟩
          case measure => simp [intOf]; omega
        · obtain rfl : k = p.length := by omega
          have Ho5 := Lib.hid Hrow.out.own.rd
          rw [fz_all] at Ho5
          have Bwr := Lib.hid (show Below wx.heap.size wz wr from Honly.out.toBelow (Nat.le_refl _) (by omega))
          have Bxr := Bxz.out.trans Bwr.out
          have q1 := Lib.hid (HBx.out.below Bxr)
          have hl5 := buildZ_length (misE m p g h) p.length
          have Hl5 := Lib.hid hl5
          clear Bxr Bwr hl5
          go_upto_region 13 with fail
          exact T HK.out q1.out Ho5.out (by assumption)


end Go.Proofs.Ytlnjkjogedbhfaa

/- LiftPair of the reference: what lacks, bezout's two. Conditions: those of its statement. -/
namespace Go.Proofs.Ytlnjkjogedbhfaa
open Go Go.RowKit
set_option linter.unusedSimpArgs false
set_option linter.unusedVariables false

set_option maxRecDepth 100000 in
set_option maxHeartbeats 20000000 in
theorem lifts_tail7 (T : ST9) : ST7 := by
  intro w m p g h pp qp pg qg ph qh wr pe qe x0 x1 x2 x7 x10 x13 x14 x15 x16 x17 x18 x19 x20 x21 x22 x23 x24 x25 x26 x27 x28 x29 x30 x31 x32 x33 x34 x35 x36 x37 x38 x39 x40 x41 x42 x43 x44 x45 x46 x47 x48 x49 x50 x51 x52 x53 x54 x55 x56 x57 x58 x59 x60 x61 x62 x63 x64 x65 x66 x67 x68 x69 x70 x71 x72 x73 x74 x75 x76 x77 x78 x79 x80 x81 x82 x83 x84 x85 x86 x87 x88 x89 x90 x91 x92 x93 x94 x95 x96 x97 x98 x99 x100 x101 x102 x103 x104 x105 x106 x107 x108 x109 x110 x111 x112 x113 x114 x115 x116 x117 x118 x119 x120 x121 x122 x123 x124 x125 x126 x127 x128 x129 x130 x131 x132 x133 x134 x135 x136 x137 x138 x139 x140 x141 x142 x143 x144 x145 x146 x147 x148 x149 x150 x151 x152 x153 x154 x155 x156 x157 x158 x159 x160 x161 x162 x163 x164 x165 x166 x167 x168 x169 x170 x171 x172 x173 x174 x175 x176 x177 x178 x179 x180 x181 x182 x183 x184 x185 x186 x187 x188 x189 x190 x191 x192 x193 x194 x195 x196 x197 x198 x199 x200 x201 x202 x203 x204 x205 x206 x207 x208 x209 x210 x211 x212 x213 x214 x215 x216 x217 x218 x219 x220 x221 x222 K HK0 HB0 e0 hKK
  have HB := Lib.hid HB0
  have HK := Lib.hid HK0
  have Hp := Lib.hid HK0.rp
  have Hg := Lib.hid HK0.rg
  have Hh := Lib.hid HK0.rh
  have C := Lib.hid HK0.c
  have Ho := Lib.hid HK0.ho
  have hm := Lib.hid HK0.c.hm
  have Og := Lib.hid HK0.c.og
  have Oh := Lib.hid HK0.c.oh
  have Hvp := Lib.hid (validB_iff.1 HK0.vp)
  have hpn := Lib.hid ((validB_ne HK0.vp).1)
  have hm2 := primeB_bd hm.out
  have hlg := HK0.c.lg
  have hlh := HK0.c.lh
  have Fl : g.length ≤ 17 ∧ h.length ≤ 17 := ⟨HK0.lg, HK0.lh⟩
  have hlp2 := Hvp.out.len
  have hlp3 := HK0.c.lp
  have HPl := Lib.hid (C.out.len)
  have hzg : zeroB g = false := long_zero (by omega)
  clear HK0 HB0
  conv => arg 2; whnf
  conv at hKK => ext a' w'; arg 1; arg 2; whnf
  have Ho5 := Lib.hid e0
  clear e0
  obtain ⟨wr, rfl⟩ : ∃ wx : World, wx = wr := ⟨_, rfl⟩
  have hpl0 : 0 < p.length := Hvp.out.trd.1
  have hfzl := buildZ_length (misE m p g h) p.length
  have hmz := Lib.hid (show trimS (buildZ (misE m p g h) p.length) = misZ m p g h from trimS_eq (build_ne hpl0))
  have HM := Lib.hid C.out.misT
  have HZ := Lib.hid C.out.bz
  have HU := Lib.hid C.out.up
  have hlm := HM.out.2
  have hlt2 := HZ.out.2.2.2.1
  have hls2 := HZ.out.2.2.1
  have hgl9 := HPl.out
  have hplen := C.out.lp
  have x4 := HB.out.c4
  have l4 := World.block_lt_of_cell? _ _ x4
  have x5 := HB.out.c5
  have l5 := World.block_lt_of_cell? _ _ x5
  have x6 := HB.out.c6
  have l6 := World.block_lt_of_cell? _ _ x6
  have x8 := HB.out.c8
  have l8 := World.block_lt_of_cell? _ _ x8
  have x9 := HB.out.c9
  have l9 := World.block_lt_of_cell? _ _ x9
  simp only at l4 l5 l6 l8 l9
  have y8 := HB.out.f8
  have y9 := HB.out.f9
  have BW := HB.out.bel
  go_upto_region 13 with fail
  go_cut [12] (fun v wa => ∃ p1 q1, v = .slice p1 (misZ m p g h).length q1 ∧ RdI wa (.slice p1 (misZ m p g h).length q1) (misZ m p g h) ∧ Below wr.heap.size wr wa)
  case first =>
    as_aux_lemma =>
    go_wp2_with fail
    (go_at_call 74; ((with_reducible refine (trim_spec _ (buildZ (misE m p g h) p.length) _ Ho5.out (by rw [buildZ_length]; omega)).mono ?_); rintro e w1 ⟨v1, rfl, o1, b1⟩))
    rw [hmz.out] at o1
    obtain ⟨p1, q1, rfl⟩ := o1.rd.shape
    have O1 := Lib.hid o1.rd
    clear o1
    go_wp2_with fail
    go_meet
    exact ⟨p1, q1, rfl, O1.out, b1⟩
  case rest =>
    obtain ⟨p1, q1, rfl, hE, hbx⟩ := hcut
    rename World => wa
    have RE := Lib.hid hE
    replace HB := Lib.hid (HB.out.below hbx)
    clear hE hbx BW Ho5 hmz x4 x5 x6 x8 x9 y8 y9 l4 l5 l6 l8 l9
    have x4 := HB.out.c4
    have l4 := World.block_lt_of_cell? _ _ x4
    have x5 := HB.out.c5
    have l5 := World.block_lt_of_cell? _ _ x5
    have x6 := HB.out.c6
    have l6 := World.block_lt_of_cell? _ _ x6
    have x8 := HB.out.c8
    have l8 := World.block_lt_of_cell? _ _ x8
    have x9 := HB.out.c9
    have l9 := World.block_lt_of_cell? _ _ x9
    simp only at l4 l5 l6 l8 l9
    have y8 := HB.out.f8
    have y9 := HB.out.f9
    have BW := HB.out.bel
    go_upto_region 14 with fail
    go_cut [15, 16] (fun vs vt wb => ∃ p2 q2 p3 q3, vs = .slice p2 (bzS m g h).length q2 ∧ vt = .slice p3 (bzT m g h).length q3 ∧ RdI wb (.slice p2 (bzS m g h).length q2) (bzS m g h) ∧ RdI wb (.slice p3 (bzT m g h).length q3) (bzT m g h) ∧ Below wa.heap.size wa wb)
    case first =>
      as_aux_lemma =>
      go_wp2_with fail
      (go_at_call 75; ((with_reducible refine (bezout_spec _ _ p g h m _ (Hg.out.below HB.out.bel) (Hh.out.below HB.out.bel) C.out).mono ?_); rintro e w2 ⟨v2, v3, rfl, o2, o3, b2⟩))
      obtain ⟨p2, q2, rfl⟩ := o2.rd.shape
      obtain ⟨p3, q3, rfl⟩ := o3.rd.shape
      have O2 := Lib.hid o2.rd
      have O3 := Lib.hid o3.rd
      clear o2 o3
      go_wp2_with fail
      go_meet
      exact ⟨p2, q2, p3, q3, rfl, rfl, O2.out, O3.out, b2⟩
    case rest =>
      obtain ⟨p2, q2, p3, q3, rfl, rfl, hS, hT, hbx⟩ := hcut
      go_step
      exact T HK.out (HB.out.below hbx) (RE.out.below hbx) hS hT


end Go.Proofs.Ytlnjkjogedbhfaa

/- LiftPair of the reference: the first division. Conditions: those of its statement. -/
namespace Go.Proofs.Ytlnjkjogedbhfaa
open Go Go.RowKit
set_option linter.unusedSimpArgs false
set_option linter.unusedVariables false

set_option maxRecDepth 100000 in
set_option maxHeartbeats 20000000 in
theorem lifts_tail9 (T : ST10) : ST9 := by
  intro w m p g h pp qp pg qg ph qh wr p1 p2 p3 q1 q2 q3 x0 x1 x2 x7 x10 x13 x14 x17 x18 x19 x20 x21 x22 x23 x24 x25 x26 x27 x28 x29 x30 x31 x32 x33 x34 x35 x36 x37 x38 x39 x40 x41 x42 x43 x44 x45 x46 x47 x48 x49 x50 x51 x52 x53 x54 x55 x56 x57 x58 x59 x60 x61 x62 x63 x64 x65 x66 x67 x68 x69 x70 x71 x72 x73 x74 x75 x76 x77 x78 x79 x80 x81 x82 x83 x84 x85 x86 x87 x88 x89 x90 x91 x92 x93 x94 x95 x96 x97 x98 x99 x100 x101 x102 x103 x104 x105 x106 x107 x108 x109 x110 x111 x112 x113 x114 x115 x116 x117 x118 x119 x120 x121 x122 x123 x124 x125 x126 x127 x128 x129 x130 x131 x132 x133 x134 x135 x136 x137 x138 x139 x140 x141 x142 x143 x144 x145 x146 x147 x148 x149 x150 x151 x152 x153 x154 x155 x156 x157 x158 x159 x160 x161 x162 x163 x164 x165 x166 x167 x168 x169 x170 x171 x172 x173 x174 x175 x176 x177 x178 x179 x180 x181 x182 x183 x184 x185 x186 x187 x188 x189 x190 x191 x192 x193 x194 x195 x196 x197 x198 x199 x200 x201 x202 x203 x204 x205 x206 x207 x208 x209 x210 x211 x212 x213 x214 x215 x216 x217 x218 x219 x220 x221 x222 HK0 HB0 e1 e2 e3
  have HB := Lib.hid HB0
  have HK := Lib.hid HK0
  have Hp := Lib.hid HK0.rp
  have Hg := Lib.hid HK0.rg
  have Hh := Lib.hid HK0.rh
  have C := Lib.hid HK0.c
  have Ho := Lib.hid HK0.ho
  have hm := Lib.hid HK0.c.hm
  have Og := Lib.hid HK0.c.og
  have Oh := Lib.hid HK0.c.oh
  have Hvp := Lib.hid (validB_iff.1 HK0.vp)
  have hpn := Lib.hid ((validB_ne HK0.vp).1)
  have hm2 := primeB_bd hm.out
  have hlg := HK0.c.lg
  have hlh := HK0.c.lh
  have Fl : g.length ≤ 17 ∧ h.length ≤ 17 := ⟨HK0.lg, HK0.lh⟩
  have hlp2 := Hvp.out.len
  have hlp3 := HK0.c.lp
  have HPl := Lib.hid (C.out.len)
  have hzg : zeroB g = false := long_zero (by omega)
  clear HK0 HB0
  conv => arg 2; whnf
  have RE := Lib.hid e1
  have RS := Lib.hid e2
  have RT := Lib.hid e3
  clear e1 e2 e3
  obtain ⟨wb, rfl⟩ : ∃ wb : World, wb = wr := ⟨_, rfl⟩
  have HM := Lib.hid C.out.misT
  have HZ := Lib.hid C.out.bz
  have HU := Lib.hid C.out.up
  have hlm := HM.out.2
  have hlt2 := HZ.out.2.2.2.1
  have hls2 := HZ.out.2.2.1
  have hgl9 := HPl.out
  have hplen := C.out.lp
  have x4 := HB.out.c4
  have l4 := World.block_lt_of_cell? _ _ x4
  have x5 := HB.out.c5
  have l5 := World.block_lt_of_cell? _ _ x5
  have x6 := HB.out.c6
  have l6 := World.block_lt_of_cell? _ _ x6
  have x8 := HB.out.c8
  have l8 := World.block_lt_of_cell? _ _ x8
  have x9 := HB.out.c9
  have l9 := World.block_lt_of_cell? _ _ x9
  simp only at l4 l5 l6 l8 l9
  have y8 := HB.out.f8
  have y9 := HB.out.f9
  have BW := HB.out.bel
  have Ote := Lib.hid (mulF_ovr (m := m) (by omega) HZ.out.2.1 HM.out.1 (by omega))
  have Hcm := Lib.hid (mulF_comm (m := m) (by omega) HZ.out.2.1 HM.out.1 (by omega))
  go_upto_region 15 with fail
  go_cut [17, 18] (fun vq vu wc => ∃ p4 q4 p5 q5, vq = .slice p4 (upQ m p g h).length q4 ∧ vu = .slice p5 (upU m p g h).length q5 ∧ RdI wc (.slice p4 (upQ m p g h).length q4) (upQ m p g h) ∧ RdI wc (.slice p5 (upU m p g h).length q5) (upU m p g h) ∧ Below wb.heap.size wb wc)
  case first =>
    as_aux_lemma =>
    go_region_held3 (fun w' => w'.cell? ⟨w.heap.size + 1, 0, none⟩ = some (.slice pg g.length qg))
      (((try dsimp only); (repeat' (refine And.intro ?_ ?_)); all_goals (first | assumption | (refine (Below.cell (B := wb.heap.size) (w := wb) ?_ ?_).trans ?_ <;> (first | assumption | omega | (simp only; omega) | (skip; (repeat' (first | (with_reducible exact Below.refl _ _) | (with_reducible assumption) | (with_reducible refine Below.alloc ?_ ?_ _) | (with_reducible refine Below.setCell ?_ ?_ _) | (with_reducible refine Below.drew ?_) | (with_reducible refine Below.via (by assumption) ?_ ?_) | go_size)); done))) | (go_keep; done))))
      (first
        | (go_at_call 67; ((with_reducible refine (mul_spec2 _ _ (bzT m g h) (misZ m p g h) m _ (RT.out.below (by (repeat' (first | (with_reducible exact Below.refl _ _) | (with_reducible assumption) | (with_reducible refine Below.alloc ?_ ?_ _) | (with_reducible refine Below.setCell ?_ ?_ _) | (with_reducible refine Below.drew ?_) | (with_reducible refine Below.via (by assumption) ?_ ?_) | go_size)))) (RE.out.below (by (repeat' (first | (with_reducible exact Below.refl _ _) | (with_reducible assumption) | (with_reducible refine Below.alloc ?_ ?_ _) | (with_reducible refine Below.setCell ?_ ?_ _) | (with_reducible refine Below.drew ?_) | (with_reducible refine Below.via (by assumption) ?_ ?_) | go_size)))) hm.out HZ.out.2.1 HM.out.1).mono ?_); rintro e wc ⟨vc, rfl, oc, dc⟩; obtain ⟨pc, qc, rfl⟩ := oc.shape; have zc := dc.size; (try simp only [World.size_drew, World.size_alloc] at zc)))
        | (go_at_call 71; ((with_reducible refine (mods_mul_spec _ (bzT m g h) (misZ m p g h) m _ (oc.below (by (repeat' (first | (with_reducible exact Below.refl _ _) | (with_reducible assumption) | (with_reducible refine Below.alloc ?_ ?_ _) | (with_reducible refine Below.setCell ?_ ?_ _) | (with_reducible refine Below.drew ?_) | (with_reducible refine Below.via (by assumption) ?_ ?_) | go_size)))) hm.out HZ.out.2.1 HM.out.1 (by omega)).mono ?_); rintro e wd ⟨vd, rfl, od, dd⟩; obtain ⟨pd, qd, rfl⟩ := od.rd.shape; have zd := dd.size; (try simp only [World.size_drew, World.size_alloc] at zd)))
        | (go_at_call 76; ((with_reducible refine (divide_spec2 _ _ (mulF m (bzT m g h) (misZ m p g h)) g m _ (od.rd.below (by (repeat' (first | (with_reducible exact Below.refl _ _) | (with_reducible assumption) | (with_reducible refine Below.alloc ?_ ?_ _) | (with_reducible refine Below.setCell ?_ ?_ _) | (with_reducible refine Below.drew ?_) | (with_reducible refine Below.via (by assumption) ?_ ?_) | go_size)))) (Hg.out.below (BW.trans (Below.mono (show Below wb.heap.size wb _ by (repeat' (first | (with_reducible exact Below.refl _ _) | (with_reducible assumption) | (with_reducible refine Below.alloc ?_ ?_ _) | (with_reducible refine Below.setCell ?_ ?_ _) | (with_reducible refine Below.drew ?_) | (with_reducible refine Below.via (by assumption) ?_ ?_) | go_size))) BW.size))) hm.out Ote.out Og.out hzg).mono ?_); rw [Hcm.out]; rintro e we ⟨v4, v5, rfl, o4, o5, d5⟩; obtain ⟨p4, q4, rfl⟩ := o4.rd.shape; obtain ⟨p5, q5, rfl⟩ := o5.rd.shape; have O4 := Lib.hid o4.rd; have O5 := Lib.hid o5.rd; have z5 := d5.size; (try simp only [World.size_drew, World.size_alloc] at z5))))
    all_goals (go_wp2_with fail; go_meet; exact ⟨p4, q4, p5, q5, rfl, rfl, O4.out, O5.out, by (repeat' (first | (with_reducible exact Below.refl _ _) | (with_reducible assumption) | (with_reducible refine Below.alloc ?_ ?_ _) | (with_reducible refine Below.setCell ?_ ?_ _) | (with_reducible refine Below.drew ?_) | (with_reducible refine Below.via (by assumption) ?_ ?_) | go_size))⟩)
  case rest =>
    obtain ⟨p4, q4, p5, q5, rfl, rfl, hQ, hU, hbx⟩ := hcut
    go_step
    exact T HK.out (HB.out.below hbx) (RE.out.below hbx) (RS.out.below hbx) hQ hU


end Go.Proofs.Ytlnjkjogedbhfaa
