/- FnLifted: its head. Conditions: none. -/
import Derived.Test.YtlnjkjogedbhfaaILfo
import Derived.Test.YtlnjkjogedbhfaaI53j
namespace Go.Proofs.Ytlnjkjogedbhfaa
open Go Go.RowKit
set_option linter.unusedSimpArgs false
set_option linter.unusedVariables false

set_option maxRecDepth 100000 in
set_option maxHeartbeats 20000000 in
theorem fn_head (T : FT10) (va : Value) (code : List Int) (vb : Value) (more : List Int) (w : World) (ha : RdB w va code) (hb : RdB w vb more) : Calls Try.prog 3 #[va, vb] w (RB true w) := by
  have Ha := Lib.hid ha
  have Hb := Lib.hid hb
  obtain ⟨aoc, cc, rfl⟩ := ha.shape
  obtain ⟨aom, cm, rfl⟩ := hb.shape
  clear ha hb
  cases hlong : longB code more
  case true =>
    have Hlo := Lib.hid hlong
    clear hlong
    go_enter Try.func3, Try.ntmps3
    go_wp2_with fail
    (go_at_call 13; ((with_reducible refine (b10Long_law _ _ code more _ Ha.out Hb.out).mono ?_); rintro e w' ⟨rfl, rfl⟩))
    rw [Hlo.out]
    go_wp2_with fail
    go_ret
    exact ⟨rfl, Below.refl _ _⟩
  have Hlo := Lib.hid hlong
  have hl1 : code.length ≤ 1048576 := by simp [longB] at hlong; omega
  have hl2 : more.length ≤ 1048576 := by simp [longB] at hlong; omega
  clear hlong
  go_enter Try.func3, Try.ntmps3
  go_wp2_with fail
  (go_at_call 13; ((with_reducible refine (b10Long_law _ _ code more _ Ha.out Hb.out).mono ?_); rintro e w' ⟨rfl, rfl⟩))
  rw [Hlo.out]
  go_upto_region 4 with fail
  generalize hw0 : World.alloc _ _ = w0
  have Hw0 := Lib.hid hw0
  clear hw0
  have B0 := Lib.hid (show Below w.heap.size w w0 by rw [← Hw0.out]; (repeat' (first | (with_reducible exact Below.refl _ _) | (with_reducible assumption) | (with_reducible refine Below.alloc ?_ ?_ _) | (with_reducible refine Below.setCell ?_ ?_ _) | (with_reducible refine Below.drew ?_) | (with_reducible refine Below.via (by assumption) ?_ ?_) | go_size)))
  have z0 := B0.out.size
  have c0 : w0.cell? ⟨w.heap.size, 0, none⟩ = some (.int .i64 2) := by rw [← Hw0.out]; go_simp
  have c1 : w0.cell? ⟨w.heap.size, 1, none⟩ = some (.int .i64 3) := by rw [← Hw0.out]; go_simp
  have c2 : w0.cell? ⟨w.heap.size, 2, none⟩ = some (.int .i64 5) := by rw [← Hw0.out]; go_simp
  have c3 : w0.cell? ⟨w.heap.size, 3, none⟩ = some (.int .i64 7) := by rw [← Hw0.out]; go_simp
  go_cut [6] (fun v wx => wx = w0 ∧ ∃ m : Int, v = .int .i64 m ∧ primeB m = true ∧ m ≤ 7)
  case first =>
    as_aux_lemma =>
    go_wp2_with fail
    (go_at_call 14; ((with_reducible refine (b10At_law _ more 0 4 _ (Hb.out.below B0.out) (by omega) (by omega) (by omega) (by omega)).mono ?_); rintro e w' ⟨z, rfl, hz0, hz1, rfl⟩))
    have hz : z = 0 ∨ z = 1 ∨ z = 2 ∨ z = 3 := by omega
    rcases hz with rfl | rfl | rfl | rfl
    all_goals
      go_wp2_with fail
      go_meet
      exact ⟨rfl, _, rfl, by decide, by omega⟩
  case rest =>
    obtain ⟨hwx, m, rfl, hm, hm7⟩ := hcut
    subst hwx
    have Hm := Lib.hid hm
    have hm2 := primeB_bd hm
    clear c0 c1 c2 c3 hm
    go_wp2_with fail
    (go_at_call 15; ((with_reducible refine (over_draw _ code m 3 _ (Ha.out.below B0.out) hl1 hm2 (by omega)).mono ?_); rintro e w1 ⟨u1, zs1, rfl, o1, v1, l1a, l1b, b1⟩))
    have z1 := b1.size
    have B1 := Lib.hid (B0.out.trans (b1.mono z0))
    have O1 := Lib.hid o1
    have V1 := Lib.hid v1
    obtain ⟨g1, k1, rfl, hg1, hg1b, _⟩ := o1.open v1.ne
    clear o1 v1 b1
    go_wp2_with fail
    (go_at_call 15; ((with_reducible refine (over_draw _ more m 3 _ (Hb.out.below (by have h := B1.out; (repeat' (first | (with_reducible exact Below.refl _ _) | (with_reducible assumption) | (with_reducible refine Below.alloc ?_ ?_ _) | (with_reducible refine Below.setCell ?_ ?_ _) | (with_reducible refine Below.drew ?_) | (with_reducible refine Below.via (by assumption) ?_ ?_) | go_size)))) hl2 hm2 (by omega)).mono ?_); rintro e w2 ⟨u2, zs2, rfl, o2, v2, l2a, l2b, b2⟩))
    have z2 := b2.size
    simp only [World.size_alloc] at z2
    have hb12 : Below w1.heap.size w1 w2 := by (repeat' (first | (with_reducible exact Below.refl _ _) | (with_reducible assumption) | (with_reducible refine Below.alloc ?_ ?_ _) | (with_reducible refine Below.setCell ?_ ?_ _) | (with_reducible refine Below.drew ?_) | (with_reducible refine Below.via (by assumption) ?_ ?_) | go_size))
    have B2 := Lib.hid (B1.out.trans (hb12.mono (by omega)))
    have O1b := Lib.hid (O1.out.below hb12)
    have O2 := Lib.hid o2
    have V2 := Lib.hid v2
    have y7 : w2.cell? ⟨w1.heap.size, 0, none⟩ = some (.slice (some ⟨g1, 0, none⟩) zs1.length k1) := (b2.cell (p := ⟨w1.heap.size, 0, none⟩) (by simp)).trans (by go_simp)
    obtain ⟨g2, k2, rfl, hg2, hg2b, _⟩ := o2.open v2.ne
    simp only [World.size_alloc] at hg2
    clear o2 v2 b2 hb12 O1
    go_upto_region 7 with fail
    generalize hw3 : World.alloc _ _ = w3
    have Hw3 := Lib.hid hw3
    clear hw3
    have b23 : Below w2.heap.size w2 w3 := by rw [← Hw3.out]; (repeat' (first | (with_reducible exact Below.refl _ _) | (with_reducible assumption) | (with_reducible refine Below.alloc ?_ ?_ _) | (with_reducible refine Below.setCell ?_ ?_ _) | (with_reducible refine Below.drew ?_) | (with_reducible refine Below.via (by assumption) ?_ ?_) | go_size))
    have z3 : w3.heap.size = w2.heap.size + 1 := by rw [← Hw3.out]; simp
    have x7 : w3.cell? ⟨w1.heap.size, 0, none⟩ = some (.slice (some ⟨g1, 0, none⟩) zs1.length k1) := (b23.cell (p := ⟨w1.heap.size, 0, none⟩) (by simp only; omega)).trans y7
    have x8 : w3.cell? ⟨w2.heap.size, 0, none⟩ = some (.slice (some ⟨g2, 0, none⟩) zs2.length k2) := by rw [← Hw3.out]; go_simp
    have P1 := Lib.hid (O1b.out.below b23)
    have P2 := Lib.hid (O2.out.below b23)
    have B3 := Lib.hid (B2.out.trans (b23.mono (by omega)))
    have z3' : w2.heap.size < w3.heap.size := by omega
    have S1 := Lib.hid z3
    clear y7 b23 z3 Hw3 O1b O2
    obtain ⟨ca, fa⟩ := P1.out.cellF (j := zs1.length - 1) (by omega)
    obtain ⟨cb, fb⟩ := P2.out.cellF (j := zs2.length - 1) (by omega)
    have h01 : 0 < zs1.length := by omega
    have h02 : 0 < zs2.length := by omega
    have G1 := Lib.hid (setLast_one hm2.1 V1.out l1a (by omega))
    have G2 := Lib.hid (setLast_one hm2.1 V2.out l2a (by omega))
    have nA : ¬ (g1 = g2) := by omega
    have nB : ¬ (g2 = g1) := by omega
    have n17 : ¬ (w1.heap.size = g1) := by omega
    have n27 : ¬ (w1.heap.size = g2) := by omega
    have n18 : ¬ (w2.heap.size = g1) := by omega
    have n28 : ¬ (w2.heap.size = g2) := by omega
    have Q1 := Lib.hid (OwI.block (P1.out.set (zs1.length - 1) 1) (Below.heap_setCell _ ⟨g2, zs2.length - 1, none⟩ (.int .i64 1) g1 nA))
    have Q2 := Lib.hid (OwI.set (OwI.block P2.out (Below.heap_setCell _ ⟨g1, zs1.length - 1, none⟩ (.int .i64 1) g2 nB)) (zs2.length - 1) 1)
    have B5 := Lib.hid (show Below w.heap.size w ((w3.setCell ⟨g1, zs1.length - 1, none⟩ (.int .i64 1)).setCell ⟨g2, zs2.length - 1, none⟩ (.int .i64 1)) from Below.setCell (Below.setCell B3.out (by simp only; omega) _) (by simp only; omega) _)
    have e7 : ((w3.setCell ⟨g1, zs1.length - 1, none⟩ (.int .i64 1)).setCell ⟨g2, zs2.length - 1, none⟩ (.int .i64 1)).cell? ⟨w1.heap.size, 0, none⟩ = some (.slice (some ⟨g1, 0, none⟩) zs1.length k1) := by
      rw [World.cell?_setCell_far _ _ _ _ (by simp only; omega), World.cell?_setCell_far _ _ _ _ (by simp only; omega)]; exact x7
    have e8 : ((w3.setCell ⟨g1, zs1.length - 1, none⟩ (.int .i64 1)).setCell ⟨g2, zs2.length - 1, none⟩ (.int .i64 1)).cell? ⟨w2.heap.size, 0, none⟩ = some (.slice (some ⟨g2, 0, none⟩) zs2.length k2) := by
      rw [World.cell?_setCell_far _ _ _ _ (by simp only; omega), World.cell?_setCell_far _ _ _ _ (by simp only; omega)]; exact x8
    have z5 : ((w3.setCell ⟨g1, zs1.length - 1, none⟩ (.int .i64 1)).setCell ⟨g2, zs2.length - 1, none⟩ (.int .i64 1)).heap.size = w3.heap.size := by simp
    have E7 := Lib.hid e7
    have E8 := Lib.hid e8
    have Z5 := Lib.hid z5
    clear e7 e8 z5
    go_upto_region 9 with fail
    generalize ((w3.setCell ⟨g1, zs1.length - 1, none⟩ (.int .i64 1)).setCell ⟨g2, zs2.length - 1, none⟩ (.int .i64 1)) = w5 at *
    have hGl := Lib.hid (setLast_len zs1)
    have hHl := Lib.hid (setLast_len zs2)
    generalize zs1.set (zs1.length - 1) 1 = G at *
    generalize zs2.set (zs2.length - 1) 1 = H at *
    have e7 := E7.out
    have e8 := E8.out
    have z5 := Z5.out
    have m7 : w1.heap.size < w5.heap.size := by omega
    have m8 : w2.heap.size < w5.heap.size := by omega
    have zw5 := B5.out.size
    have Z5' := Lib.hid z5
    have R1 := Lib.hid Q1.out.rd
    have R2 := Lib.hid Q2.out.rd
    have m1 := (Q1.out.cases1).1
    clear x7 x8 ca fa cb fb P1 P2 z5 E7 E8 Z5 nA nB n17 n27 n18 n28 V1 V2 Q1 Q2 B3 m1
    have Hmul := Lib.hid ((G1.out.sml hm2.2).mul (G2.out.sml hm2.2))
    go_wp2_with fail
    (go_at_call 16; ((with_reducible refine (MulWholes_spec _ _ G H _ (R1.out.below (by (repeat' (first | (with_reducible exact Below.refl _ _) | (with_reducible assumption) | (with_reducible refine Below.alloc ?_ ?_ _) | (with_reducible refine Below.setCell ?_ ?_ _) | (with_reducible refine Below.drew ?_) | (with_reducible refine Below.via (by assumption) ?_ ?_) | go_size)))) (R2.out.below (by (repeat' (first | (with_reducible exact Below.refl _ _) | (with_reducible assumption) | (with_reducible refine Below.alloc ?_ ?_ _) | (with_reducible refine Below.setCell ?_ ?_ _) | (with_reducible refine Below.drew ?_) | (with_reducible refine Below.via (by assumption) ?_ ?_) | go_size)))) (G1.out.sml hm2.2).vld (G2.out.sml hm2.2).vld Hmul.out.1).mono ?_); rintro e w6 ⟨v6, rfl, o6, b6⟩))
    obtain ⟨g6, k6, rfl, hg6, hg6b, _⟩ := o6.open Hmul.out.1.ne
    have O6 := Lib.hid o6
    have B6 := Lib.hid b6
    have HQl := Lib.hid (show (mulZ G H).length = G.length + H.length - 1 from mulZ_length G H)
    have HQb := Lib.hid Hmul.out.2
    clear o6 b6
    generalize mulZ G H = Q at *
    go_upto_if 60 with fail
    generalize hw7 : World.alloc _ _ = w7
    have Hw7 := Lib.hid hw7
    clear hw7
    have hb67 : Below w6.heap.size w6 w7 := by rw [← Hw7.out]; (repeat' (first | (with_reducible exact Below.refl _ _) | (with_reducible assumption) | (with_reducible refine Below.alloc ?_ ?_ _) | (with_reducible refine Below.setCell ?_ ?_ _) | (with_reducible refine Below.drew ?_) | (with_reducible refine Below.via (by assumption) ?_ ?_) | go_size))
    have hb57 : Below w5.heap.size w5 w7 := B6.out.trans (hb67.mono B6.out.size)
    have x9 : w7.cell? ⟨w6.heap.size, 0, none⟩ = some (.slice (some ⟨g6, 0, none⟩) Q.length k6) := by rw [← Hw7.out]; go_simp
    have B05 := B5.out
    have T1 := Lib.hid (show FK w m code more G H Q _ _ _ _ from ⟨Ha.out, Hb.out, Hm.out, G1.out, G2.out, HQl.out⟩)
    have T2 := Lib.hid (show BxW w5 w1.heap.size G from ⟨_, k1, by rw [hGl.out]; exact e7, by rw [hGl.out]; exact R1.out⟩)
    have T3 := Lib.hid (show BxW w5 w2.heap.size H from ⟨_, k2, by rw [hHl.out]; exact e8, by rw [hHl.out]; exact R2.out⟩)
    have T4 := Lib.hid hb57
    have T5 := Lib.hid (O6.out.below hb67)
    have T6 := Lib.hid x9
    have T7 : w6.heap.size ≠ g6 := by omega
    have T0 := Lib.hid B05
    clear hb67 hb57 B05 x9 e7 e8 Hw7
    (iterate 8 (try (first | (exact T T1.out T0.out T2.out T3.out T4.out T5.out HQb.out T6.out T7) | go_step)))

end Go.Proofs.Ytlnjkjogedbhfaa

/- FnLifted: the loop that changes the product. Conditions: those of its statement. -/
namespace Go.Proofs.Ytlnjkjogedbhfaa
open Go Go.RowKit
set_option linter.unusedSimpArgs false
set_option linter.unusedVariables false

set_option maxRecDepth 100000 in
set_option maxHeartbeats 20000000 in
theorem fn_tail10 (T : FT11) : FT10 := by
  intro w m code more G H Q pc qc pm qm wr a7 a8 a9 W gP cP x2 x3 x4 x5 x10 x11 x12 x13 x14 x15 x16 x17 x18 x19 x20 x21 x22 x23 x24 x25 x26 x27 x28 x29 x30 x31 x32 x33 x34 x35 x36 x37 x38 x39 x40 x41 x42 x43 x44 x45 x46 x47 x48 x49 x50 x51 x52 x53 x54 x55 x56 x57 x58 x59 x60 x61 x62 x63 x64 x65 x66 x67 x68 x69 x70 x71 x72 x73 x74 x75 x76 x77 x78 x79 x80 x81 x82 x83 x84 x85 x86 x87 x88 x89 x90 x91 x92 x93 x94 x95 x96 x97 x98 x99 x100 x101 x102 x103 x104 x105 x106 x107 x108 x109 x110 x111 x112 x113 x114 x115 x116 x117 x118 x119 x120 x121 x122 x123 x124 x125 x126 x127 x128 x129 x130 x131 x132 x133 x134 x135 x136 x137 x138 x139 x140 x141 x142 x143 x144 x145 x146 x147 x148 x149 x150 x151 x152 x153 x154 x155 x156 x157 x158 x159 x160 x161 x162 x163 x164 x165 x166 x167 x168 x169 x170 x171 x172 x173 x174 x175 x176 x177 x178 x179 x180 x181 x182 x183 x184 x185 x186 x187 x188 x189 x190 x191 x192 x193 x194 x195 x196 x197 x198 x199 x200 x201 x202 x203 x204 x205 x206 x207 x208 x209 x210 x211 x212 x213 x214 x215 x216 x217 x218 x219 x220 x221 x222 x223 x224 x225 x226 x227 x228 x229 x230 x231 x232 x233 x234 x235 x236 HK0 bW e7 e8 bWr oP hbd x9 n9
  have HK := Lib.hid HK0
  have Gg := Lib.hid HK0.g
  have Gh := Lib.hid HK0.h
  have hm := Lib.hid HK0.hm
  have hm2 := primeB_bd hm.out
  have hg2 := HK0.g.two
  have hg4 := HK0.g.four
  have hh2 := HK0.h.two
  have hh4 := HK0.h.four
  have Hql := Lib.hid HK0.q
  have hq7 : Q.length ≤ 7 ∧ 3 ≤ Q.length := by have := HK0.q; omega
  have Rc := Lib.hid HK0.rc
  have Rm := Lib.hid HK0.rm
  clear HK0
  conv => arg 2; whnf
  have BW := Lib.hid bW
  have E7 := Lib.hid e7
  have E8 := Lib.hid e8
  have BWr := Lib.hid bWr
  have OP := Lib.hid oP
  have Hbd := Lib.hid hbd
  have zW := bW.size
  have zWr := bWr.size
  have hgP : W.heap.size ≤ gP ∧ gP < wr.heap.size := ⟨oP.cases1.2.1, oP.cases1.2.2.1⟩
  have l9 := World.block_lt_of_cell? _ _ x9
  simp only at l9
  obtain ⟨w0, hw0⟩ : ∃ w0 : World, w0 = wr := ⟨_, rfl⟩
  subst hw0
  clear bW e7 e8 bWr oP hbd
  go_upto_block 0 with fail
  go_cut [] (fun wx => ∃ Q' : List Int, Q'.length = Q.length ∧ OwI wx W.heap.size (.slice (some ⟨gP, 0, none⟩) Q.length cP) Q' ∧ Only gP (gP + 1) w0 wx)
  case first =>
    as_aux_lemma =>
    go_wp2_with fail
    go_loopw [11] (fun i wr => ∃ (k : Nat) (Q' : List Int), k ≤ Q.length ∧ i = .int .i64 k ∧ Q'.length = Q.length ∧ BdI (500000 + 100 * k) Q' ∧ OwI wr W.heap.size (.slice (some ⟨gP, 0, none⟩) Q.length cP) Q' ∧ Only gP (gP + 1) w0 wr) (fun i _ => Q.length - (intOf i).toNat)
    case atStart => exact ⟨0, Q, Nat.zero_le _, rfl, rfl, by simpa using Hbd.out, OP.out, Only.refl _ _ _⟩
    case round =>
      obtain ⟨k, Q', hk, rfl, hl, hb, ho, hon⟩ := hrel
      have Hb := Lib.hid hb
      have Ho := Lib.hid ho
      have Hon := Lib.hid hon
      have hl5 := Lib.hid hl
      have hsz := hon.size
      have y9 := (hon.cell (p := ⟨a9, 0, none⟩) l9 (by simp only; omega)).trans x9
      have Bwr := Lib.hid (BW.out.trans ((BWr.out.trans (hon.toBelow (B := W.heap.size) hgP.1 zWr)).mono zW))
      have RC := Lib.hid (Rc.out.below Bwr.out)
      by_cases hlt : k + 1 < Q.length
      · have hlti : (k : Int) + 1 < (Q.length : Int) := by omega
        have hk2 : (k : Int) < (Q.length : Int) := by omega
        have hkn : k < Q.length := by omega
        have hk3 : (k : Int) ≤ 10 := by omega
        obtain ⟨cT, fT⟩ := ho.cellF (j := k) (by omega)
        have bdk := hb k
        have hz := b10A_bd (a := code) (i := (k : Int) + 7) (n := 9) (by omega)
        have hk7 : IntKind.i64.wrap ((k : Int) + 7) = (k : Int) + 7 := IntWalk.i64_in _ ⟨by omega, by omega⟩
        have hk1 : IntKind.i64.wrap ((k : Int) + 1) = (k : Int) + 1 := IntWalk.i64_in _ ⟨by omega, by omega⟩
        generalize hzz : b10A code ((k : Int) + 7) 9 = z at *
        have Hzz := Lib.hid hzz
        have hmz1 : m * (z - 4) ≤ 13 * 4 := Int.le_trans (Int.mul_le_mul_of_nonneg_left (show z - 4 ≤ 4 by omega) (by omega)) (Int.mul_le_mul_of_nonneg_right hm2.2 (by omega))
        have hmz2 : -(13 * 4) ≤ m * (z - 4) := by
          have h1 : m * (-4) ≤ m * (z - 4) := Int.mul_le_mul_of_nonneg_left (by omega) (by omega)
          omega
        have q3 : IntKind.i64.wrap (z - 4) = z - 4 := IntWalk.i64_in _ ⟨by omega, by omega⟩
        have q4 : IntKind.i64.wrap (m * (z - 4)) = m * (z - 4) := IntWalk.i64_in _ ⟨by omega, by omega⟩
        have q5 : IntKind.i64.wrap (Q'.getD k 0 + m * (z - 4)) = Q'.getD k 0 + m * (z - 4) := IntWalk.i64_in _ ⟨by omega, by omega⟩
        have Hx := Lib.hid (ho.set k (Q'.getD k 0 + m * (z - 4)))
        have Hbx := Lib.hid (bd_set (M' := 500000 + 100 * ((k + 1 : Nat) : Int)) (j := k) (y := Q'.getD k 0 + m * (z - 4)) Hb.out (by omega) (by omega))
        have HC := Lib.hid (show Calls Try.prog 14 #[.slice pc code.length qc, .int .i64 ((k : Int) + 7), .int .i64 9] wr.drew (fun e w' => e = .returned (.int .i64 z) ∧ w' = wr.drew) by have h1 := b10At_call _ code ((k : Int) + 7) 9 _ (RC.out.below ((Below.refl _ _).drew)) (by omega) (by omega) (by omega) (by omega); rw [Hzz.out] at h1; exact h1)
        clear hb ho hon hl hzz
        generalize Q'.getD k 0 = X at *
        go_wp2_with fail
        (refine wp_region_still_tail 14 (by kernel_rfl) (by kernel_rfl) ?_; simp only [List.take_succ_cons, List.take_zero, List.drop_succ_cons, List.drop_zero]; repeat (first | still_step | still_call HC.out); (try refine wpStill_nil ?_))
        change wpList _ _ _ _ _ (World.drew _)
        go_wp2_with fail
        go_roundw
        case rel => exact ⟨k + 1, Q'.set k (X + m * (z - 4)), by omega, by go_num, by rw [List.length_set]; exact hl5.out, Hbx.out, Hx.out.below ((Below.refl _ _).drew), (Hon.out.setCell (p := ⟨gP, k, none⟩) (Nat.le_refl _) (Nat.lt_succ_self _) _).below' ((Below.refl _ _).drew)⟩
        case measure => simp [intOf]; omega
      · have hlti : ¬ ((k : Int) + 1 < (Q.length : Int)) := by omega
        have hk1 : IntKind.i64.wrap ((k : Int) + 1) = (k : Int) + 1 := IntWalk.i64_in _ ⟨by omega, by omega⟩
        clear hb ho hon hl
        go_wp2_with fail
        go_meet
        exact ⟨Q', hl5.out, Ho.out, Hon.out⟩
  case rest =>
    obtain ⟨Q', hl, ho, hon⟩ := hcut
    have y9 := (hon.cell (p := ⟨a9, 0, none⟩) l9 (by simp only; omega)).trans x9
    have hb := BWr.out.trans (hon.toBelow (B := W.heap.size) hgP.1 zWr)
    have hr := ho.rd
    rw [← hl] at y9 hr
    go_step
    exact T (HK.out.set hl) (BW.out.trans (hb.mono zW)) (E7.out.below hb) (E8.out.below hb) ⟨_, _, y9, hr⟩


end Go.Proofs.Ytlnjkjogedbhfaa

/- FnLifted: both liftings and their tests. Conditions: those of its statement. -/
namespace Go.Proofs.Ytlnjkjogedbhfaa
open Go Go.RowKit
set_option linter.unusedSimpArgs false
set_option linter.unusedVariables false

set_option maxRecDepth 100000 in
set_option maxHeartbeats 20000000 in
theorem fn_tail11 (T : FT17) : FT11 := by
  intro w m code more G H Q pc qc pm qm wr a7 a8 a9 x2 x3 x4 x5 x10 x11 x12 x13 x14 x15 x16 x17 x18 x19 x20 x21 x22 x23 x24 x25 x26 x27 x28 x29 x30 x31 x32 x33 x34 x35 x36 x37 x38 x39 x40 x41 x42 x43 x44 x45 x46 x47 x48 x49 x50 x51 x52 x53 x54 x55 x56 x57 x58 x59 x60 x61 x62 x63 x64 x65 x66 x67 x68 x69 x70 x71 x72 x73 x74 x75 x76 x77 x78 x79 x80 x81 x82 x83 x84 x85 x86 x87 x88 x89 x90 x91 x92 x93 x94 x95 x96 x97 x98 x99 x100 x101 x102 x103 x104 x105 x106 x107 x108 x109 x110 x111 x112 x113 x114 x115 x116 x117 x118 x119 x120 x121 x122 x123 x124 x125 x126 x127 x128 x129 x130 x131 x132 x133 x134 x135 x136 x137 x138 x139 x140 x141 x142 x143 x144 x145 x146 x147 x148 x149 x150 x151 x152 x153 x154 x155 x156 x157 x158 x159 x160 x161 x162 x163 x164 x165 x166 x167 x168 x169 x170 x171 x172 x173 x174 x175 x176 x177 x178 x179 x180 x181 x182 x183 x184 x185 x186 x187 x188 x189 x190 x191 x192 x193 x194 x195 x196 x197 x198 x199 x200 x201 x202 x203 x204 x205 x206 x207 x208 x209 x210 x211 x212 x213 x214 x215 x216 x217 x218 x219 x220 x221 x222 x223 x224 x225 x226 x227 x228 x229 x230 x231 x232 x233 x234 x235 x236 HK0 bW e7 e8 e9
  have HK := Lib.hid HK0
  have Gg := Lib.hid HK0.g
  have Gh := Lib.hid HK0.h
  have hm := Lib.hid HK0.hm
  have hm2 := primeB_bd hm.out
  have hg2 := HK0.g.two
  have hg4 := HK0.g.four
  have hh2 := HK0.h.two
  have hh4 := HK0.h.four
  have Hql := Lib.hid HK0.q
  have hq7 : Q.length ≤ 7 ∧ 3 ≤ Q.length := by have := HK0.q; omega
  have Rc := Lib.hid HK0.rc
  have Rm := Lib.hid HK0.rm
  clear HK0
  conv => arg 2; whnf
  have BW := Lib.hid bW
  obtain ⟨p7, q7, x7, r7⟩ := e7
  obtain ⟨p8, q8, x8, r8⟩ := e8
  obtain ⟨p9, q9, x9, r9⟩ := e9
  have R7 := Lib.hid r7
  have R8 := Lib.hid r8
  have R9 := Lib.hid r9
  have l7 := World.block_lt_of_cell? _ _ x7
  have l8 := World.block_lt_of_cell? _ _ x8
  have l9 := World.block_lt_of_cell? _ _ x9
  simp only at l7 l8 l9
  have zW := bW.size
  obtain ⟨w0, hw0⟩ : ∃ w0 : World, w0 = wr := ⟨_, rfl⟩
  subst hw0
  clear bW r7 r8 r9
  have hcs := liftR_cases m Q G H
  rcases hcs with ho | ⟨hc, hv, ho⟩
  · have Ho := Lib.hid ho
    clear ho
    go_wp2_with fail
    (go_at_call 17; ((with_reducible refine (LiftPair_spec _ _ _ Q G H m _ (R9.out.below (by (repeat' (first | (with_reducible exact Below.refl _ _) | (with_reducible assumption) | (with_reducible refine Below.alloc ?_ ?_ _) | (with_reducible refine Below.setCell ?_ ?_ _) | (with_reducible refine Below.drew ?_) | (with_reducible refine Below.via (by assumption) ?_ ?_) | go_size)))) (R7.out.below (by (repeat' (first | (with_reducible exact Below.refl _ _) | (with_reducible assumption) | (with_reducible refine Below.alloc ?_ ?_ _) | (with_reducible refine Below.setCell ?_ ?_ _) | (with_reducible refine Below.drew ?_) | (with_reducible refine Below.via (by assumption) ?_ ?_) | go_size)))) (R8.out.below (by (repeat' (first | (with_reducible exact Below.refl _ _) | (with_reducible assumption) | (with_reducible refine Below.alloc ?_ ?_ _) | (with_reducible refine Below.setCell ?_ ?_ _) | (with_reducible refine Below.drew ?_) | (with_reducible refine Below.via (by assumption) ?_ ?_) | go_size)))) (by omega) (by omega) (by omega)).mono ?_); rintro e w1 ⟨v1, u1, rfl, o1, n1, b1⟩))
    rw [Ho.out] at o1 n1
    rw [Ho.out]
    obtain ⟨p1, q1, rfl⟩ := o1.rd.shape
    obtain ⟨s1, t1, rfl⟩ := n1.rd.shape
    obtain ⟨c1, f1⟩ := bcell b1
    have z1 := b1.size
    have B1 := Lib.hid b1
    clear o1 n1 b1
    have k7 : a7 < w1.heap.size := by omega
    have k8 : a8 < w1.heap.size := by omega
    have k9 : a9 < w1.heap.size := by omega
    have B2 := Lib.hid (show Below w0.heap.size w0 ((w1.alloc (.cells #[.slice p1 ([] : List Int).length q1] 27)).alloc (.cells #[.slice s1 ([] : List Int).length t1] 27)) by have h := B1.out; (repeat' (first | (with_reducible exact Below.refl _ _) | (with_reducible assumption) | (with_reducible refine Below.alloc ?_ ?_ _) | (with_reducible refine Below.setCell ?_ ?_ _) | (with_reducible refine Below.drew ?_) | (with_reducible refine Below.via (by assumption) ?_ ?_) | go_size)))
    go_wp2_with fail
    (go_at_call 18; ((with_reducible refine (LiftPair_impl2 _ _ _ Q G H m _ (R9.out.below (by have h := B1.out; (repeat' (first | (with_reducible exact Below.refl _ _) | (with_reducible assumption) | (with_reducible refine Below.alloc ?_ ?_ _) | (with_reducible refine Below.setCell ?_ ?_ _) | (with_reducible refine Below.drew ?_) | (with_reducible refine Below.via (by assumption) ?_ ?_) | go_size)))) (R7.out.below (by have h := B1.out; (repeat' (first | (with_reducible exact Below.refl _ _) | (with_reducible assumption) | (with_reducible refine Below.alloc ?_ ?_ _) | (with_reducible refine Below.setCell ?_ ?_ _) | (with_reducible refine Below.drew ?_) | (with_reducible refine Below.via (by assumption) ?_ ?_) | go_size)))) (R8.out.below (by have h := B1.out; (repeat' (first | (with_reducible exact Below.refl _ _) | (with_reducible assumption) | (with_reducible refine Below.alloc ?_ ?_ _) | (with_reducible refine Below.setCell ?_ ?_ _) | (with_reducible refine Below.drew ?_) | (with_reducible refine Below.via (by assumption) ?_ ?_) | go_size)))) (by omega) (by omega) (by omega)).mono ?_); rintro e w2 ⟨v2, u2, rfl, o2, n2, b2⟩))
    rw [Ho.out] at o2 n2
    rw [Ho.out]
    obtain ⟨p2, q2, rfl⟩ := o2.rd.shape
    obtain ⟨s2, t2, rfl⟩ := n2.rd.shape
    have B3 := Lib.hid (BW.out.trans (((by have h := B1.out; (repeat' (first | (with_reducible exact Below.refl _ _) | (with_reducible assumption) | (with_reducible refine Below.alloc ?_ ?_ _) | (with_reducible refine Below.setCell ?_ ?_ _) | (with_reducible refine Below.drew ?_) | (with_reducible refine Below.via (by assumption) ?_ ?_) | go_size)) : Below w0.heap.size w0 w2)).mono zW))
    clear c1 f1 o2 n2
    go_wp2_with fail
    go_ret
    exact ⟨rfl, by have h := B3.out; have h2 := h.size; (repeat' (first | (with_reducible exact Below.refl _ _) | (with_reducible assumption) | (with_reducible refine Below.alloc ?_ ?_ _) | (with_reducible refine Below.setCell ?_ ?_ _) | (with_reducible refine Below.drew ?_) | (with_reducible refine Below.via (by assumption) ?_ ?_) | go_size))⟩
  · have Ho := Lib.hid ho
    have Hc := Lib.hid hc
    have Hv := Lib.hid hv
    clear ho hc hv
    go_wp2_with fail
    (go_at_call 17; ((with_reducible refine (LiftPair_spec _ _ _ Q G H m _ (R9.out.below (by (repeat' (first | (with_reducible exact Below.refl _ _) | (with_reducible assumption) | (with_reducible refine Below.alloc ?_ ?_ _) | (with_reducible refine Below.setCell ?_ ?_ _) | (with_reducible refine Below.drew ?_) | (with_reducible refine Below.via (by assumption) ?_ ?_) | go_size)))) (R7.out.below (by (repeat' (first | (with_reducible exact Below.refl _ _) | (with_reducible assumption) | (with_reducible refine Below.alloc ?_ ?_ _) | (with_reducible refine Below.setCell ?_ ?_ _) | (with_reducible refine Below.drew ?_) | (with_reducible refine Below.via (by assumption) ?_ ?_) | go_size)))) (R8.out.below (by (repeat' (first | (with_reducible exact Below.refl _ _) | (with_reducible assumption) | (with_reducible refine Below.alloc ?_ ?_ _) | (with_reducible refine Below.setCell ?_ ?_ _) | (with_reducible refine Below.drew ?_) | (with_reducible refine Below.via (by assumption) ?_ ?_) | go_size)))) (by omega) (by omega) (by omega)).mono ?_); rintro e w1 ⟨v1, u1, rfl, o1, n1, b1⟩))
    rw [Ho.out] at o1 n1
    rw [Ho.out]
    obtain ⟨p1, q1, rfl⟩ := o1.rd.shape
    obtain ⟨s1, t1, rfl⟩ := n1.rd.shape
    obtain ⟨c1, f1⟩ := bcell b1
    have z1 := b1.size
    have B1 := Lib.hid b1
    clear o1 n1 b1
    have k7 : a7 < w1.heap.size := by omega
    have k8 : a8 < w1.heap.size := by omega
    have k9 : a9 < w1.heap.size := by omega
    go_wp2_with fail
    (go_at_call 18; ((with_reducible refine (LiftPair_impl2 _ _ _ Q G H m _ (R9.out.below (by have h := B1.out; (repeat' (first | (with_reducible exact Below.refl _ _) | (with_reducible assumption) | (with_reducible refine Below.alloc ?_ ?_ _) | (with_reducible refine Below.setCell ?_ ?_ _) | (with_reducible refine Below.drew ?_) | (with_reducible refine Below.via (by assumption) ?_ ?_) | go_size)))) (R7.out.below (by have h := B1.out; (repeat' (first | (with_reducible exact Below.refl _ _) | (with_reducible assumption) | (with_reducible refine Below.alloc ?_ ?_ _) | (with_reducible refine Below.setCell ?_ ?_ _) | (with_reducible refine Below.drew ?_) | (with_reducible refine Below.via (by assumption) ?_ ?_) | go_size)))) (R8.out.below (by have h := B1.out; (repeat' (first | (with_reducible exact Below.refl _ _) | (with_reducible assumption) | (with_reducible refine Below.alloc ?_ ?_ _) | (with_reducible refine Below.setCell ?_ ?_ _) | (with_reducible refine Below.drew ?_) | (with_reducible refine Below.via (by assumption) ?_ ?_) | go_size)))) (by omega) (by omega) (by omega)).mono ?_); rintro e w2 ⟨v2, u2, rfl, o2, n2, b2⟩))
    rw [Ho.out] at o2 n2
    rw [Ho.out]
    have hb2 : Below w0.heap.size w0 w2 := by have h := B1.out; (repeat' (first | (with_reducible exact Below.refl _ _) | (with_reducible assumption) | (with_reducible refine Below.alloc ?_ ?_ _) | (with_reducible refine Below.setCell ?_ ?_ _) | (with_reducible refine Below.drew ?_) | (with_reducible refine Below.via (by assumption) ?_ ?_) | go_size))
    have z2 := hb2.size
    have x7' := (hb2.cell (p := ⟨a7, 0, none⟩) l7).trans x7
    have x8' := (hb2.cell (p := ⟨a8, 0, none⟩) l8).trans x8
    have x9' := (hb2.cell (p := ⟨a9, 0, none⟩) l9).trans x9
    have B2 := Lib.hid hb2
    have O2 := Lib.hid o2
    have N2 := Lib.hid n2
    have j7 : a7 < w2.heap.size := by omega
    have j8 : a8 < w2.heap.size := by omega
    have j9 : a9 < w2.heap.size := by omega
    have d1 := Lib.hid (liftZ_length m G (upU m Q G H))
    have d2 := Lib.hid (liftZ_length m H (upV m Q G H))
    obtain ⟨p2, q2, rfl⟩ := o2.rd.shape
    obtain ⟨s2, t2, rfl⟩ := n2.rd.shape
    clear c1 f1 x7 x8 x9 o2 n2 b2 hb2
    generalize hL1 : liftZ m G (upU m Q G H) = L1 at *
    generalize hL2 : liftZ m H (upV m Q G H) = L2 at *
    have HL1 := Lib.hid hL1
    have HL2 := Lib.hid hL2
    clear hL1 hL2
    have hn1 : ((L1.length : Int) != (G.length : Int)) = false := by rw [d1.out]; simp
    have hn2 : ((L2.length : Int) != (H.length : Int)) = false := by rw [d2.out]; simp
    have hn3 : ((L1.length : Int) == (G.length : Int)) = true := by rw [d1.out]; simp
    have hn4 : ((L2.length : Int) == (H.length : Int)) = true := by rw [d2.out]; simp
    have hmm : IntKind.i64.wrap (m * m) = m * m := IntWalk.i64_in _ ⟨by have h1 : 0 ≤ m * m := Int.mul_nonneg (by omega) (by omega); omega, by have h1 : m * m ≤ 13 * 13 := Int.mul_le_mul hm2.2 hm2.2 (by omega) (by omega); omega⟩
    go_upto_region 24 with fail
    trace_state
    go_cut [18] (fun v wx => v = .int .i64 (m * m) ∧ wx = (w2.alloc (.cells #[.slice p2 L1.length q2] 27)).alloc (.cells #[.slice s2 L2.length t2] 27))
    case first =>
      as_aux_lemma =>
      go_wp2_with fail
      go_meet
      exact ⟨rfl, rfl⟩
    case rest =>
      obtain ⟨rfl, hwx⟩ := hcut
      subst hwx
      go_step
      have hb : Below w0.heap.size w0 ((w2.alloc (.cells #[.slice p2 L1.length q2] 27)).alloc (.cells #[.slice s2 L2.length t2] 27)) := by have h := B2.out; (repeat' (first | (with_reducible exact Below.refl _ _) | (with_reducible assumption) | (with_reducible refine Below.alloc ?_ ?_ _) | (with_reducible refine Below.setCell ?_ ?_ _) | (with_reducible refine Below.drew ?_) | (with_reducible refine Below.via (by assumption) ?_ ?_) | go_size))
      have hb3 : Below w2.heap.size w2 ((w2.alloc (.cells #[.slice p2 L1.length q2] 27)).alloc (.cells #[.slice s2 L2.length t2] 27)) := by (repeat' (first | (with_reducible exact Below.refl _ _) | (with_reducible assumption) | (with_reducible refine Below.alloc ?_ ?_ _) | (with_reducible refine Below.setCell ?_ ?_ _) | (with_reducible refine Below.drew ?_) | (with_reducible refine Below.via (by assumption) ?_ ?_) | go_size))
      exact T HK.out (BW.out.trans (hb.mono zW)) ⟨p7, q7, (hb3.cell (p := ⟨a7, 0, none⟩) j7).trans x7', R7.out.below hb⟩ ⟨p8, q8, (hb3.cell (p := ⟨a8, 0, none⟩) j8).trans x8', R8.out.below hb⟩ ⟨p9, q9, (hb3.cell (p := ⟨a9, 0, none⟩) j9).trans x9', R9.out.below hb⟩
        (show BxW _ w2.heap.size _ by rw [HL1.out]; exact ⟨p2, q2, by go_simp, O2.out.rd.below hb3⟩) (show BxW _ (w2.heap.size + 1) _ by rw [HL2.out]; exact ⟨s2, t2, by go_simp, N2.out.rd.below hb3⟩) Hc.out (validB_iff.1 Hv.out).bd


end Go.Proofs.Ytlnjkjogedbhfaa

/- FnLifted: the first of the lifted, by its terms. Conditions: those of its statement. -/
namespace Go.Proofs.Ytlnjkjogedbhfaa
open Go Go.RowKit
set_option linter.unusedSimpArgs false
set_option linter.unusedVariables false

set_option maxRecDepth 100000 in
set_option maxHeartbeats 20000000 in
theorem fn_tail17 (T : FT18) : FT17 := by
  intro w m code more G H Q pc qc pm qm wr a7 a8 a9 a15 a16 x2 x3 x4 x5 x10 x11 x12 x13 x14 x17 x19 x20 x21 x22 x23 x24 x25 x26 x27 x28 x29 x30 x31 x32 x33 x34 x35 x36 x37 x38 x39 x40 x41 x42 x43 x44 x45 x46 x47 x48 x49 x50 x51 x52 x53 x54 x55 x56 x57 x58 x59 x60 x61 x62 x63 x64 x65 x66 x67 x68 x69 x70 x71 x72 x73 x74 x75 x76 x77 x78 x79 x80 x81 x82 x83 x84 x85 x86 x87 x88 x89 x90 x91 x92 x93 x94 x95 x96 x97 x98 x99 x100 x101 x102 x103 x104 x105 x106 x107 x108 x109 x110 x111 x112 x113 x114 x115 x116 x117 x118 x119 x120 x121 x122 x123 x124 x125 x126 x127 x128 x129 x130 x131 x132 x133 x134 x135 x136 x137 x138 x139 x140 x141 x142 x143 x144 x145 x146 x147 x148 x149 x150 x151 x152 x153 x154 x155 x156 x157 x158 x159 x160 x161 x162 x163 x164 x165 x166 x167 x168 x169 x170 x171 x172 x173 x174 x175 x176 x177 x178 x179 x180 x181 x182 x183 x184 x185 x186 x187 x188 x189 x190 x191 x192 x193 x194 x195 x196 x197 x198 x199 x200 x201 x202 x203 x204 x205 x206 x207 x208 x209 x210 x211 x212 x213 x214 x215 x216 x217 x218 x219 x220 x221 x222 x223 x224 x225 x226 x227 x228 x229 x230 x231 x232 x233 x234 x235 x236 HK0 bW e7 e8 e9 e15 e16 hc hqb
  have HK := Lib.hid HK0
  have Gg := Lib.hid HK0.g
  have Gh := Lib.hid HK0.h
  have hm := Lib.hid HK0.hm
  have hm2 := primeB_bd hm.out
  have hg2 := HK0.g.two
  have hg4 := HK0.g.four
  have hh2 := HK0.h.two
  have hh4 := HK0.h.four
  have Hql := Lib.hid HK0.q
  have hq7 : Q.length ≤ 7 ∧ 3 ≤ Q.length := by have := HK0.q; omega
  have Rc := Lib.hid HK0.rc
  have Rm := Lib.hid HK0.rm
  clear HK0
  conv => arg 2; whnf
  have BW := Lib.hid bW
  have Hc := Lib.hid hc
  have Hq := Lib.hid hqb
  have E7 := Lib.hid e7
  have E8 := Lib.hid e8
  have E9 := Lib.hid e9
  have E15 := Lib.hid e15
  have E16 := Lib.hid e16
  clear bW hc hqb e7 e8 e9 e15 e16
  obtain ⟨pa, qa, xa, ra⟩ := E15.out
  obtain ⟨pb, qb, xb, rb⟩ := E7.out
  have la := World.block_lt_of_cell? _ _ xa
  have lb := World.block_lt_of_cell? _ _ xb
  simp only at la lb
  obtain ⟨ba, fa, ca, hea, hla, hca⟩ := ra.open (List.ne_nil_of_length_pos (by rw [liftZ_length]; omega))
  obtain ⟨bb, fb, cb, heb, hlb, hcb⟩ := rb.open (List.ne_nil_of_length_pos (by omega))
  simp only [Value.slice.injEq, true_and] at hea heb
  obtain ⟨rfl, rfl⟩ := hea
  obtain ⟨rfl, rfl⟩ := heb
  have Hca := Lib.hid hca
  have Hcb := Lib.hid hcb
  have Hterm := Lib.hid (fun i hi => lift_term (m := m) (x := G) (y := upU m Q G H) (i := i) hm2 Gg.out.ov Hc.out.up.1 hi)
  have Hlen := Lib.hid (liftZ_length m G (upU m Q G H))
  have hmm1 : 4 ≤ m * m := Int.mul_le_mul hm2.1 hm2.1 (by omega) (by omega)
  obtain ⟨w0, hw0⟩ : ∃ w0 : World, w0 = wr := ⟨_, rfl⟩
  subst hw0
  clear ra rb hca hcb
  have zW := BW.out.size
  go_upto_block 2 with fail
  go_cut [] (fun wx => Below w0.heap.size w0 wx)
  case first =>
    as_aux_lemma =>
    clear T HK Hql E7 E8 E9 E15 E16 Rc Rm Gg Gh Hc Hq BW
    generalize liftZ m G (upU m Q G H) = X at *
    generalize hM2 : m * m = M2 at *
    have hXl : X.length ≤ 4 := by rw [Hlen.out]; omega
    clear hM2
    go_wp2_with fail
    go_loopw [128] (fun i wr => ∃ k : Nat, k ≤ X.length ∧ i = .int .i64 k ∧ Below w0.heap.size w0 wr) (fun i _ => X.length - (intOf i).toNat)
    case atStart => exact ⟨0, Nat.zero_le _, rfl, Below.refl _ _⟩
    case round =>
      obtain ⟨k, hk, rfl, hbel⟩ := hrel
      have Hbel := Lib.hid hbel
      have hsz := hbel.size
      by_cases hlt : k < X.length
      · have hlti : (k : Int) < (X.length : Int) := by omega
        have hlt2 : k < G.length := by rw [← Hlen.out]; exact hlt
        have hlt2i : (k : Int) < (G.length : Int) := by omega
        have ea := (hbel.cell (p := ⟨a15, 0, none⟩) la).trans xa
        have eb := (hbel.cell (p := ⟨a7, 0, none⟩) lb).trans xb
        have da := (hbel.cell (p := ⟨ba, fa + k, none⟩) hla).trans (Hca.out k hlt)
        have db := (hbel.cell (p := ⟨bb, fb + k, none⟩) hlb).trans (Hcb.out k hlt2)
        have ht := Hterm.out k hlt2
        clear hbel xa xb
        generalize X.getD k 0 = x at *
        generalize G.getD k 0 = y at *
        obtain ⟨t1, t2, t3⟩ := ht
        have t4 : x % m = y := by rw [← t3, Int.tmod_eq_emod_of_nonneg t1]
        have g1 : decide (x < 0) = false := by simpa using t1
        have g2 : decide (M2 ≤ x) = false := by simpa using t2
        have g3 : (y != y) = false := by simp
        have g4 : (y == y) = true := by simp
        have g5 : ¬ (m = 0) := by omega
        have kk1 : (0 : Int) ≤ (k : Int) := by omega
        clear Hterm Hlen Hca Hcb hlt hlt2 hg2 hg4 hh2 hh4 hq7 hk hmm1
        go_wp2_with fail
        go_big_quiet (fail)
        go_wp2
        go_roundw
        case rel => exact ⟨k + 1, by omega, by go_num, Hbel.out.trans ((drewN_below _ _).mono hsz)⟩
        case measure => simp [intOf]; omega
      · obtain rfl : k = X.length := by omega
        have hlti : ¬ ((X.length : Int) < (X.length : Int)) := by omega
        clear hbel
        go_wp2_with fail
        go_meet
        exact Hbel.out
  case rest =>
    go_step
    exact T HK.out (BW.out.trans (hcut.mono zW)) (E7.out.below hcut) (E8.out.below hcut) (E9.out.below hcut) (E15.out.below hcut) (E16.out.below hcut) Hc.out Hq.out


end Go.Proofs.Ytlnjkjogedbhfaa

/- FnLifted: the second of the lifted, by its terms. Conditions: those of its statement. -/
namespace Go.Proofs.Ytlnjkjogedbhfaa
open Go Go.RowKit
set_option linter.unusedSimpArgs false
set_option linter.unusedVariables false

set_option maxRecDepth 100000 in
set_option maxHeartbeats 20000000 in
theorem fn_tail18 (T : FT19) : FT18 := by
  intro w m code more G H Q pc qc pm qm wr a7 a8 a9 a15 a16 x2 x3 x4 x5 x10 x11 x12 x13 x14 x17 x19 x20 x21 x22 x23 x24 x25 x26 x27 x28 x29 x30 x31 x32 x33 x34 x35 x36 x37 x38 x39 x40 x41 x42 x43 x44 x45 x46 x47 x48 x49 x50 x51 x52 x53 x54 x55 x56 x57 x58 x59 x60 x61 x62 x63 x64 x65 x66 x67 x68 x69 x70 x71 x72 x73 x74 x75 x76 x77 x78 x79 x80 x81 x82 x83 x84 x85 x86 x87 x88 x89 x90 x91 x92 x93 x94 x95 x96 x97 x98 x99 x100 x101 x102 x103 x104 x105 x106 x107 x108 x109 x110 x111 x112 x113 x114 x115 x116 x117 x118 x119 x120 x121 x122 x123 x124 x125 x126 x127 x128 x129 x130 x131 x132 x133 x134 x135 x136 x137 x138 x139 x140 x141 x142 x143 x144 x145 x146 x147 x148 x149 x150 x151 x152 x153 x154 x155 x156 x157 x158 x159 x160 x161 x162 x163 x164 x165 x166 x167 x168 x169 x170 x171 x172 x173 x174 x175 x176 x177 x178 x179 x180 x181 x182 x183 x184 x185 x186 x187 x188 x189 x190 x191 x192 x193 x194 x195 x196 x197 x198 x199 x200 x201 x202 x203 x204 x205 x206 x207 x208 x209 x210 x211 x212 x213 x214 x215 x216 x217 x218 x219 x220 x221 x222 x223 x224 x225 x226 x227 x228 x229 x230 x231 x232 x233 x234 x235 x236 HK0 bW e7 e8 e9 e15 e16 hc hqb
  have HK := Lib.hid HK0
  have Gg := Lib.hid HK0.g
  have Gh := Lib.hid HK0.h
  have hm := Lib.hid HK0.hm
  have hm2 := primeB_bd hm.out
  have hg2 := HK0.g.two
  have hg4 := HK0.g.four
  have hh2 := HK0.h.two
  have hh4 := HK0.h.four
  have Hql := Lib.hid HK0.q
  have hq7 : Q.length ≤ 7 ∧ 3 ≤ Q.length := by have := HK0.q; omega
  have Rc := Lib.hid HK0.rc
  have Rm := Lib.hid HK0.rm
  clear HK0
  conv => arg 2; whnf
  have BW := Lib.hid bW
  have Hc := Lib.hid hc
  have Hq := Lib.hid hqb
  have E7 := Lib.hid e7
  have E8 := Lib.hid e8
  have E9 := Lib.hid e9
  have E15 := Lib.hid e15
  have E16 := Lib.hid e16
  clear bW hc hqb e7 e8 e9 e15 e16
  obtain ⟨pa, qa, xa, ra⟩ := E16.out
  obtain ⟨pb, qb, xb, rb⟩ := E8.out
  have la := World.block_lt_of_cell? _ _ xa
  have lb := World.block_lt_of_cell? _ _ xb
  simp only at la lb
  obtain ⟨ba, fa, ca, hea, hla, hca⟩ := ra.open (List.ne_nil_of_length_pos (by rw [liftZ_length]; omega))
  obtain ⟨bb, fb, cb, heb, hlb, hcb⟩ := rb.open (List.ne_nil_of_length_pos (by omega))
  simp only [Value.slice.injEq, true_and] at hea heb
  obtain ⟨rfl, rfl⟩ := hea
  obtain ⟨rfl, rfl⟩ := heb
  have Hca := Lib.hid hca
  have Hcb := Lib.hid hcb
  have Hterm := Lib.hid (fun i hi => lift_term (m := m) (x := H) (y := upV m Q G H) (i := i) hm2 Gh.out.ov Hc.out.up.2.2.2.2.2.2.1 hi)
  have Hlen := Lib.hid (liftZ_length m H (upV m Q G H))
  have hmm1 : 4 ≤ m * m := Int.mul_le_mul hm2.1 hm2.1 (by omega) (by omega)
  obtain ⟨w0, hw0⟩ : ∃ w0 : World, w0 = wr := ⟨_, rfl⟩
  subst hw0
  clear ra rb hca hcb
  have zW := BW.out.size
  go_upto_block 4 with fail
  go_cut [] (fun wx => Below w0.heap.size w0 wx)
  case first =>
    as_aux_lemma =>
    clear T HK Hql E7 E8 E9 E15 E16 Rc Rm Gg Gh Hc Hq BW
    generalize liftZ m H (upV m Q G H) = X at *
    generalize hM2 : m * m = M2 at *
    have hXl : X.length ≤ 4 := by rw [Hlen.out]; omega
    clear hM2
    go_wp2_with fail
    go_loopw [165] (fun i wr => ∃ k : Nat, k ≤ X.length ∧ i = .int .i64 k ∧ Below w0.heap.size w0 wr) (fun i _ => X.length - (intOf i).toNat)
    case atStart => exact ⟨0, Nat.zero_le _, rfl, Below.refl _ _⟩
    case round =>
      obtain ⟨k, hk, rfl, hbel⟩ := hrel
      have Hbel := Lib.hid hbel
      have hsz := hbel.size
      by_cases hlt : k < X.length
      · have hlti : (k : Int) < (X.length : Int) := by omega
        have hlt2 : k < H.length := by rw [← Hlen.out]; exact hlt
        have hlt2i : (k : Int) < (H.length : Int) := by omega
        have ea := (hbel.cell (p := ⟨a16, 0, none⟩) la).trans xa
        have eb := (hbel.cell (p := ⟨a8, 0, none⟩) lb).trans xb
        have da := (hbel.cell (p := ⟨ba, fa + k, none⟩) hla).trans (Hca.out k hlt)
        have db := (hbel.cell (p := ⟨bb, fb + k, none⟩) hlb).trans (Hcb.out k hlt2)
        have ht := Hterm.out k hlt2
        clear hbel xa xb
        generalize X.getD k 0 = x at *
        generalize H.getD k 0 = y at *
        obtain ⟨t1, t2, t3⟩ := ht
        have t4 : x % m = y := by rw [← t3, Int.tmod_eq_emod_of_nonneg t1]
        have g1 : decide (x < 0) = false := by simpa using t1
        have g2 : decide (M2 ≤ x) = false := by simpa using t2
        have g3 : (y != y) = false := by simp
        have g4 : (y == y) = true := by simp
        have g5 : ¬ (m = 0) := by omega
        have kk1 : (0 : Int) ≤ (k : Int) := by omega
        clear Hterm Hlen Hca Hcb hlt hlt2 hg2 hg4 hh2 hh4 hq7 hk hmm1
        go_wp2_with fail
        go_big_quiet (fail)
        go_wp2
        go_roundw
        case rel => exact ⟨k + 1, by omega, by go_num, Hbel.out.trans ((drewN_below _ _).mono hsz)⟩
        case measure => simp [intOf]; omega
      · obtain rfl : k = X.length := by omega
        have hlti : ¬ ((X.length : Int) < (X.length : Int)) := by omega
        clear hbel
        go_wp2_with fail
        go_meet
        exact Hbel.out
  case rest =>
    go_step
    exact T HK.out (BW.out.trans (hcut.mono zW)) (E7.out.below hcut) (E8.out.below hcut) (E9.out.below hcut) (E15.out.below hcut) (E16.out.below hcut) Hc.out Hq.out


end Go.Proofs.Ytlnjkjogedbhfaa

/- FnLifted: the product, and the end. Conditions: those of its statement. -/
namespace Go.Proofs.Ytlnjkjogedbhfaa
open Go Go.RowKit
set_option linter.unusedSimpArgs false
set_option linter.unusedVariables false

set_option maxRecDepth 100000 in
set_option maxHeartbeats 20000000 in
theorem fn_tail19 : FT19 := by
  intro w m code more G H Q pc qc pm qm wr a7 a8 a9 a15 a16 x2 x3 x4 x5 x10 x11 x12 x13 x14 x17 x19 x20 x21 x22 x23 x24 x25 x26 x27 x28 x29 x30 x31 x32 x33 x34 x35 x36 x37 x38 x39 x40 x41 x42 x43 x44 x45 x46 x47 x48 x49 x50 x51 x52 x53 x54 x55 x56 x57 x58 x59 x60 x61 x62 x63 x64 x65 x66 x67 x68 x69 x70 x71 x72 x73 x74 x75 x76 x77 x78 x79 x80 x81 x82 x83 x84 x85 x86 x87 x88 x89 x90 x91 x92 x93 x94 x95 x96 x97 x98 x99 x100 x101 x102 x103 x104 x105 x106 x107 x108 x109 x110 x111 x112 x113 x114 x115 x116 x117 x118 x119 x120 x121 x122 x123 x124 x125 x126 x127 x128 x129 x130 x131 x132 x133 x134 x135 x136 x137 x138 x139 x140 x141 x142 x143 x144 x145 x146 x147 x148 x149 x150 x151 x152 x153 x154 x155 x156 x157 x158 x159 x160 x161 x162 x163 x164 x165 x166 x167 x168 x169 x170 x171 x172 x173 x174 x175 x176 x177 x178 x179 x180 x181 x182 x183 x184 x185 x186 x187 x188 x189 x190 x191 x192 x193 x194 x195 x196 x197 x198 x199 x200 x201 x202 x203 x204 x205 x206 x207 x208 x209 x210 x211 x212 x213 x214 x215 x216 x217 x218 x219 x220 x221 x222 x223 x224 x225 x226 x227 x228 x229 x230 x231 x232 x233 x234 x235 x236 HK0 bW e7 e8 e9 e15 e16 hc hqb
  have HK := Lib.hid HK0
  have Gg := Lib.hid HK0.g
  have Gh := Lib.hid HK0.h
  have hm := Lib.hid HK0.hm
  have hm2 := primeB_bd hm.out
  have hg2 := HK0.g.two
  have hg4 := HK0.g.four
  have hh2 := HK0.h.two
  have hh4 := HK0.h.four
  have Hql := Lib.hid HK0.q
  have hq7 : Q.length ≤ 7 ∧ 3 ≤ Q.length := by have := HK0.q; omega
  have Rc := Lib.hid HK0.rc
  have Rm := Lib.hid HK0.rm
  clear HK0
  conv => arg 2; whnf
  have BW := Lib.hid bW
  have hS1 := lift_sml hm2 Gg.out hc.up.1 hc.up.2.1
  have hS2 := lift_sml hm2 Gh.out hc.up.2.2.2.2.2.2.1 hc.up.2.2.2.2.2.2.2
  have S1 := Lib.hid hS1
  have S2 := Lib.hid hS2
  have Hsq := Lib.hid (fun i => lift_square hc i)
  have Hq := Lib.hid hqb
  obtain ⟨p15, q15, x15, r15⟩ := e15
  obtain ⟨p16, q16, x16, r16⟩ := e16
  obtain ⟨p9, q9, x9, r9⟩ := e9
  have R15 := Lib.hid r15
  have R16 := Lib.hid r16
  have R9 := Lib.hid r9
  have l9 := World.block_lt_of_cell? _ _ x9
  simp only at l9
  have zW := BW.out.size
  have hmm1 : 4 ≤ m * m := Int.mul_le_mul hm2.1 hm2.1 (by omega) (by omega)
  have hlm := Lib.hid (show (mulZ (liftZ m G (upU m Q G H)) (liftZ m H (upV m Q G H))).length = Q.length by rw [mulZ_length, liftZ_length, liftZ_length]; exact Hql.out.symm)
  obtain ⟨w0, hw0⟩ : ∃ w0 : World, w0 = wr := ⟨_, rfl⟩
  subst hw0
  clear bW hc hqb e7 e8 hS1 hS2 r15 r16 r9
  generalize liftZ m G (upU m Q G H) = L1 at *
  generalize liftZ m H (upV m Q G H) = L2 at *
  go_wp2_with fail
  (go_at_call 16; ((with_reducible refine (MulWholes_spec _ _ L1 L2 _ (R15.out.below (by (repeat' (first | (with_reducible exact Below.refl _ _) | (with_reducible assumption) | (with_reducible refine Below.alloc ?_ ?_ _) | (with_reducible refine Below.setCell ?_ ?_ _) | (with_reducible refine Below.drew ?_) | (with_reducible refine Below.via (by assumption) ?_ ?_) | go_size)))) (R16.out.below (by (repeat' (first | (with_reducible exact Below.refl _ _) | (with_reducible assumption) | (with_reducible refine Below.alloc ?_ ?_ _) | (with_reducible refine Below.setCell ?_ ?_ _) | (with_reducible refine Below.drew ?_) | (with_reducible refine Below.via (by assumption) ?_ ?_) | go_size)))) S1.out.vld S2.out.vld (S1.out.mul S2.out).1).mono ?_); rintro e w1 ⟨v1, rfl, o1, b1⟩))
  have HB := Lib.hid (S1.out.mul S2.out).2
  have hv := (S1.out.mul S2.out).1.ne
  generalize mulZ L1 L2 = X at *
  have B1 := Lib.hid b1
  obtain ⟨c1, f1⟩ := bcell b1
  have z1 := b1.size
  have O1 := Lib.hid o1
  have k9 : a9 < w1.heap.size := by omega
  obtain ⟨p1, q1, rfl⟩ := o1.rd.shape
  have hn1 : ((X.length : Int) != (Q.length : Int)) = false := by rw [hlm.out]; simp
  have hn2 : ((X.length : Int) == (Q.length : Int)) = true := by rw [hlm.out]; simp
  clear o1 b1
  go_upto_block 6 with fail
  generalize hw2 : World.alloc _ _ = w2
  have Hw2 := Lib.hid hw2
  clear hw2
  have hb2 : Below w0.heap.size w0 w2 := by rw [← Hw2.out]; have h := B1.out; (repeat' (first | (with_reducible exact Below.refl _ _) | (with_reducible assumption) | (with_reducible refine Below.alloc ?_ ?_ _) | (with_reducible refine Below.setCell ?_ ?_ _) | (with_reducible refine Below.drew ?_) | (with_reducible refine Below.via (by assumption) ?_ ?_) | go_size))
  have hb12 : Below w1.heap.size w1 w2 := by rw [← Hw2.out]; (repeat' (first | (with_reducible exact Below.refl _ _) | (with_reducible assumption) | (with_reducible refine Below.alloc ?_ ?_ _) | (with_reducible refine Below.setCell ?_ ?_ _) | (with_reducible refine Below.drew ?_) | (with_reducible refine Below.via (by assumption) ?_ ?_) | go_size))
  have xa : w2.cell? ⟨w1.heap.size, 0, none⟩ = some (.slice p1 X.length q1) := by rw [← Hw2.out]; go_simp
  have xb := (hb2.cell (p := ⟨a9, 0, none⟩) l9).trans x9
  have la := World.block_lt_of_cell? _ _ xa
  have lb := World.block_lt_of_cell? _ _ xb
  simp only at la lb
  have ra := O1.out.rd.below hb12
  have rb := R9.out.below hb2
  obtain ⟨ba, fa, ca, hea, hla, hca⟩ := ra.open hv
  obtain ⟨bb, fb, cb, heb, hlb, hcb⟩ := rb.open (List.ne_nil_of_length_pos (by omega))
  simp only [Value.slice.injEq, true_and] at hea heb
  obtain ⟨rfl, rfl⟩ := hea
  obtain ⟨rfl, rfl⟩ := heb
  have Hca := Lib.hid hca
  have Hcb := Lib.hid hcb
  have BB := Lib.hid (BW.out.trans (hb2.mono zW))
  have zBB := BB.out.size
  clear c1 f1 x9 x15 x16 R15 R16 R9 O1 B1 Hw2 hb2 hb12 ra rb hca hcb hn1 hn2 HK Gg Gh Rc Rm S1 S2 hv BW
  go_cut [] (fun wx => Below w2.heap.size w2 wx)
  case first =>
    as_aux_lemma =>
    generalize hM2 : m * m = M2 at *
    clear hM2
    have hXl : X.length ≤ 7 := by rw [hlm.out]; omega
    go_wp2_with fail
    go_loopw [219] (fun i wr => ∃ k : Nat, k ≤ X.length ∧ i = .int .i64 k ∧ Below w2.heap.size w2 wr) (fun i _ => X.length - (intOf i).toNat)
    case atStart => exact ⟨0, Nat.zero_le _, rfl, Below.refl _ _⟩
    case round =>
      obtain ⟨k, hk, rfl, hbel⟩ := hrel
      have Hbel := Lib.hid hbel
      have hsz := hbel.size
      by_cases hlt : k < X.length
      · have hlti : (k : Int) < (X.length : Int) := by omega
        have hlt2 : k < Q.length := by rw [← hlm.out]; exact hlt
        have hlt2i : (k : Int) < (Q.length : Int) := by omega
        have ea := (hbel.cell (p := ⟨w1.heap.size, 0, none⟩) la).trans xa
        have eb := (hbel.cell (p := ⟨a9, 0, none⟩) lb).trans xb
        have da := (hbel.cell (p := ⟨ba, fa + k, none⟩) hla).trans (Hca.out k hlt)
        have db := (hbel.cell (p := ⟨bb, fb + k, none⟩) hlb).trans (Hcb.out k hlt2)
        have ht := Hsq.out k
        have d1 := HB.out k
        have d2 := Hq.out k
        clear hbel xa xb
        generalize X.getD k 0 = x at *
        generalize Q.getD k 0 = y at *
        have q5 : IntKind.i64.wrap (x - y) = x - y := IntWalk.i64_in _ ⟨by omega, by omega⟩
        have t4 : (x - y) % M2 = 0 := Int.emod_eq_zero_of_dvd (Int.dvd_of_tmod_eq_zero ht)
        have g5 : ¬ (M2 = 0) := by omega
        have kk1 : (0 : Int) ≤ (k : Int) := by omega
        clear Hsq HB Hq Hca Hcb hlt hlt2 hg2 hg4 hh2 hh4 hq7 hk hmm1 hlm Hql
        go_wp2_with fail
        go_big_quiet (fail)
        go_wp2
        go_roundw
        case rel => exact ⟨k + 1, by omega, by go_num, Hbel.out.trans ((drewN_below _ _).mono hsz)⟩
        case measure => simp [intOf]; omega
      · obtain rfl : k = X.length := by omega
        have hlti : ¬ ((X.length : Int) < (X.length : Int)) := by omega
        clear hbel
        go_wp2_with fail
        go_meet
        exact Hbel.out
  case rest =>
    have Bc := Lib.hid (BB.out.trans (hcut.mono zBB))
    clear hcut xa xb
    go_step
    go_wp2_with fail
    go_ret
    exact ⟨rfl, Bc.out⟩


end Go.Proofs.Ytlnjkjogedbhfaa

/- FnLifted returns true for all arguments. Conditions: none. -/
namespace Go.Proofs.Ytlnjkjogedbhfaa
open Go Go.RowKit
set_option linter.unusedSimpArgs false
set_option linter.unusedVariables false

theorem law_Lifted (va : Value) (code : List Int) (vb : Value) (more : List Int) (w : World) (ha : RdB w va code) (hb : RdB w vb more) : Calls Try.prog 3 #[va, vb] w (RB true w) :=
  fn_head (fn_tail10 (fn_tail11 (fn_tail17 (fn_tail18 fn_tail19)))) va code vb more w ha hb

end Go.Proofs.Ytlnjkjogedbhfaa
