/- LiftPair of the reference: the second side's low one. Conditions: those of its statement. -/
import Derived.Test.YtlnjkjogedbhfaaI54a
import Derived.Test.YtlnjkjogedbhfaaI9
import Derived.StillTailTactics
import Derived.Deep.DeepMust
namespace Go.Proofs.Ytlnjkjogedbhfaa
open Go Go.RowKit
set_option linter.unusedSimpArgs false
set_option linter.unusedVariables false

set_option maxRecDepth 100000 in
set_option maxHeartbeats 20000000 in
theorem lifts_tail10 (T : ST11) : ST10 := by
  intro w m p g h pp qp pg qg ph qh wr p1 p2 p4 p5 q1 q2 q4 q5 x0 x1 x2 x7 x10 x13 x14 x16 x19 x20 x21 x22 x23 x24 x25 x26 x27 x28 x29 x30 x31 x32 x33 x34 x35 x36 x37 x38 x39 x40 x41 x42 x43 x44 x45 x46 x47 x48 x49 x50 x51 x52 x53 x54 x55 x56 x57 x58 x59 x60 x61 x62 x63 x64 x65 x66 x67 x68 x69 x70 x71 x72 x73 x74 x75 x76 x77 x78 x79 x80 x81 x82 x83 x84 x85 x86 x87 x88 x89 x90 x91 x92 x93 x94 x95 x96 x97 x98 x99 x100 x101 x102 x103 x104 x105 x106 x107 x108 x109 x110 x111 x112 x113 x114 x115 x116 x117 x118 x119 x120 x121 x122 x123 x124 x125 x126 x127 x128 x129 x130 x131 x132 x133 x134 x135 x136 x137 x138 x139 x140 x141 x142 x143 x144 x145 x146 x147 x148 x149 x150 x151 x152 x153 x154 x155 x156 x157 x158 x159 x160 x161 x162 x163 x164 x165 x166 x167 x168 x169 x170 x171 x172 x173 x174 x175 x176 x177 x178 x179 x180 x181 x182 x183 x184 x185 x186 x187 x188 x189 x190 x191 x192 x193 x194 x195 x196 x197 x198 x199 x200 x201 x202 x203 x204 x205 x206 x207 x208 x209 x210 x211 x212 x213 x214 x215 x216 x217 x218 x219 x220 x221 x222 HK0 HB0 e1 e2 e4 e5
  have HB := Lib.hid HB0
  have HK := Lib.hid HK0
  have Hp := Lib.hid HK0.rp
  have Hg := Lib.hid HK0.rg
  have Hh := Lib.hid HK0.rh
  have C := Lib.hid HK0.c
  have Ho := Lib.hid HK0.ho
  have hm := Lib.hid HK0.c.hm
  have Og := Lib.hid HK0.c.og
  have Oh := Lib.hid HK0.c.oh
  have Hvp := Lib.hid (validB_iff.1 HK0.vp)
  have hpn := Lib.hid ((validB_ne HK0.vp).1)
  have hm2 := primeB_bd hm.out
  have hlg := HK0.c.lg
  have hlh := HK0.c.lh
  have Fl : g.length ≤ 17 ∧ h.length ≤ 17 := ⟨HK0.lg, HK0.lh⟩
  have hlp2 := Hvp.out.len
  have hlp3 := HK0.c.lp
  have HPl := Lib.hid (C.out.len)
  have hzg : zeroB g = false := long_zero (by omega)
  clear HK0 HB0
  conv => arg 2; whnf
  have RE := Lib.hid e1
  have RS := Lib.hid e2
  have RQ := Lib.hid e4
  have RU := Lib.hid e5
  clear e1 e2 e4 e5
  obtain ⟨wc, rfl⟩ : ∃ wc : World, wc = wr := ⟨_, rfl⟩
  have HM := Lib.hid C.out.misT
  have HZ := Lib.hid C.out.bz
  have HU := Lib.hid C.out.up
  have hlm := HM.out.2
  have hlt2 := HZ.out.2.2.2.1
  have hls2 := HZ.out.2.2.1
  have hgl9 := HPl.out
  have hplen := C.out.lp
  have x4 := HB.out.c4
  have l4 := World.block_lt_of_cell? _ _ x4
  have x5 := HB.out.c5
  have l5 := World.block_lt_of_cell? _ _ x5
  have x6 := HB.out.c6
  have l6 := World.block_lt_of_cell? _ _ x6
  have x8 := HB.out.c8
  have l8 := World.block_lt_of_cell? _ _ x8
  have x9 := HB.out.c9
  have l9 := World.block_lt_of_cell? _ _ x9
  simp only at l4 l5 l6 l8 l9
  have y8 := HB.out.f8
  have y9 := HB.out.f9
  have BW := HB.out.bel
  have Hsm := Lib.hid C.out.same
  have Ose := Lib.hid (mulF_ovr (m := m) (by omega) HZ.out.1 HM.out.1 (by omega))
  have Oqh := Lib.hid (mulF_ovr (m := m) (by omega) HU.out.2.2.1 Oh.out (by have := HU.out.2.2.2.1; omega))
  have hqq := HU.out.2.2.2.1
  go_upto_region 16 with fail
  go_cut [19] (fun vv wd => ∃ p6 q6, vv = .slice p6 (upV m p g h).length q6 ∧ RdI wd (.slice p6 (upV m p g h).length q6) (upV m p g h) ∧ Below wc.heap.size wc wd)
  case first =>
    as_aux_lemma =>
    go_region_held3 (fun w' => w'.cell? ⟨w.heap.size + 1 + 1, 0, none⟩ = some (.slice ph h.length qh))
      (((try dsimp only); (repeat' (refine And.intro ?_ ?_)); all_goals (first | assumption | (refine (Below.cell (B := wc.heap.size) (w := wc) ?_ ?_).trans ?_ <;> (first | assumption | omega | (simp only; omega) | (skip; (repeat' (first | (with_reducible exact Below.refl _ _) | (with_reducible assumption) | (with_reducible refine Below.alloc ?_ ?_ _) | (with_reducible refine Below.setCell ?_ ?_ _) | (with_reducible refine Below.drew ?_) | (with_reducible refine Below.via (by assumption) ?_ ?_) | go_size)); done))) | (go_keep; done))))
      (first
        | (go_at_call 67; ((with_reducible refine (mul_spec2 _ _ (bzS m g h) (misZ m p g h) m _ (RS.out.below (by (repeat' (first | (with_reducible exact Below.refl _ _) | (with_reducible assumption) | (with_reducible refine Below.alloc ?_ ?_ _) | (with_reducible refine Below.setCell ?_ ?_ _) | (with_reducible refine Below.drew ?_) | (with_reducible refine Below.via (by assumption) ?_ ?_) | go_size)))) (RE.out.below (by (repeat' (first | (with_reducible exact Below.refl _ _) | (with_reducible assumption) | (with_reducible refine Below.alloc ?_ ?_ _) | (with_reducible refine Below.setCell ?_ ?_ _) | (with_reducible refine Below.drew ?_) | (with_reducible refine Below.via (by assumption) ?_ ?_) | go_size)))) hm.out HZ.out.1 HM.out.1).mono ?_); rintro e wd ⟨vd, rfl, od, dd⟩; obtain ⟨pd, qd, rfl⟩ := od.shape; have zd := dd.size; (try simp only [World.size_drew, World.size_alloc] at zd)))
        | (go_at_call 71; ((with_reducible refine (mods_mul_spec _ (bzS m g h) (misZ m p g h) m _ (od.below (by (repeat' (first | (with_reducible exact Below.refl _ _) | (with_reducible assumption) | (with_reducible refine Below.alloc ?_ ?_ _) | (with_reducible refine Below.setCell ?_ ?_ _) | (with_reducible refine Below.drew ?_) | (with_reducible refine Below.via (by assumption) ?_ ?_) | go_size)))) hm.out HZ.out.1 HM.out.1 (by omega)).mono ?_); rintro e we ⟨ve, rfl, oe, de⟩; obtain ⟨pe, qe, rfl⟩ := oe.rd.shape; have ze := de.size; (try simp only [World.size_drew, World.size_alloc] at ze)))
        | (go_at_call 67; ((with_reducible refine (mul_spec2 _ _ (upQ m p g h) h m _ (RQ.out.below (by (repeat' (first | (with_reducible exact Below.refl _ _) | (with_reducible assumption) | (with_reducible refine Below.alloc ?_ ?_ _) | (with_reducible refine Below.setCell ?_ ?_ _) | (with_reducible refine Below.drew ?_) | (with_reducible refine Below.via (by assumption) ?_ ?_) | go_size)))) (Hh.out.below (BW.trans (Below.mono (show Below wc.heap.size wc _ by (repeat' (first | (with_reducible exact Below.refl _ _) | (with_reducible assumption) | (with_reducible refine Below.alloc ?_ ?_ _) | (with_reducible refine Below.setCell ?_ ?_ _) | (with_reducible refine Below.drew ?_) | (with_reducible refine Below.via (by assumption) ?_ ?_) | go_size))) BW.size))) hm.out HU.out.2.2.1 Oh.out).mono ?_); rintro e wi ⟨vi, rfl, oi_, di⟩; obtain ⟨pi_, qi, rfl⟩ := oi_.shape; have zi := di.size; (try simp only [World.size_drew, World.size_alloc] at zi)))
        | (go_at_call 71; ((with_reducible refine (mods_mul_spec _ (upQ m p g h) h m _ (oi_.below (by (repeat' (first | (with_reducible exact Below.refl _ _) | (with_reducible assumption) | (with_reducible refine Below.alloc ?_ ?_ _) | (with_reducible refine Below.setCell ?_ ?_ _) | (with_reducible refine Below.drew ?_) | (with_reducible refine Below.via (by assumption) ?_ ?_) | go_size)))) hm.out HU.out.2.2.1 Oh.out (by omega)).mono ?_); rintro e wj ⟨vj, rfl, oj, dj⟩; obtain ⟨pj, qj, rfl⟩ := oj.rd.shape; have zj := dj.size; (try simp only [World.size_drew, World.size_alloc] at zj)))
        | (go_at_call 77; ((with_reducible refine (sum_spec _ _ (mulF m (bzS m g h) (misZ m p g h)) (mulF m (upQ m p g h) h) m _ (oe.rd.below (by (repeat' (first | (with_reducible exact Below.refl _ _) | (with_reducible assumption) | (with_reducible refine Below.alloc ?_ ?_ _) | (with_reducible refine Below.setCell ?_ ?_ _) | (with_reducible refine Below.drew ?_) | (with_reducible refine Below.via (by assumption) ?_ ?_) | go_size)))) (oj.rd.below (by (repeat' (first | (with_reducible exact Below.refl _ _) | (with_reducible assumption) | (with_reducible refine Below.alloc ?_ ?_ _) | (with_reducible refine Below.setCell ?_ ?_ _) | (with_reducible refine Below.drew ?_) | (with_reducible refine Below.via (by assumption) ?_ ?_) | go_size)))) hm.out Ose.out Oqh.out).mono ?_); rw [Hsm.out]; rintro e wk ⟨v6, rfl, o6, d6⟩; obtain ⟨p6, q6, rfl⟩ := o6.rd.shape; have O6 := Lib.hid o6.rd; have z6 := d6.size; (try simp only [World.size_drew, World.size_alloc] at z6))))
    all_goals (go_wp2_with fail; go_meet; exact ⟨p6, q6, rfl, O6.out, by (repeat' (first | (with_reducible exact Below.refl _ _) | (with_reducible assumption) | (with_reducible refine Below.alloc ?_ ?_ _) | (with_reducible refine Below.setCell ?_ ?_ _) | (with_reducible refine Below.drew ?_) | (with_reducible refine Below.via (by assumption) ?_ ?_) | go_size))⟩)
  case rest =>
    obtain ⟨p6, q6, rfl, hV, hbx⟩ := hcut
    go_step
    exact T HK.out (HB.out.below hbx) (RU.out.below hbx) hV


end Go.Proofs.Ytlnjkjogedbhfaa

/- LiftPair of the reference: both sides, the end. Conditions: those of its statement. -/
namespace Go.Proofs.Ytlnjkjogedbhfaa
open Go Go.RowKit
set_option linter.unusedSimpArgs false
set_option linter.unusedVariables false


/-- The first j terms are lifted, the others as they were. -/
def mixZ (m : Int) (B P : List Int) (j : Nat) : List Int := (List.range B.length).map fun i => if i < j then liftE m B P i else B.getD i 0
theorem mixZ_length (m : Int) (B P : List Int) (j : Nat) : (mixZ m B P j).length = B.length := by simp [mixZ]
theorem mixZ_get {m : Int} {B P : List Int} {j i : Nat} : (mixZ m B P j).getD i 0 = if i < j ∧ i < B.length then liftE m B P i else B.getD i 0 := by
  unfold mixZ
  simp only [List.getD, List.getElem?_map]
  by_cases hi : i < B.length
  · rw [List.getElem?_range hi]
    simp [hi]
  · rw [List.getElem?_eq_none (by simp; omega), if_neg (by omega), List.getElem?_eq_none (by omega)]; rfl
theorem mixZ_zero (m : Int) (B P : List Int) : mixZ m B P 0 = B := by
  refine ext_getD (mixZ_length _ _ _ _) fun i => ?_
  rw [mixZ_get, if_neg (by omega)]
theorem mixZ_set {m : Int} {B P : List Int} {j : Nat} (h : j < B.length) : (mixZ m B P j).set j (liftE m B P j) = mixZ m B P (j + 1) := by
  refine ext_getD (by rw [List.length_set, mixZ_length, mixZ_length]) fun i => ?_
  rw [mixZ_get]
  by_cases e : i = j
  · subst e
    rw [if_pos (by omega)]
    simp only [List.getD]
    rw [List.getElem?_set_self (by rw [mixZ_length]; exact h)]; rfl
  · simp only [List.getD]
    rw [List.getElem?_set_ne (by omega)]
    have h1 := mixZ_get (m := m) (B := B) (P := P) (j := j) (i := i)
    simp only [List.getD] at h1
    rw [h1]
    by_cases h2 : i < j ∧ i < B.length
    · rw [if_pos h2, if_pos (by omega)]
    · rw [if_neg h2, if_neg (by omega)]
theorem mixZ_all {m : Int} {B P : List Int} : mixZ m B P P.length = liftZ m B P := by
  refine ext_getD (by rw [mixZ_length, liftZ_length]) fun i => ?_
  rw [mixZ_get]
  by_cases hi : i < B.length
  · rw [liftZ_get hi]
    by_cases hp : i < P.length
    · rw [if_pos ⟨hp, hi⟩]; rfl
    · rw [if_neg (by omega)]
      have : P.getD i 0 = 0 := co_beyond P (by omega)
      rw [this, Int.mul_zero, Int.add_zero]
  · rw [if_neg (by omega)]
    simp only [List.getD]
    rw [List.getElem?_eq_none (by omega), List.getElem?_eq_none (by rw [liftZ_length]; omega)]
/-- Side k: what is lifted, and by what. -/
def SideR (m : Int) (g h U V : List Int) (k : Nat) (wr : World) (bv pv : Value) (wx : World) : Prop := wr = wx ∧ ∃ B P pB qB pP qP, bv = .slice pB B.length qB ∧ pv = .slice pP P.length qP ∧ RdI wr (.slice pB B.length qB) B ∧ RdI wr (.slice pP P.length qP) P ∧ Ovr m B ∧ Ovr m P ∧ P.length ≤ B.length ∧ B.length ≤ 17 ∧ [liftZ m g U, liftZ m h V].take k ++ [liftZ m B P] = [liftZ m g U, liftZ m h V].take (k + 1)

set_option maxRecDepth 100000 in
set_option maxHeartbeats 20000000 in
theorem lifts_tail11 : ST11 := by
  intro w m p g h pp qp pg qg ph qh wr p5 p6 q5 q6 x0 x1 x2 x7 x10 x12 x13 x14 x15 x16 x17 x20 x21 x22 x23 x24 x25 x26 x27 x28 x29 x30 x31 x32 x33 x34 x35 x36 x37 x38 x39 x40 x41 x42 x43 x44 x45 x46 x47 x48 x49 x50 x51 x52 x53 x54 x55 x56 x57 x58 x59 x60 x61 x62 x63 x64 x65 x66 x67 x68 x69 x70 x71 x72 x73 x74 x75 x76 x77 x78 x79 x80 x81 x82 x83 x84 x85 x86 x87 x88 x89 x90 x91 x92 x93 x94 x95 x96 x97 x98 x99 x100 x101 x102 x103 x104 x105 x106 x107 x108 x109 x110 x111 x112 x113 x114 x115 x116 x117 x118 x119 x120 x121 x122 x123 x124 x125 x126 x127 x128 x129 x130 x131 x132 x133 x134 x135 x136 x137 x138 x139 x140 x141 x142 x143 x144 x145 x146 x147 x148 x149 x150 x151 x152 x153 x154 x155 x156 x157 x158 x159 x160 x161 x162 x163 x164 x165 x166 x167 x168 x169 x170 x171 x172 x173 x174 x175 x176 x177 x178 x179 x180 x181 x182 x183 x184 x185 x186 x187 x188 x189 x190 x191 x192 x193 x194 x195 x196 x197 x198 x199 x200 x201 x202 x203 x204 x205 x206 x207 x208 x209 x210 x211 x212 x213 x214 x215 x216 x217 x218 x219 x220 x221 x222 HK0 HB0 e5 e6
  have HB := Lib.hid HB0
  have HK := Lib.hid HK0
  have Hp := Lib.hid HK0.rp
  have Hg := Lib.hid HK0.rg
  have Hh := Lib.hid HK0.rh
  have C := Lib.hid HK0.c
  have Ho := Lib.hid HK0.ho
  have hm := Lib.hid HK0.c.hm
  have Og := Lib.hid HK0.c.og
  have Oh := Lib.hid HK0.c.oh
  have Hvp := Lib.hid (validB_iff.1 HK0.vp)
  have hpn := Lib.hid ((validB_ne HK0.vp).1)
  have hm2 := primeB_bd hm.out
  have hlg := HK0.c.lg
  have hlh := HK0.c.lh
  have Fl : g.length ≤ 17 ∧ h.length ≤ 17 := ⟨HK0.lg, HK0.lh⟩
  have hlp2 := Hvp.out.len
  have hlp3 := HK0.c.lp
  have HPl := Lib.hid (C.out.len)
  have hzg : zeroB g = false := long_zero (by omega)
  clear HK0 HB0
  conv => arg 2; whnf
  have RU := Lib.hid e5
  have RV := Lib.hid e6
  clear e5 e6
  obtain ⟨wd, rfl⟩ : ∃ wd : World, wd = wr := ⟨_, rfl⟩
  have HU1 := Lib.hid C.out.up.1
  have hul := C.out.up.2.1
  have HV1 := Lib.hid C.out.up.2.2.2.2.2.2.1
  have hvl := C.out.up.2.2.2.2.2.2.2
  have hsq1 : 0 ≤ m * m := Int.mul_nonneg (by omega) (by omega)
  have hsq2 : m * m ≤ 13 * 13 := Int.mul_le_mul hm2.2 hm2.2 (by omega) (by omega)
  have hsq3 : 0 < m * m := Int.mul_pos (by omega) (by omega)
  generalize upU m p g h = U at *
  generalize upV m p g h = V at *
  have BW0 := HB.out.bel
  have hlB := HB.out.lt
  have zwd := BW0.size
  go_upto_region 18 with fail
  generalize hw0 : World.alloc _ _ = w0
  have Hw0 := Lib.hid hw0
  clear hw0
  have B0 := Lib.hid (show Below wd.heap.size wd w0 by rw [← Hw0.out]; (repeat' (first | (with_reducible exact Below.refl _ _) | (with_reducible assumption) | (with_reducible refine Below.alloc ?_ ?_ _) | (with_reducible refine Below.setCell ?_ ?_ _) | (with_reducible refine Below.drew ?_) | (with_reducible refine Below.via (by assumption) ?_ ?_) | go_size)))
  have HRow0 := Lib.hid (show RowV w0 wd.heap.size (.slice (some ⟨wd.heap.size, 0, none⟩) 0 0) [] by rw [← Hw0.out]; exact RowV.empty rfl (Nat.le_refl _))
  clear BW0 Hw0
  go_wp2_with fail
  go_loopw [20, 21] (fun ov sv wr => ∃ k : Nat, k ≤ 2 ∧ sv = .int .i64 k ∧ RowV wr wd.heap.size ov ([liftZ m g U, liftZ m h V].take k) ∧ Below wd.heap.size wd wr) (fun _ sv _ => 2 - (intOf sv).toNat)
  case atStart => exact ⟨0, by omega, rfl, HRow0.out, B0.out⟩
  case round =>
    obtain ⟨k, hk, rfl, hrow, hbel⟩ := hrel
    obtain ⟨wo, hwo⟩ : ∃ wo : World, wo = wr := ⟨_, rfl⟩
    subst hwo
    have Hrow := Lib.hid hrow
    have Hbel := Lib.hid hbel
    have hsz := hbel.size
    have HBr := Lib.hid (HB.out.below hbel)
    have RUr := Lib.hid (RU.out.below hbel)
    have RVr := Lib.hid (RV.out.below hbel)
    clear hrow hbel
    have x5 := HBr.out.c5
    have x6 := HBr.out.c6
    by_cases hlt : k < 2
    · have hlti : (k : Int) < 2 := by omega
      go_upto_if 183 with fail
      go_cut [22, 23] (fun bv pv wx => SideR m g h U V k wo bv pv wx)
      case first =>
        as_aux_lemma =>
        go_wp2_with fail
        · go_meet
          rename_i hk1
          have hk2 : (k : Int) = 1 := by simpa using hk1
          obtain rfl : k = 1 := by omega
          exact ⟨rfl, h, V, _, _, _, _, rfl, rfl, Hh.out.below HBr.out.bel, RVr.out, Oh.out, HV1.out, by omega, Fl.2, rfl⟩
        · go_meet
          rename_i hk1
          have hk2 : ¬ (k : Int) = 1 := by simpa using hk1
          obtain rfl : k = 0 := by omega
          exact ⟨rfl, g, U, _, _, _, _, rfl, rfl, Hg.out.below HBr.out.bel, RUr.out, Og.out, HU1.out, by omega, Fl.1, rfl⟩
      case rest =>
        obtain ⟨hwx, B, P, pB, qB, pP, qP, rfl, rfl, hRB, hRP, oB, oP, hPB, hB17, hacc⟩ := hcut
        subst hwx
        have RB := Lib.hid hRB
        have HoB := Lib.hid oB
        have HoP := Lib.hid oP
        have Hacc := Lib.hid hacc
        have hBn := Lib.hid oB.ne
        obtain ⟨bP, fP, qP, hpe, hbP, hcP⟩ := hRP.open oP.ne
        simp only [Value.slice.injEq, true_and] at hpe
        obtain ⟨rfl, rfl⟩ := hpe
        have HcP := Lib.hid hcP
        clear hRB hRP oB oP hacc hcP x5 x6
        go_wp2_with (at_builtin; refine wpList_cloneR rfl _ _ rfl int64S_under RB.out hBn.out (by omega) rfl rfl rfl ?_; intro g1 cap1 w1 hg1 hr1 hb1)
        have Hr1 := Lib.hid hr1
        have Hb1 := Lib.hid hb1
        have z1 := hb1.size
        have lg1 := hr1.lt
        clear hr1 hb1
        go_loopw [192] (fun i wr => ∃ j : Nat, j ≤ P.length ∧ i = .int .i64 j ∧ RowI wr wo.heap.size (.slice (some ⟨g1, 0, none⟩) B.length cap1) (mixZ m B P j) ∧ Only g1 (g1 + 1) w1 wr) (fun i _ => P.length - (intOf i).toNat)
        case atStart => exact ⟨0, Nat.zero_le _, rfl, by rw [mixZ_zero]; exact Hr1.out, Only.refl _ _ _⟩
        case round =>
          obtain ⟨j, hj, rfl, hrow2, honly⟩ := hrel
          have Hrow2 := Lib.hid hrow2
          have Honly := Lib.hid honly
          have hsz2 := honly.size
          have hml := mixZ_length m B P j
          by_cases hlt2 : j < P.length
          · have hjB : j < B.length := by omega
            have hji : (j : Int) < (P.length : Int) := by omega
            have hjBi : (j : Int) < (B.length : Int) := by omega
            have cT := hrow2.cell (j := j) (by rw [hml]; exact hjB)
            have fT := hrow2.frozen j
            rw [mixZ_get, if_neg (by omega)] at cT
            have cP := (honly.cell (p := ⟨bP, fP + j, none⟩) (by simp only; omega) (by simp only; omega)).trans ((Hb1.out.cell (p := ⟨bP, fP + j, none⟩) hbP).trans (HcP.out j hlt2))
            have Hx := Lib.hid (hrow2.set j (liftE m B P j))
            rw [mixZ_set hjB] at Hx
            have bd := liftZ_bd HoB.out HoP.out j
            have bd1 := HoB.out.ov j
            have bd2 := HoP.out.ov j
            have hE : liftE m B P j = B.getD j 0 + m * P.getD j 0 := rfl
            rw [hE] at Hx
            have bd3 : 0 ≤ m * P.getD j 0 := Int.mul_nonneg (by omega) (by omega)
            have bd4 : m * P.getD j 0 ≤ 13 * 13 := Int.mul_le_mul hm2.2 (by omega) (by omega) (by omega)
            have hmo : (B.getD j 0 + m * P.getD j 0) % (m * m) = B.getD j 0 + m * P.getD j 0 := Int.emod_eq_of_lt (by omega) (by omega)
            have Hmo := Lib.hid hmo
            clear hE hrow2 honly hml hmo
            generalize B.getD j 0 = X at *
            generalize P.getD j 0 = Y at *
            have q4 : IntKind.i64.wrap (m * Y) = m * Y := IntWalk.i64_in _ ⟨by omega, by omega⟩
            have q5 : IntKind.i64.wrap (X + m * Y) = X + m * Y := IntWalk.i64_in _ ⟨by omega, by omega⟩
            generalize hmm2 : m * m = M2 at *
            clear hmm2
            go_wp2
            (refine wp_region_still_tail 16 (by kernel_rfl) (by kernel_rfl) ?_; simp only [List.take_succ_cons, List.take_zero, List.drop_succ_cons, List.drop_zero]; repeat (first | still_step | still_call (mod_call _ _ _ (by omega) (by omega) (by omega) (by omega))); (try refine wpStill_nil ?_))
            change wpList _ _ _ _ _ (World.drew _)
            go_wp2
            go_roundw
            case rel => exact ⟨j + 1, by omega, by go_num, by rw [Hmo.out]; exact Hx.out.below ((Below.refl _ _).drew), (Honly.out.setCell (p := ⟨g1, j, none⟩) (Nat.le_refl _) (Nat.lt_succ_self _) _).below' ((Below.refl _ _).drew)⟩
            case measure => simp [intOf]; omega
          · obtain rfl : j = P.length := by omega
            have Hy := Lib.hid (show OwI wr wo.heap.size (.slice (some ⟨g1, 0, none⟩) B.length cap1) (liftZ m B P) by have := hrow2.own; rw [mixZ_all] at this; exact this)
            have Hbo := Lib.hid (show Below wo.heap.size wo wr from Hb1.out.trans (honly.toBelow hg1 (by omega)))
            have hlz : (liftZ m B P).length = B.length := liftZ_length _ _ _
            have hpl : ([liftZ m g U, liftZ m h V].take k).length ≤ 1048576 := by rw [List.length_take]; simp; omega
            clear hrow2 honly hml
            generalize hac : List.take k [liftZ m g U, liftZ m h V] = acc at *
            clear hac
            go_wp2_with (at_builtin; go_must (refine wpList_pushW (p := g1) (n := B.length) (q := cap1) (zs := liftZ m B P) Hrow.out (by have h := Hbo.out; (repeat' (first | (with_reducible exact Below.refl _ _) | (with_reducible assumption) | (with_reducible refine Below.alloc ?_ ?_ _) | (with_reducible refine Below.setCell ?_ ?_ _) | (with_reducible refine Below.drew ?_) | (with_reducible refine Below.via (by assumption) ?_ ?_) | go_size))) (show wo.heap.size ≤ g1 by omega) ((Hy.out.mono (show wd.heap.size ≤ wo.heap.size by omega)).below (by (repeat' (first | (with_reducible exact Below.refl _ _) | (with_reducible assumption) | (with_reducible refine Below.alloc ?_ ?_ _) | (with_reducible refine Below.setCell ?_ ?_ _) | (with_reducible refine Below.drew ?_) | (with_reducible refine Below.via (by assumption) ?_ ?_) | go_size)))) rfl _ _ rfl wholeS_under hpl (by first | omega | (simp; omega)) rfl rfl (by simp) ?_); intro v9 w9 hr9 hb9 hk9)
            go_roundw
            case rel => exact ⟨k + 1, by omega, by go_num, by rw [← Hacc.out]; exact hr9, Hbel.out.trans ((Hbo.out.mono hsz).trans hb9)⟩
            case measure => simp [intOf]; omega
    · obtain rfl : k = 2 := by omega
      have Hrow2 := Lib.hid (show RowV wo wd.heap.size _ [liftZ m g U, liftZ m h V] from Hrow.out)
      obtain ⟨gO, cO, f, c, rfl, hOw, he⟩ := Hrow.out
      rcases Hrow2.out.own with ⟨h0, _⟩ | ⟨g', cap', f', c', h0, h1, h2, h3, h4, h5, h6⟩
      · simp at h0
      simp only [Value.slice.injEq, Option.some.injEq, Addr.mk.injEq, and_true] at h0
      obtain ⟨rfl, h01, rfl⟩ := h0
      have cA := h6 0 (by simp)
      have cB := h6 1 (by simp)
      have OA := Lib.hid (h5 0 (by simp)).1
      have OB := Lib.hid (h5 1 (by simp)).1
      simp only [elV, List.getD_cons_zero, List.getD_cons_succ] at cA cB
      have OA2 := Lib.hid (show OwI wo wd.heap.size (.slice (some ⟨f' 0, 0, none⟩) (liftZ m g U).length (c' 0)) (liftZ m g U) from OA.out)
      have OB2 := Lib.hid (show OwI wo wd.heap.size (.slice (some ⟨f' 1, 0, none⟩) (liftZ m h V).length (c' 1)) (liftZ m h V) from OB.out)
      clear hOw he h5 h6 Hrow Hrow2 h01 h1 OA OB x5 x6 hk hlt
      rw [show (List.take 2 [liftZ m g U, liftZ m h V]).length = 2 from rfl]
      have x8 := HBr.out.c8
      have y8 := HBr.out.f8
      have x9 := HBr.out.c9
      have y9 := HBr.out.f9
      have l8 := World.block_lt_of_cell? _ _ x8
      have l9 := World.block_lt_of_cell? _ _ x9
      simp only at l8 l9
      have Bw := Lib.hid HBr.out.bel
      have n89 : ¬ (w.heap.size + 1 + 1 + 1 = w.heap.size + 1 + 1 + 1 + 1) := by omega
      have n98 : ¬ (w.heap.size + 1 + 1 + 1 + 1 = w.heap.size + 1 + 1 + 1) := by omega
      have ng8 : ¬ (gO = w.heap.size + 1 + 1 + 1) := by omega
      have ng9 : ¬ (gO = w.heap.size + 1 + 1 + 1 + 1) := by omega
      go_upto_region 33 with fail
      go_region_held3 (fun w' => w'.cell? ⟨gO, 0, none⟩ = some (.slice (some ⟨f' 0, 0, none⟩) (liftZ m g U).length (c' 0)) ∧ w'.cell? ⟨gO, 1, none⟩ = some (.slice (some ⟨f' 1, 0, none⟩) (liftZ m h V).length (c' 1)))
        (((try dsimp only); (repeat' (refine And.intro ?_ ?_)); all_goals (first | assumption | (refine (Below.cell (B := wo.heap.size) (w := wo) ?_ ?_).trans ?_ <;> (first | assumption | omega | (simp only; omega) | (skip; (repeat' (first | (with_reducible exact Below.refl _ _) | (with_reducible assumption) | (with_reducible refine Below.alloc ?_ ?_ _) | (with_reducible refine Below.setCell ?_ ?_ _) | (with_reducible refine Below.drew ?_) | (with_reducible refine Below.via (by assumption) ?_ ?_) | go_size)); done))) | (rw [World.cell?_setCell_far _ _ _ _ (by first | omega | (simp only; omega))]; assumption) | (rw [World.cell?_drew, World.cell?_setCell_far _ _ _ _ (by first | omega | (simp only; omega)), World.cell?_setCell_far _ _ _ _ (by first | omega | (simp only; omega))]; assumption) | (rw [World.cell?_setCell_far _ _ _ _ (by first | omega | (simp only; omega)), World.cell?_setCell_far _ _ _ _ (by first | omega | (simp only; omega))]; assumption) | (rw [World.cell?_drew, World.cell?_setCell_far _ _ _ _ (by first | omega | (simp only; omega))]; assumption) | (go_keep; done))))
        (fail)
      have F1 := Lib.hid (show OwI ((wo.setCell ⟨w.heap.size + 1 + 1 + 1, 0, none⟩ (.slice (some ⟨f' 0, 0, none⟩) (liftZ m g U).length (c' 0))).setCell ⟨w.heap.size + 1 + 1 + 1 + 1, 0, none⟩ (.slice (some ⟨f' 1, 0, none⟩) (liftZ m h V).length (c' 1))).drew w.heap.size (.slice (some ⟨f' 0, 0, none⟩) (liftZ m g U).length (c' 0)) (liftZ m g U) from
        ((OwI.mono (B := wd.heap.size) (OwI.setCell (OwI.setCell OA2.out (a := ⟨w.heap.size + 1 + 1 + 1, 0, none⟩) (by simp only; omega) _) (a := ⟨w.heap.size + 1 + 1 + 1 + 1, 0, none⟩) (by simp only; omega) _) (by omega)).below ((Below.refl _ _).drew)))
      have F2 := Lib.hid (show OwI ((wo.setCell ⟨w.heap.size + 1 + 1 + 1, 0, none⟩ (.slice (some ⟨f' 0, 0, none⟩) (liftZ m g U).length (c' 0))).setCell ⟨w.heap.size + 1 + 1 + 1 + 1, 0, none⟩ (.slice (some ⟨f' 1, 0, none⟩) (liftZ m h V).length (c' 1))).drew w.heap.size (.slice (some ⟨f' 1, 0, none⟩) (liftZ m h V).length (c' 1)) (liftZ m h V) from
        ((OwI.mono (B := wd.heap.size) (OwI.setCell (OwI.setCell OB2.out (a := ⟨w.heap.size + 1 + 1 + 1, 0, none⟩) (by simp only; omega) _) (a := ⟨w.heap.size + 1 + 1 + 1 + 1, 0, none⟩) (by simp only; omega) _) (by omega)).below ((Below.refl _ _).drew)))
      have F3 := Lib.hid (show Below w.heap.size w ((wo.setCell ⟨w.heap.size + 1 + 1 + 1, 0, none⟩ (.slice (some ⟨f' 0, 0, none⟩) (liftZ m g U).length (c' 0))).setCell ⟨w.heap.size + 1 + 1 + 1 + 1, 0, none⟩ (.slice (some ⟨f' 1, 0, none⟩) (liftZ m h V).length (c' 1))).drew from (Below.setCell (Below.setCell Bw.out (by simp only; omega) _) (by simp only; omega) _).drew)
      have X8 : ((wo.setCell ⟨w.heap.size + 1 + 1 + 1, 0, none⟩ (.slice (some ⟨f' 0, 0, none⟩) (liftZ m g U).length (c' 0))).setCell ⟨w.heap.size + 1 + 1 + 1 + 1, 0, none⟩ (.slice (some ⟨f' 1, 0, none⟩) (liftZ m h V).length (c' 1))).drew.cell? ⟨w.heap.size + 1 + 1 + 1, 0, none⟩ = some (.slice (some ⟨f' 0, 0, none⟩) (liftZ m g U).length (c' 0)) := by rw [World.cell?_drew, cellZ (by omega)]; exact World.cell?_setCell_same _ _ _ x8
      have X9 : ((wo.setCell ⟨w.heap.size + 1 + 1 + 1, 0, none⟩ (.slice (some ⟨f' 0, 0, none⟩) (liftZ m g U).length (c' 0))).setCell ⟨w.heap.size + 1 + 1 + 1 + 1, 0, none⟩ (.slice (some ⟨f' 1, 0, none⟩) (liftZ m h V).length (c' 1))).drew.cell? ⟨w.heap.size + 1 + 1 + 1 + 1, 0, none⟩ = some (.slice (some ⟨f' 1, 0, none⟩) (liftZ m h V).length (c' 1)) := by rw [World.cell?_drew]; exact World.cell?_setCell_same _ _ _ (by rw [cellZ (by omega)]; exact x9)
      generalize ((wo.setCell ⟨w.heap.size + 1 + 1 + 1, 0, none⟩ (.slice (some ⟨f' 0, 0, none⟩) (liftZ m g U).length (c' 0))).setCell ⟨w.heap.size + 1 + 1 + 1 + 1, 0, none⟩ (.slice (some ⟨f' 1, 0, none⟩) (liftZ m h V).length (c' 1))).drew = wF at *
      generalize liftZ m g U = L1 at *
      generalize liftZ m h V = L2 at *
      clear x8 x9 y8 y9 l8 l9 n89 n98 ng8 ng9 cA cB OA2 OB2 HBr
      (try simp only [Exit.then])
      apply_assumption
      refine wp_ret ?_
      refine bodyPost_ret (by simp [results, Try.results17, go_sem, X8, X9]; try rfl) rfl ?_
      rw [Ho.out]
      exact ⟨_, _, rfl, F1.out, F2.out, F3.out⟩


end Go.Proofs.Ytlnjkjogedbhfaa
