/- LiftPair of the program: its first division. Conditions: those of its statement. -/
import Derived.Test.YtlnjkjogedbhfaaI53a
import Derived.Deep.RegionWith
import Derived.Deep.RegionHeld3
import Derived.Test.YtlnjkjogedbhfaaI19
import Derived.Test.YtlnjkjogedbhfaaI17
namespace Go.Proofs.Ytlnjkjogedbhfaa
open Go Go.RowKit
set_option linter.unusedSimpArgs false
set_option linter.unusedVariables false

set_option maxRecDepth 100000 in
set_option maxHeartbeats 20000000 in
theorem lift_tail8 (T : LT9) : LT8 := by
  intro w m p g h pp qp pg qg ph qh wr a15 a17 x0 x1 x2 x3 x10 x11 x12 x13 x14 x16 x18 x19 x20 x21 x22 x23 x24 x25 x26 x27 x28 x29 x30 x31 x32 x33 x34 x35 x36 x37 x38 x39 x40 x41 x42 x43 x44 x45 x46 x47 x48 x49 x50 x51 x52 x53 x54 x55 x56 x57 x58 x59 x60 x61 x62 x63 x64 x65 x66 x67 x68 x69 x70 x71 x72 x73 x74 x75 x76 x77 x78 x79 x80 x81 x82 x83 x84 x85 x86 x87 x88 x89 x90 x91 x92 x93 x94 x95 x96 x97 x98 x99 x100 x101 x102 x103 x104 x105 x106 x107 x108 x109 x110 x111 x112 x113 x114 x115 x116 x117 x118 x119 x120 x121 x122 x123 x124 x125 x126 x127 x128 x129 x130 x131 x132 x133 x134 x135 x136 x137 x138 x139 x140 x141 x142 x143 x144 x145 x146 x147 x148 x149 x150 x151 x152 x153 x154 x155 x156 x157 x158 x159 x160 x161 x162 x163 x164 x165 x166 x167 x168 x169 x170 x171 x172 x173 x174 x175 x176 x177 x178 x179 x180 x181 x182 x183 x184 HK0 HB0 e15 e17
  have HB := Lib.hid HB0
  have HK := Lib.hid HK0
  have Hp := Lib.hid HK0.rp
  have Hg := Lib.hid HK0.rg
  have Hh := Lib.hid HK0.rh
  have C := Lib.hid HK0.c
  have Ho := Lib.hid HK0.ho
  have hm := Lib.hid HK0.c.hm
  have Og := Lib.hid HK0.c.og
  have Oh := Lib.hid HK0.c.oh
  have Hvp := Lib.hid (validB_iff.1 HK0.vp)
  have hpn := Lib.hid ((validB_ne HK0.vp).1)
  have hm2 := primeB_bd hm.out
  have hlg := HK0.c.lg
  have hlh := HK0.c.lh
  have Fl : g.length ≤ 17 ∧ h.length ≤ 17 := ⟨HK0.lg, HK0.lh⟩
  have hlp2 := Hvp.out.len
  have hlp3 := HK0.c.lp
  have HPl := Lib.hid (C.out.len)
  clear HK0 HB0
  conv => arg 2; whnf
  have E15 := Lib.hid e15
  have E17 := Lib.hid e17
  clear e15 e17
  have HM := Lib.hid C.out.misT
  have HZ := Lib.hid C.out.bz
  have hlm := HM.out.2
  have hlt2 := HZ.out.2.2.2.1
  have hgl9 := HPl.out
  have hplen := C.out.lp
  have Omt := Lib.hid (mulF_ovr (m := m) (by omega) HM.out.1 HZ.out.2.1 (by omega))
  obtain ⟨wb, rfl⟩ : ∃ wb : World, wb = wr := ⟨_, rfl⟩
  have x4 := HB.out.c4
  have l4 := World.block_lt_of_cell? _ _ x4
  have x5 := HB.out.c5
  have l5 := World.block_lt_of_cell? _ _ x5
  have x6 := HB.out.c6
  have l6 := World.block_lt_of_cell? _ _ x6
  have x7 := HB.out.c7
  have l7 := World.block_lt_of_cell? _ _ x7
  have x8 := HB.out.c8
  have l8 := World.block_lt_of_cell? _ _ x8
  have x9 := HB.out.c9
  have l9 := World.block_lt_of_cell? _ _ x9
  simp only at l4 l5 l6 l7 l8 l9
  have y8 := HB.out.f8
  have y9 := HB.out.f9
  obtain ⟨p15, q15, x15, r15⟩ := E15.out
  have R15 := Lib.hid r15
  have l15 := World.block_lt_of_cell? _ _ x15
  simp only at l15
  clear r15
  obtain ⟨p17, q17, x17, r17⟩ := E17.out
  have R17 := Lib.hid r17
  have l17 := World.block_lt_of_cell? _ _ x17
  simp only at l17
  clear r17
  have BW := HB.out.bel
  go_upto_region 14 with fail
  go_cut [18, 19] (fun _ v wx => ∃ a19, v = .pointer (some ⟨a19, 0, none⟩) ∧ BxW wx a19 (divF (mulF m (misZ m p g h) (bzT m g h)) g m).2 ∧ wb.heap.size ≤ a19 ∧ Below wb.heap.size wb wx)
  case first =>
    as_aux_lemma =>
    go_region_held3 (fun w' => w'.cell? ⟨a15, 0, none⟩ = some (.slice p15 (misZ m p g h).length q15) ∧ w'.cell? ⟨a17, 0, none⟩ = some (.slice p17 (bzT m g h).length q17) ∧ w'.cell? ⟨w.heap.size + 1, 0, none⟩ = some (.slice pg g.length qg) ∧ w'.cell? ⟨w.heap.size + 1 + 1 + 1, 0, none⟩ = some (.int .i64 m))
      (((try dsimp only); (repeat' (refine And.intro ?_ ?_)); all_goals (first | assumption | (refine (Below.cell (B := wb.heap.size) (w := wb) ?_ ?_).trans ?_ <;> (first | assumption | omega | (simp only; omega) | (skip; (repeat' (first | (with_reducible exact Below.refl _ _) | (with_reducible assumption) | (with_reducible refine Below.alloc ?_ ?_ _) | (with_reducible refine Below.setCell ?_ ?_ _) | (with_reducible refine Below.drew ?_) | (with_reducible refine Below.via (by assumption) ?_ ?_) | go_size)); done))) | (go_keep; done))))
      (first
        | (go_at_call 82; ((with_reducible refine (mulOver_impl _ _ (misZ m p g h) (bzT m g h) m _ (R15.out.below (by (repeat' (first | (with_reducible exact Below.refl _ _) | (with_reducible assumption) | (with_reducible refine Below.alloc ?_ ?_ _) | (with_reducible refine Below.setCell ?_ ?_ _) | (with_reducible refine Below.drew ?_) | (with_reducible refine Below.via (by assumption) ?_ ?_) | go_size)))) (R17.out.below (by (repeat' (first | (with_reducible exact Below.refl _ _) | (with_reducible assumption) | (with_reducible refine Below.alloc ?_ ?_ _) | (with_reducible refine Below.setCell ?_ ?_ _) | (with_reducible refine Below.drew ?_) | (with_reducible refine Below.via (by assumption) ?_ ?_) | go_size)))) hm.out HM.out.1 HZ.out.2.1 (by omega)).mono ?_); rintro e wc ⟨vc, rfl, oc, dc⟩; obtain ⟨pc, qc, rfl⟩ := oc.rd.shape; have zc := dc.size; (try simp only [World.size_drew, World.size_alloc] at zc); obtain ⟨cc, fc⟩ := bcell dc; have Bc := (show Below wb.heap.size wb wc by (repeat' (first | (with_reducible exact Below.refl _ _) | (with_reducible assumption) | (with_reducible refine Below.alloc ?_ ?_ _) | (with_reducible refine Below.setCell ?_ ?_ _) | (with_reducible refine Below.drew ?_) | (with_reducible refine Below.via (by assumption) ?_ ?_) | go_size))); (try have lc1 : wb.heap.size < wc.heap.size := by omega); (try have lc2 : wb.heap.size + 1 < wc.heap.size := by omega)))
        | (go_at_call 88; ((with_reducible refine (divide_impl2 _ _ (mulF m (misZ m p g h) (bzT m g h)) g m _ (oc.rd.below (by (repeat' (first | (with_reducible exact Below.refl _ _) | (with_reducible assumption) | (with_reducible refine Below.alloc ?_ ?_ _) | (with_reducible refine Below.setCell ?_ ?_ _) | (with_reducible refine Below.drew ?_) | (with_reducible refine Below.via (by assumption) ?_ ?_) | go_size)))) (Hg.out.below (BW.trans (Below.mono (show Below wb.heap.size wb _ by (repeat' (first | (with_reducible exact Below.refl _ _) | (with_reducible assumption) | (with_reducible refine Below.alloc ?_ ?_ _) | (with_reducible refine Below.setCell ?_ ?_ _) | (with_reducible refine Below.drew ?_) | (with_reducible refine Below.via (by assumption) ?_ ?_) | go_size))) BW.size))) hm.out Omt.out Og.out).mono ?_); rintro e wd ⟨vd, ud, rfl, od, pd_, dd⟩; obtain ⟨pd, qd, rfl⟩ := od.rd.shape; obtain ⟨pe, qe, rfl⟩ := pd_.rd.shape; have zd := dd.size; (try simp only [World.size_drew, World.size_alloc] at zd); obtain ⟨cd, fd⟩ := bcell dd; have Bd := (show Below wb.heap.size wb wd by (repeat' (first | (with_reducible exact Below.refl _ _) | (with_reducible assumption) | (with_reducible refine Below.alloc ?_ ?_ _) | (with_reducible refine Below.setCell ?_ ?_ _) | (with_reducible refine Below.drew ?_) | (with_reducible refine Below.via (by assumption) ?_ ?_) | go_size))); (try have ld1 : wb.heap.size < wd.heap.size := by omega); (try have ld2 : wb.heap.size + 1 < wd.heap.size := by omega); (try have ld3 : wc.heap.size < wd.heap.size := by omega); (try have ld4 : wc.heap.size + 1 < wd.heap.size := by omega))))
    all_goals (go_wp2_with fail; go_meet; (refine ⟨_, rfl, ⟨pe, qe, ?_, ?_⟩, ?_, ?_⟩ <;> first | omega | (simp; omega) | (first | (with_reducible exact (OwI.alloc (OwI.alloc pd_ _) _).rd) | ((with_reducible refine (OwI.alloc (OwI.setCell pd_ ?_ _) _).rd) <;> (first | omega | (simp only [World.size_alloc, World.size_drew, World.size_setCell]; omega) | (simp; omega))) | ((with_reducible refine (OwI.setCell (OwI.alloc pd_ _) ?_ _).rd) <;> (first | omega | (simp only [World.size_alloc, World.size_drew, World.size_setCell]; omega) | (simp; omega))) | ((with_reducible refine (OwI.setCell (OwI.setCell pd_ ?_ _) ?_ _).rd) <;> (first | omega | (simp only [World.size_alloc, World.size_drew, World.size_setCell]; omega) | (simp; omega)))) | (go_simp; done) | (refine cell_set_some ?_; (try rw [cellZ (by omega)]); rw [cd _ _ (by first | omega | (simp <;> omega))]; go_simp; done) | (refine cell_set_some ?_; (try rw [cellZ (by omega)]); rw [cd _ _ (by first | omega | (simp <;> omega)), cc _ _ (by first | omega | (simp <;> omega))]; go_simp; done) | (skip; (repeat' (first | (with_reducible exact Below.refl _ _) | (with_reducible assumption) | (with_reducible refine Below.alloc ?_ ?_ _) | (with_reducible refine Below.setCell ?_ ?_ _) | (with_reducible refine Below.drew ?_) | (with_reducible refine Below.via (by assumption) ?_ ?_) | go_size)); done)))
  case rest =>
    obtain ⟨a19, rfl, hE19, hw19, hbx⟩ := hcut
    go_step
    have hl9 := HB.out.lt
    exact T HK.out (HB.out.below hbx) (by omega) (E15.out.below hbx) (show BxW _ a19 (upU m p g h) from hE19)


end Go.Proofs.Ytlnjkjogedbhfaa
