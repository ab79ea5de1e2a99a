/- LiftPair of the program: its second division. Conditions: those of its statement. -/
import Derived.Test.YtlnjkjogedbhfaaI53a
import Derived.Deep.RegionWith
import Derived.Deep.RegionHeld3
import Derived.Test.YtlnjkjogedbhfaaI19
namespace Go.Proofs.Ytlnjkjogedbhfaa
open Go Go.RowKit
set_option linter.unusedSimpArgs false
set_option linter.unusedVariables false

set_option maxRecDepth 100000 in
set_option maxHeartbeats 20000000 in
theorem lift_tail12 (T : LT13) : LT12 := by
  intro w m p g h pp qp pg qg ph qh wr a19 g0 p5 n5 Lf x0 x1 x2 x3 x10 x11 x12 x13 x14 x15 x16 x17 x18 x21 x22 x23 x24 x25 x26 x27 x28 x29 x30 x31 x32 x33 x34 x35 x36 x37 x38 x39 x40 x41 x42 x43 x44 x45 x46 x47 x48 x49 x50 x51 x52 x53 x54 x55 x56 x57 x58 x59 x60 x61 x62 x63 x64 x65 x66 x67 x68 x69 x70 x71 x72 x73 x74 x75 x76 x77 x78 x79 x80 x81 x82 x83 x84 x85 x86 x87 x88 x89 x90 x91 x92 x93 x94 x95 x96 x97 x98 x99 x100 x101 x102 x103 x104 x105 x106 x107 x108 x109 x110 x111 x112 x113 x114 x115 x116 x117 x118 x119 x120 x121 x122 x123 x124 x125 x126 x127 x128 x129 x130 x131 x132 x133 x134 x135 x136 x137 x138 x139 x140 x141 x142 x143 x144 x145 x146 x147 x148 x149 x150 x151 x152 x153 x154 x155 x156 x157 x158 x159 x160 x161 x162 x163 x164 x165 x166 x167 x168 x169 x170 x171 x172 x173 x174 x175 x176 x177 x178 x179 x180 x181 x182 x183 x184 K HK0 HB0 ha19 e19 ho5 hsub hLl hKK
  have HB := Lib.hid HB0
  have HK := Lib.hid HK0
  have Hp := Lib.hid HK0.rp
  have Hg := Lib.hid HK0.rg
  have Hh := Lib.hid HK0.rh
  have C := Lib.hid HK0.c
  have Ho := Lib.hid HK0.ho
  have hm := Lib.hid HK0.c.hm
  have Og := Lib.hid HK0.c.og
  have Oh := Lib.hid HK0.c.oh
  have Hvp := Lib.hid (validB_iff.1 HK0.vp)
  have hpn := Lib.hid ((validB_ne HK0.vp).1)
  have hm2 := primeB_bd hm.out
  have hlg := HK0.c.lg
  have hlh := HK0.c.lh
  have Fl : g.length ≤ 17 ∧ h.length ≤ 17 := ⟨HK0.lg, HK0.lh⟩
  have hlp2 := Hvp.out.len
  have hlp3 := HK0.c.lp
  have HPl := Lib.hid (C.out.len)
  clear HK0 HB0
  conv => arg 2; whnf
  conv at hKK => ext a' w'; arg 1; arg 2; whnf
  have E19 := Lib.hid e19
  have Ho5 := Lib.hid ho5
  have HSub := Lib.hid hsub
  clear e19 ho5 hsub
  have hlz := C.out.up.2.2.2.2.1
  have Hlz := Lib.hid hlz
  clear hlz
  have x4 := HB.out.c4
  have l4 := World.block_lt_of_cell? _ _ x4
  have x5 := HB.out.c5
  have l5 := World.block_lt_of_cell? _ _ x5
  have x6 := HB.out.c6
  have l6 := World.block_lt_of_cell? _ _ x6
  have x7 := HB.out.c7
  have l7 := World.block_lt_of_cell? _ _ x7
  have x8 := HB.out.c8
  have l8 := World.block_lt_of_cell? _ _ x8
  have x9 := HB.out.c9
  have l9 := World.block_lt_of_cell? _ _ x9
  simp only at l4 l5 l6 l7 l8 l9
  have y8 := HB.out.f8
  have y9 := HB.out.f9
  have BW := HB.out.bel
  go_upto_region 22 with fail
  go_cut [23, 24] (fun v _ wx => ∃ a23, v = .pointer (some ⟨a23, 0, none⟩) ∧ BxW wx a23 (divF (leftZ m p g h) g m).1 ∧ wr.heap.size ≤ a23 ∧ Below wr.heap.size wr wx)
  case first =>
    as_aux_lemma =>
    go_region_held3 (fun w' => w'.cell? ⟨w.heap.size + 1, 0, none⟩ = some (.slice pg g.length qg) ∧ w'.cell? ⟨w.heap.size + 1 + 1 + 1, 0, none⟩ = some (.int .i64 m))
      (((try dsimp only); (repeat' (refine And.intro ?_ ?_)); all_goals (first | assumption | (refine (Below.cell (B := wr.heap.size) (w := wr) ?_ ?_).trans ?_ <;> (first | assumption | omega | (simp only; omega) | (skip; (repeat' (first | (with_reducible exact Below.refl _ _) | (with_reducible assumption) | (with_reducible refine Below.alloc ?_ ?_ _) | (with_reducible refine Below.setCell ?_ ?_ _) | (with_reducible refine Below.drew ?_) | (with_reducible refine Below.via (by assumption) ?_ ?_) | go_size)); done))) | (go_keep; done))))
      (first
        | (go_at_call 86; ((with_reducible refine (whole_impl _ Lf _ g0 (Ho5.out.below (by (repeat' (first | (with_reducible exact Below.refl _ _) | (with_reducible assumption) | (with_reducible refine Below.alloc ?_ ?_ _) | (with_reducible refine Below.setCell ?_ ?_ _) | (with_reducible refine Below.drew ?_) | (with_reducible refine Below.via (by assumption) ?_ ?_) | go_size)))) hLl).mono ?_); rintro e wh ⟨vh, rfl, oh_, dh⟩; rw [← HSub.out] at oh_; obtain ⟨ph_, qh_, rfl⟩ := oh_.rd.shape; have zh := dh.size; (try simp only [World.size_drew, World.size_alloc] at zh); obtain ⟨ch, fh⟩ := bcell dh; have Bh := (show Below wr.heap.size wr wh by (repeat' (first | (with_reducible exact Below.refl _ _) | (with_reducible assumption) | (with_reducible refine Below.alloc ?_ ?_ _) | (with_reducible refine Below.setCell ?_ ?_ _) | (with_reducible refine Below.drew ?_) | (with_reducible refine Below.via (by assumption) ?_ ?_) | go_size))); (try have lh1 : wr.heap.size < wh.heap.size := by omega); (try have lh2 : wr.heap.size + 1 < wh.heap.size := by omega)))
        | (go_at_call 88; ((with_reducible refine (divide_impl2 _ _ (leftZ m p g h) g m _ (oh_.rd.below (by (repeat' (first | (with_reducible exact Below.refl _ _) | (with_reducible assumption) | (with_reducible refine Below.alloc ?_ ?_ _) | (with_reducible refine Below.setCell ?_ ?_ _) | (with_reducible refine Below.drew ?_) | (with_reducible refine Below.via (by assumption) ?_ ?_) | go_size)))) (Hg.out.below (BW.trans (Below.mono (show Below wr.heap.size wr _ by (repeat' (first | (with_reducible exact Below.refl _ _) | (with_reducible assumption) | (with_reducible refine Below.alloc ?_ ?_ _) | (with_reducible refine Below.setCell ?_ ?_ _) | (with_reducible refine Below.drew ?_) | (with_reducible refine Below.via (by assumption) ?_ ?_) | go_size))) BW.size))) hm.out Hlz.out Og.out).mono ?_); rintro e wi ⟨vd, ud, rfl, od, pd_, dd⟩; obtain ⟨pd, qd, rfl⟩ := od.rd.shape; obtain ⟨pe, qe, rfl⟩ := pd_.rd.shape; have zi := dd.size; (try simp only [World.size_drew, World.size_alloc] at zi); obtain ⟨ci, fi⟩ := bcell dd; have Bi := (show Below wr.heap.size wr wi by (repeat' (first | (with_reducible exact Below.refl _ _) | (with_reducible assumption) | (with_reducible refine Below.alloc ?_ ?_ _) | (with_reducible refine Below.setCell ?_ ?_ _) | (with_reducible refine Below.drew ?_) | (with_reducible refine Below.via (by assumption) ?_ ?_) | go_size))); (try have li1 : wr.heap.size < wi.heap.size := by omega); (try have li2 : wr.heap.size + 1 < wi.heap.size := by omega); (try have li3 : wh.heap.size < wi.heap.size := by omega); (try have li4 : wh.heap.size + 1 < wi.heap.size := by omega))))
    all_goals (go_wp2_with fail; go_meet; (refine ⟨_, rfl, ⟨pd, qd, ?_, ?_⟩, ?_, ?_⟩ <;> first | omega | (simp; omega) | (first | (with_reducible exact (OwI.alloc (OwI.alloc od _) _).rd) | ((with_reducible refine (OwI.alloc (OwI.setCell od ?_ _) _).rd) <;> (first | omega | (simp only [World.size_alloc, World.size_drew, World.size_setCell]; omega) | (simp; omega))) | ((with_reducible refine (OwI.setCell (OwI.alloc od _) ?_ _).rd) <;> (first | omega | (simp only [World.size_alloc, World.size_drew, World.size_setCell]; omega) | (simp; omega))) | ((with_reducible refine (OwI.setCell (OwI.setCell od ?_ _) ?_ _).rd) <;> (first | omega | (simp only [World.size_alloc, World.size_drew, World.size_setCell]; omega) | (simp; omega)))) | (go_simp; done) | (refine cell_set_some ?_; (try rw [cellZ (by omega)]); rw [ci _ _ (by first | omega | (simp <;> omega))]; go_simp; done) | (refine cell_set_some ?_; (try rw [cellZ (by omega)]); rw [ci _ _ (by first | omega | (simp <;> omega)), ch _ _ (by first | omega | (simp <;> omega))]; go_simp; done) | (rw [cellZ (by omega)]; refine cell_set_some ?_; rw [ci _ _ (by first | omega | (simp <;> omega))]; go_simp; done) | (rw [cellZ (by omega)]; refine cell_set_some ?_; rw [ci _ _ (by first | omega | (simp <;> omega)), ch _ _ (by first | omega | (simp <;> omega))]; go_simp; done) | (skip; (repeat' (first | (with_reducible exact Below.refl _ _) | (with_reducible assumption) | (with_reducible refine Below.alloc ?_ ?_ _) | (with_reducible refine Below.setCell ?_ ?_ _) | (with_reducible refine Below.drew ?_) | (with_reducible refine Below.via (by assumption) ?_ ?_) | go_size)); done)))
  case rest =>
    obtain ⟨a23, rfl, hE23, hw23, hbx⟩ := hcut
    go_step
    have hl9 := HB.out.lt
    exact T HK.out (HB.out.below hbx) ha19 (by omega) (E19.out.below hbx) (show BxW _ a23 (upV m p g h) from hE23)


end Go.Proofs.Ytlnjkjogedbhfaa
