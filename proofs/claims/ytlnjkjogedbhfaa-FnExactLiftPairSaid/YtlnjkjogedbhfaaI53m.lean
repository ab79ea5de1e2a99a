/- LiftPair of the program: its second loop. Conditions: those of its statement. -/
import Derived.Test.YtlnjkjogedbhfaaI53a
import Derived.Deep.RegionWith
import Derived.Deep.RegionHeld3
import Derived.Test.YtlnjkjogedbhfaaI17
import Derived.Test.YtlnjkjogedbhfaaI50
import Derived.Test.YtlnjkjogedbhfaaI51
import Derived.Test.YtlnjkjogedbhfaaI52
namespace Go.Proofs.Ytlnjkjogedbhfaa
open Go Go.RowKit
set_option linter.unusedSimpArgs false
set_option linter.unusedVariables false

set_option maxRecDepth 100000 in
set_option maxHeartbeats 20000000 in
theorem lift_tail9 (T : LT12) : LT9 := by
  intro w m p g h pp qp pg qg ph qh wr a15 a19 x0 x1 x2 x3 x10 x11 x12 x13 x14 x16 x17 x18 x20 x21 x22 x23 x24 x25 x26 x27 x28 x29 x30 x31 x32 x33 x34 x35 x36 x37 x38 x39 x40 x41 x42 x43 x44 x45 x46 x47 x48 x49 x50 x51 x52 x53 x54 x55 x56 x57 x58 x59 x60 x61 x62 x63 x64 x65 x66 x67 x68 x69 x70 x71 x72 x73 x74 x75 x76 x77 x78 x79 x80 x81 x82 x83 x84 x85 x86 x87 x88 x89 x90 x91 x92 x93 x94 x95 x96 x97 x98 x99 x100 x101 x102 x103 x104 x105 x106 x107 x108 x109 x110 x111 x112 x113 x114 x115 x116 x117 x118 x119 x120 x121 x122 x123 x124 x125 x126 x127 x128 x129 x130 x131 x132 x133 x134 x135 x136 x137 x138 x139 x140 x141 x142 x143 x144 x145 x146 x147 x148 x149 x150 x151 x152 x153 x154 x155 x156 x157 x158 x159 x160 x161 x162 x163 x164 x165 x166 x167 x168 x169 x170 x171 x172 x173 x174 x175 x176 x177 x178 x179 x180 x181 x182 x183 x184 HK0 HB0 ha19 e15 e19
  have HB := Lib.hid HB0
  have HK := Lib.hid HK0
  have Hp := Lib.hid HK0.rp
  have Hg := Lib.hid HK0.rg
  have Hh := Lib.hid HK0.rh
  have C := Lib.hid HK0.c
  have Ho := Lib.hid HK0.ho
  have hm := Lib.hid HK0.c.hm
  have Og := Lib.hid HK0.c.og
  have Oh := Lib.hid HK0.c.oh
  have Hvp := Lib.hid (validB_iff.1 HK0.vp)
  have hpn := Lib.hid ((validB_ne HK0.vp).1)
  have hm2 := primeB_bd hm.out
  have hlg := HK0.c.lg
  have hlh := HK0.c.lh
  have Fl : g.length ≤ 17 ∧ h.length ≤ 17 := ⟨HK0.lg, HK0.lh⟩
  have hlp2 := Hvp.out.len
  have hlp3 := HK0.c.lp
  have HPl := Lib.hid (C.out.len)
  clear HK0 HB0
  conv => arg 2; whnf
  have E15 := Lib.hid e15
  have E19 := Lib.hid e19
  clear e15 e19
  have HM := Lib.hid C.out.misT
  have HU := Lib.hid C.out.up
  have hlm := HM.out.2
  have hgl9 := HPl.out
  have hplen := C.out.lp
  have hlB2 := HB.out.lt
  have hlu := HU.out.2.1
  have Ouh := (mulF_ovr (m := m) (by omega) HU.out.1 Oh.out (by omega))
  obtain ⟨wc, rfl⟩ : ∃ wc : World, wc = wr := ⟨_, rfl⟩
  have x4 := HB.out.c4
  have l4 := World.block_lt_of_cell? _ _ x4
  have x5 := HB.out.c5
  have l5 := World.block_lt_of_cell? _ _ x5
  have x6 := HB.out.c6
  have l6 := World.block_lt_of_cell? _ _ x6
  have x7 := HB.out.c7
  have l7 := World.block_lt_of_cell? _ _ x7
  have x8 := HB.out.c8
  have l8 := World.block_lt_of_cell? _ _ x8
  have x9 := HB.out.c9
  have l9 := World.block_lt_of_cell? _ _ x9
  simp only at l4 l5 l6 l7 l8 l9
  have y8 := HB.out.f8
  have y9 := HB.out.f9
  obtain ⟨p15, q15, x15, r15⟩ := E15.out
  have R15 := Lib.hid r15
  have l15 := World.block_lt_of_cell? _ _ x15
  simp only at l15
  clear r15
  obtain ⟨p19, q19, x19, r19⟩ := E19.out
  have R19 := Lib.hid r19
  have l19 := World.block_lt_of_cell? _ _ x19
  simp only at l19
  clear r19
  have BW := HB.out.bel
  have HSub := Lib.hid (show leftZ m p g h = trimZ (buildZ (fun k => ((misZ m p g h).getD k 0 - (mulF m (upU m p g h) h).getD k 0) % m) (max (misZ m p g h).length (mulF m (upU m p g h) h).length)) from rfl)
  have HUm := Lib.hid HM.out.1
  have Hu1 := Lib.hid HU.out.1
  generalize hPe : mulF m (upU m p g h) h = P at *
  generalize hMe : misZ m p g h = M at *
  have HPe := Lib.hid hPe
  have HMe := Lib.hid hMe
  clear hPe hMe
  go_upto_region 16 with fail
  go_cut [20, 21] (fun ov v wx => ∃ g0 a21 p21 q21, ov = .slice (some ⟨g0, 0, none⟩) 0 0 ∧ v = .pointer (some ⟨a21, 0, none⟩) ∧ wx.cell? ⟨a21, 0, none⟩ = some (.slice p21 P.length q21) ∧ RdZ wx g0 (.slice p21 P.length q21) P ∧ Below wc.heap.size wc wx ∧ RowZ wx g0 wx ov (buildZ (fun k => (M.getD k 0 - P.getD k 0) % m) 0) ∧ wc.heap.size ≤ g0 ∧ g0 < wx.heap.size ∧ a21 ≠ g0)
  case first =>
    as_aux_lemma =>
    go_wp2_with fail
    (go_at_call 82; ((with_reducible refine (mulOver_impl _ _ (upU m p g h) h m _ (R19.out.below (by (repeat' (first | (with_reducible exact Below.refl _ _) | (with_reducible assumption) | (with_reducible refine Below.alloc ?_ ?_ _) | (with_reducible refine Below.setCell ?_ ?_ _) | (with_reducible refine Below.drew ?_) | (with_reducible refine Below.via (by assumption) ?_ ?_) | go_size)))) (Hh.out.below (BW.trans (Below.mono (show Below wc.heap.size wc _ by (repeat' (first | (with_reducible exact Below.refl _ _) | (with_reducible assumption) | (with_reducible refine Below.alloc ?_ ?_ _) | (with_reducible refine Below.setCell ?_ ?_ _) | (with_reducible refine Below.drew ?_) | (with_reducible refine Below.via (by assumption) ?_ ?_) | go_size))) BW.size))) hm.out Hu1.out Oh.out (by omega)).mono ?_); rintro e w7 ⟨v7, rfl, o7, d7⟩))
    rw [HPe.out] at o7
    have z7 := d7.size
    simp only [World.size_alloc] at z7
    obtain ⟨p7, q7, rfl⟩ := o7.rd.shape
    go_wp2_with fail
    go_meet
    exact ⟨wc.heap.size, w7.heap.size, p7, q7, rfl, rfl, by go_simp, RdZ.ofOwn o7 Ouh.ne (by (repeat' (first | (with_reducible exact Below.refl _ _) | (with_reducible assumption) | (with_reducible refine Below.alloc ?_ ?_ _) | (with_reducible refine Below.setCell ?_ ?_ _) | (with_reducible refine Below.drew ?_) | (with_reducible refine Below.via (by assumption) ?_ ?_) | go_size))) (by simp), by (repeat' (first | (with_reducible exact Below.refl _ _) | (with_reducible assumption) | (with_reducible refine Below.alloc ?_ ?_ _) | (with_reducible refine Below.setCell ?_ ?_ _) | (with_reducible refine Below.drew ?_) | (with_reducible refine Below.via (by assumption) ?_ ?_) | go_size)), RowZ.start ((RowI.emptyB (E := fun k => (M.getD k 0 - P.getD k 0) % m) (s := wc.heap.size) (B := wc.heap.size) rfl (Nat.le_refl _)).below (by (repeat' (first | (with_reducible exact Below.refl _ _) | (with_reducible assumption) | (with_reducible refine Below.alloc ?_ ?_ _) | (with_reducible refine Below.setCell ?_ ?_ _) | (with_reducible refine Below.drew ?_) | (with_reducible refine Below.via (by assumption) ?_ ?_) | go_size)))), Nat.le_refl _, by simp; omega, by omega⟩
  case rest =>
    obtain ⟨g0, a21, p21, q21, rfl, rfl, y0, hY, hbx, hR0, hg0, hg1, dy⟩ := hcut
    rename World => wd
    have HY := Lib.hid hY
    have HRow0 := Lib.hid hR0
    have HX := Lib.hid (RdZ.ofOld (g0 := g0) R15.out HUm.out.ne hbx hg0)
    have x0 := (hbx.cell (p := ⟨a15, 0, none⟩) l15).trans x15
    have m0 := (hbx.cell (p := ⟨w.heap.size + 1 + 1 + 1, 0, none⟩) l7).trans x7
    have E19d := Lib.hid (E19.out.below hbx)
    have zdc := hbx.size
    have Bcd := Lib.hid hbx
    have dx : a15 ≠ g0 := by omega
    have dm : w.heap.size + 1 + 1 + 1 ≠ g0 := by omega
    have HXb := Lib.hid (fun i => show 0 ≤ M.getD i 0 ∧ M.getD i 0 ≤ 1000 by have := HUm.out.ov i; omega)
    have HYb := Lib.hid (fun i => show 0 ≤ P.getD i 0 ∧ P.getD i 0 ≤ 1000 by have := Ouh.ov i; omega)
    have hMl := HUm.out.len
    have hPl := Ouh.len
    obtain ⟨n, hn⟩ : ∃ n : Nat, n = max M.length P.length := ⟨_, rfl⟩
    rw [← hn] at HSub
    have Hnm := Lib.hid hn
    have hn3 : n ≤ 100 := by omega
    clear hn hbx hY hR0 x15 R15 l15 x19 R19 l19 p19 q19 x4 x5 x6 x7 x8 x9 l4 l5 l6 l7 l8 l9 y8 y9 BW
    have hmx : (if (M.length : Int) < (P.length : Int) then (P.length : Int) else (M.length : Int)) = (n : Int) := by have := Hnm.out; split <;> omega
    have lx0 := World.block_lt_of_cell? _ _ x0
    have ly0 := World.block_lt_of_cell? _ _ y0
    simp only at lx0 ly0
    go_upto_region 17 with fail
    go_cut [149, 150] (fun v c wx => v = .int .i64 n ∧ c = .int .i64 0 ∧ wd = wx)
    case first =>
      as_aux_lemma =>
      go_wp2_with fail
      all_goals (go_meet; refine ⟨?_, rfl, rfl⟩; congr 1; have := Hnm.out; omega)
    case rest =>
      obtain ⟨rfl, rfl, hwx⟩ := hcut
      subst hwx
      go_wp2_with fail
      go_loopw [20, 150] (fun ov i wr => ∃ k : Nat, k ≤ n ∧ i = .int .i64 k ∧ RowZ wd (g0) wr ov (buildZ (fun k => (M.getD k 0 - P.getD k 0) % m) k)) (fun _ i _ => n - (intOf i).toNat)
      case atStart => exact ⟨0, Nat.zero_le _, rfl, HRow0.out⟩
      case round =>
        obtain ⟨k, hk, rfl, hrow⟩ := hrel
        have hsz := hrow.size
        have Hrow := Lib.hid hrow
        have hlen : (buildZ (fun k => (M.getD k 0 - P.getD k 0) % m) k).length ≤ 1099511627776 := by rw [buildZ_length]; omega
        have wx1 := World.block_lt_of_cell? _ _ x0
        have wy1 := World.block_lt_of_cell? _ _ y0
        have wm1 := World.block_lt_of_cell? _ _ m0
        simp only at wx1 wy1 wm1
        have e0 := (hrow.cell wx1 dx).trans x0
        have e1 := (hrow.cell wy1 dy).trans y0
        have e2 := (hrow.cell wm1 dm).trans m0
        have n0 : a15 < wr.heap.size := by omega
        have n1 : a21 < wr.heap.size := by omega
        have n2 : w.heap.size + 1 + 1 + 1 < wr.heap.size := by omega
        have RX := Lib.hid (HX.out.rd hrow)
        have RY := Lib.hid (HY.out.rd hrow)
        clear hrow
        by_cases hlt : k < n
        · have hki1 : M.length < P.length → (k : Int) < (P.length : Int) := fun _ => by have := Hnm.out; omega
          have hki2 : ¬ M.length < P.length → (k : Int) < (M.length : Int) := fun _ => by have := Hnm.out; omega
          have Hn := Lib.hid (show buildZ (fun k => (M.getD k 0 - P.getD k 0) % m) k ++ [(M.getD k 0 - P.getD k 0) % m] = buildZ (fun k => (M.getD k 0 - P.getD k 0) % m) (k + 1) from buildZ_succ _ k)
          have bd1 := HXb.out k
          have bd2 := HYb.out k
          have Hx1 := Lib.hid (atZ_nat M k)
          have Hy1 := Lib.hid (atZ_nat P k)
          have hw1 : IntKind.i64.wrap (M.getD k 0 - P.getD k 0) = M.getD k 0 - P.getD k 0 := IntWalk.i64_in _ ⟨by omega, by omega⟩
          generalize M.getD k 0 = X at *
          generalize P.getD k 0 = Y at *
          clear x0 y0 m0
          go_wp2_with fail
          go_region_held3 (fun w' => w'.cell? ⟨a15, 0, none⟩ = some (.slice p15 M.length q15) ∧ w'.cell? ⟨a21, 0, none⟩ = some (.slice p21 P.length q21) ∧ w'.cell? ⟨w.heap.size + 1 + 1 + 1, 0, none⟩ = some (.int .i64 m))
            (((try dsimp only); (try go_split_ands); refine ⟨?_, ?_, ?_⟩ <;> (first | assumption | (rw [World.cell?_of_block (hn1 _ wx1 dx)]; assumption) | (rw [World.cell?_of_block (hn1 _ wy1 dy)]; assumption) | (rw [World.cell?_of_block (hn1 _ wm1 dm)]; assumption)  | (refine (((Below.refl _ _).alloc (Nat.le_refl _) _).cell (by first | omega | (simp <;> omega))).trans (by assumption)) | (go_keep; done))))
            (first
              | (go_at_call 89; ((with_reducible refine (integerAt_impl _ M k _ (RX.out.below (by (repeat' (first | (with_reducible exact Below.refl _ _) | (with_reducible assumption) | (with_reducible refine Below.alloc ?_ ?_ _) | (with_reducible refine Below.setCell ?_ ?_ _) | (with_reducible refine Below.drew ?_) | (with_reducible refine Below.via (by assumption) ?_ ?_) | go_size)))) (by omega)).mono ?_); rintro e w' ⟨rfl, rfl⟩; rw [Hx1.out]))
              | (go_at_call 89; ((with_reducible refine (integerAt_impl _ P k _ (RY.out.below (by (repeat' (first | (with_reducible exact Below.refl _ _) | (with_reducible assumption) | (with_reducible refine Below.alloc ?_ ?_ _) | (with_reducible refine Below.setCell ?_ ?_ _) | (with_reducible refine Below.drew ?_) | (with_reducible refine Below.via (by assumption) ?_ ?_) | go_size)))) (by omega)).mono ?_); rintro e w' ⟨rfl, rfl⟩; rw [Hy1.out]))
              | (go_at_call 85; ((with_reducible refine (rest_impl (X - Y) m _ (by omega) (by omega) (by omega) (by omega)).mono ?_); rintro e w' ⟨rfl, rfl⟩))
              | (refine step_pushZ (W := wd) (g0 := g0) (zs := buildZ (fun k => (M.getD k 0 - P.getD k 0) % m) k) (y := (X - Y) % m) rfl _ _ rfl int64S_under (Hrow.out.below (by (repeat' (first | (with_reducible exact Below.refl _ _) | (with_reducible assumption) | (with_reducible refine Below.alloc ?_ ?_ _) | (with_reducible refine Below.setCell ?_ ?_ _) | (with_reducible refine Below.drew ?_) | (with_reducible refine Below.via (by assumption) ?_ ?_) | go_size)))) hlen (by first | omega | (simp; omega)) rfl _ rfl (by go_simp) ?_; intro v1 w9 hr1 hn1))
          go_wp2_with fail
          go_roundw
          case rel => exact ⟨k + 1, by omega, by go_num, by rw [← Hn.out]; exact hr1⟩
          case measure => simp [intOf]; omega
        · obtain rfl : k = n := by omega
          have hki1 : M.length < P.length → ¬ (k : Int) < (P.length : Int) := fun _ => by have := Hnm.out; omega
          have hki2 : ¬ M.length < P.length → ¬ (k : Int) < (M.length : Int) := fun _ => by have := Hnm.out; omega
          have Ho5 := Lib.hid Hrow.out.row.own
          have hov5 := Hrow.out.row.own.rd.shape
          have Bwr := Bcd.out.trans (Hrow.out.only.toBelow hg0 zdc)
          obtain ⟨p5, n5, hv5⟩ := hov5
          subst hv5
          have q1 := Lib.hid (HB.out.below Bwr)
          have q2 := Lib.hid (E19.out.below Bwr)
          have q3 := Lib.hid Ho5.out
          have q4 := Lib.hid (show _ ≤ 1099511627776 from hlen)
          have ha := Lib.hid ha19
          clear Bwr Ho5 HX HY RX RY Hrow e0 e1 e2 wx1 wy1 wm1 hsz hMl hPl hn3 zdc ha19 hmx
          generalize buildZ (fun k => (M.getD k 0 - P.getD k 0) % m) k = Lf at *
          go_upto_region 22 with fail
          exact T HK.out q1.out ha.out q2.out q3.out HSub.out q4.out (by assumption)


end Go.Proofs.Ytlnjkjogedbhfaa

/- LiftPair of the program: from the product to bezout's two. Conditions: those of its statement. -/
namespace Go.Proofs.Ytlnjkjogedbhfaa
open Go Go.RowKit
set_option linter.unusedSimpArgs false
set_option linter.unusedVariables false

set_option maxRecDepth 100000 in
set_option maxHeartbeats 20000000 in
theorem lift_tail3 (T : LT8) : LT3 := by
  intro w m p g h pp qp pg qg ph qh wr  x0 x1 x2 x3 x10 x11 x12 x13 x14 x15 x16 x17 x18 x19 x20 x21 x22 x23 x24 x25 x26 x27 x28 x29 x30 x31 x32 x33 x34 x35 x36 x37 x38 x39 x40 x41 x42 x43 x44 x45 x46 x47 x48 x49 x50 x51 x52 x53 x54 x55 x56 x57 x58 x59 x60 x61 x62 x63 x64 x65 x66 x67 x68 x69 x70 x71 x72 x73 x74 x75 x76 x77 x78 x79 x80 x81 x82 x83 x84 x85 x86 x87 x88 x89 x90 x91 x92 x93 x94 x95 x96 x97 x98 x99 x100 x101 x102 x103 x104 x105 x106 x107 x108 x109 x110 x111 x112 x113 x114 x115 x116 x117 x118 x119 x120 x121 x122 x123 x124 x125 x126 x127 x128 x129 x130 x131 x132 x133 x134 x135 x136 x137 x138 x139 x140 x141 x142 x143 x144 x145 x146 x147 x148 x149 x150 x151 x152 x153 x154 x155 x156 x157 x158 x159 x160 x161 x162 x163 x164 x165 x166 x167 x168 x169 x170 x171 x172 x173 x174 x175 x176 x177 x178 x179 x180 x181 x182 x183 x184 HK0 HB0 
  have HB := Lib.hid HB0
  have HK := Lib.hid HK0
  have Hp := Lib.hid HK0.rp
  have Hg := Lib.hid HK0.rg
  have Hh := Lib.hid HK0.rh
  have C := Lib.hid HK0.c
  have Ho := Lib.hid HK0.ho
  have hm := Lib.hid HK0.c.hm
  have Og := Lib.hid HK0.c.og
  have Oh := Lib.hid HK0.c.oh
  have Hvp := Lib.hid (validB_iff.1 HK0.vp)
  have hpn := Lib.hid ((validB_ne HK0.vp).1)
  have hm2 := primeB_bd hm.out
  have hlg := HK0.c.lg
  have hlh := HK0.c.lh
  have Fl : g.length ≤ 17 ∧ h.length ≤ 17 := ⟨HK0.lg, HK0.lh⟩
  have hlp2 := Hvp.out.len
  have hlp3 := HK0.c.lp
  have HPl := Lib.hid (C.out.len)
  clear HK0 HB0
  conv => arg 2; whnf
  have hplen := C.out.lp
  have x4 := HB.out.c4
  have l4 := World.block_lt_of_cell? _ _ x4
  have x5 := HB.out.c5
  have l5 := World.block_lt_of_cell? _ _ x5
  have x6 := HB.out.c6
  have l6 := World.block_lt_of_cell? _ _ x6
  have x7 := HB.out.c7
  have l7 := World.block_lt_of_cell? _ _ x7
  have x8 := HB.out.c8
  have l8 := World.block_lt_of_cell? _ _ x8
  have x9 := HB.out.c9
  have l9 := World.block_lt_of_cell? _ _ x9
  simp only at l4 l5 l6 l7 l8 l9
  have y8 := HB.out.f8
  have y9 := HB.out.f9
  have hgb : BdI 1000000 g := Og.out.ov.bd (by omega)
  have hhb : BdI 1000000 h := Oh.out.ov.bd (by omega)
  have Hgb := Lib.hid hgb
  have Hhb := Lib.hid hhb
  have hgl0 : 0 < g.length := by omega
  have hhl0 : 0 < h.length := by omega
  clear hgb hhb
  go_wp2_with fail
  (go_at_call 84; ((with_reducible refine (product_impl _ _ g h _ (Hg.out.below HB.out.bel) (Hh.out.below HB.out.bel) hgl0 hhl0 (by omega) (by omega) Hgb.out Hhb.out).mono ?_); rintro e w1p ⟨vP, rfl, rP, bP⟩))
  have HP := Lib.hid rP.own.rd
  have HPl := Lib.hid (C.out.len)
  clear x4 x5 x6 x7 x8 x9 l4 l5 l6 l7 l8 l9 y8 y9
  replace HB := Lib.hid (HB.out.below bP)
  have hmn : mulZ g h ≠ [] := List.ne_nil_of_length_pos (by rw [mulZ_length]; omega)
  obtain ⟨bQ, fQ, qQ, rfl, hbQ, hcQ⟩ := rP.own.rd.open hmn
  have HcQ := Lib.hid hcQ
  have zP := bP.size
  obtain ⟨bp, fp, qp, hpe, hbp, hcp⟩ := (Hp.out.below HB.out.bel).open hpn.out
  simp only [Value.slice.injEq, true_and] at hpe
  obtain ⟨rfl, rfl⟩ := hpe
  have Hcp := Lib.hid hcp
  clear rP bP hcQ hmn hcp
  have x4 := HB.out.c4
  have l4 := World.block_lt_of_cell? _ _ x4
  have x5 := HB.out.c5
  have l5 := World.block_lt_of_cell? _ _ x5
  have x6 := HB.out.c6
  have l6 := World.block_lt_of_cell? _ _ x6
  have x7 := HB.out.c7
  have l7 := World.block_lt_of_cell? _ _ x7
  have x8 := HB.out.c8
  have l8 := World.block_lt_of_cell? _ _ x8
  have x9 := HB.out.c9
  have l9 := World.block_lt_of_cell? _ _ x9
  simp only at l4 l5 l6 l7 l8 l9
  have y8 := HB.out.f8
  have y9 := HB.out.f9
  go_wp2_with fail
  generalize hw3 : World.alloc w1p _ = w3
  have Hw3 := Lib.hid hw3
  clear hw3
  have z3 : w3.heap.size = w1p.heap.size + 1 := by rw [← Hw3.out]; simp
  have B3 := Lib.hid (show Below w1p.heap.size w1p w3 by rw [← Hw3.out]; (repeat' (first | (with_reducible exact Below.refl _ _) | (with_reducible assumption) | (with_reducible refine Below.alloc ?_ ?_ _) | (with_reducible refine Below.setCell ?_ ?_ _) | (with_reducible refine Below.drew ?_) | (with_reducible refine Below.via (by assumption) ?_ ?_) | go_size)))
  have HRow0 := Lib.hid (show RowZ w3 (w1p.heap.size) w3 _ _ from RowZ.start (by rw [← Hw3.out]; exact RowI.emptyB (E := misE m p g h) (s := w1p.heap.size) (B := w1p.heap.size) rfl (Nat.le_refl _)))
  have m0 := (B3.out.cell (p := ⟨w.heap.size + 1 + 1 + 1, 0, none⟩) l7).trans x7
  clear x4 x5 x6 x7 x8 x9 l4 l5 l6 l7 l8 l9 y8 y9 Hw3
  go_loopw [12, 100] (fun ov i wr => ∃ k : Nat, k ≤ p.length ∧ i = .int .i64 k ∧ RowZ w3 (w1p.heap.size) wr ov (buildZ (misE m p g h) k)) (fun _ i _ => p.length - (intOf i).toNat)
  case atStart => exact ⟨0, Nat.zero_le _, rfl, HRow0.out⟩
  case round =>
    obtain ⟨k, hk, rfl, hrow⟩ := hrel
    have hsz := hrow.size
    have Hrow := Lib.hid hrow
    have hlen : (buildZ (misE m p g h) k).length ≤ 1099511627776 := by rw [buildZ_length]; omega
    have wm1 := World.block_lt_of_cell? _ _ m0
    simp only at wm1
    have hlB := HB.out.lt
    have dm : w.heap.size + 1 + 1 + 1 ≠ w1p.heap.size := by omega
    have e2 := (hrow.cell wm1 dm).trans m0
    have n2 : w.heap.size + 1 + 1 + 1 < wr.heap.size := by omega
    clear hrow
    by_cases hlt : k < p.length
    · have hlti : (k : Int) < (p.length : Int) := by omega
      have hltq : k < (mulZ g h).length := by rw [mulZ_length]; have := HPl.out; omega
      have hltqi : (k : Int) < ((mulZ g h).length : Int) := by omega
      have cP := (World.cell?_of_block (w := w3) (a := ⟨bp, fp + k, none⟩) (Hrow.out.block (k := bp) (by omega) (by omega))).trans ((B3.out.cell (p := ⟨bp, fp + k, none⟩) hbp).trans (Hcp.out k hlt))
      have cQ := (World.cell?_of_block (w := w3) (a := ⟨bQ, fQ + k, none⟩) (Hrow.out.block (k := bQ) (by omega) (by omega))).trans ((B3.out.cell (p := ⟨bQ, fQ + k, none⟩) hbQ).trans (HcQ.out k hltq))
      have Hn := Lib.hid (show buildZ (misE m p g h) k ++ [misE m p g h k] = buildZ (misE m p g h) (k + 1) from buildZ_succ _ k)
      have bd1 := Hvp.out.bd k
      have bd2 := mulZ_bd (Og.out.ov.bd (M := 1000) (by omega)) (Oh.out.ov.bd (M := 1000) (by omega)) Og.out.len k
      obtain ⟨c, hcd⟩ := C.out.dvd k
      have hE : misE m p g h k = c % m := by unfold misE; rw [hcd, Int.mul_ediv_cancel_left _ (by omega)]
      rw [hE] at Hn
      have hltB : bQ < w1p.heap.size := hbQ
      generalize p.getD k 0 = X at *
      generalize (mulZ g h).getD k 0 = Y at *
      have hq1 : (X - Y).tdiv m = c := by rw [hcd, Int.mul_tdiv_cancel_left _ (by omega)]
      have hcb := tdiv_bd (z := X - Y) (g := m) (M := 200000000) (by omega)
      rw [hq1] at hcb
      have hw1 : IntKind.i64.wrap (X - Y) = X - Y := IntWalk.i64_in _ ⟨by omega, by omega⟩
      have hw2 : IntKind.i64.wrap c = c := IntWalk.i64_in _ ⟨by omega, by omega⟩
      have hm0 : ¬ (m = 0) := by omega
      clear hcd hE
      go_wp2_with fail
      go_region_held3 (fun w' => w'.cell? ⟨w.heap.size + 1 + 1 + 1, 0, none⟩ = some (.int .i64 m) ∧ w'.cell? ⟨bQ, fQ + k, none⟩ = some (.int .i64 Y))
        (((try dsimp only); (try go_split_ands); refine ⟨?_, ?_⟩ <;> (first | assumption | (rw [World.cell?_of_block (hn1 _ wm1 dm)]; assumption) | (rw [World.cell?_of_block (a := ⟨bQ, fQ + k, none⟩) (hn1 bQ (by omega) (by omega))]; assumption)  | (refine (((Below.refl _ _).alloc (Nat.le_refl _) _).cell (by first | omega | (simp <;> omega))).trans (by assumption)) | (go_keep; done))))
        (first
          | (go_at_call 85; ((with_reducible refine (rest_impl c m _ (by omega) (by omega) (by omega) (by omega)).mono ?_); rintro e w' ⟨rfl, rfl⟩))
          | (refine step_pushZ (W := w3) (g0 := w1p.heap.size) (zs := buildZ (misE m p g h) k) (y := c % m) rfl _ _ rfl int64S_under (Hrow.out.below (by (repeat' (first | (with_reducible exact Below.refl _ _) | (with_reducible assumption) | (with_reducible refine Below.alloc ?_ ?_ _) | (with_reducible refine Below.setCell ?_ ?_ _) | (with_reducible refine Below.drew ?_) | (with_reducible refine Below.via (by assumption) ?_ ?_) | go_size)))) hlen (by first | omega | (simp; omega)) rfl _ rfl (by go_simp) ?_; intro v1 w9 hr1 hn1))
      go_wp2_with fail
      go_roundw
      case rel => exact ⟨k + 1, by omega, by go_num, by rw [← Hn.out]; exact hr1⟩
      case measure => simp [intOf]; omega
    · obtain rfl : k = p.length := by omega
      have Ho5 := Lib.hid Hrow.out.row.own
      have hov5 := Hrow.out.row.own.rd.shape
      have Bwr := Lib.hid (show Below w1p.heap.size w1p wr from B3.out.trans (Hrow.out.only.toBelow (Nat.le_refl _) (by omega)))
      replace HB := Lib.hid (HB.out.below Bwr.out)
      obtain ⟨p5, n5, rfl⟩ := hov5
      have zwr := Bwr.out.size
      have hmz := Lib.hid (show trimZ (buildZ (misE m p g h) p.length) = misZ m p g h from rfl)
      clear e2 n2 m0 wm1 Hrow Bwr B3 HRow0 HcQ HP
      have BW := HB.out.bel
      go_upto_region 12 with fail
      go_cut [15] (fun v wx => ∃ a15, v = .pointer (some ⟨a15, 0, none⟩) ∧ BxW wx a15 (misZ m p g h) ∧ Below wr.heap.size wr wx)
      case first =>
        as_aux_lemma =>
        go_wp2_with fail
        (go_at_call 86; ((with_reducible refine (whole_impl _ _ _ (w1p.heap.size) Ho5.out (by rw [buildZ_length]; omega)).mono ?_); rintro e w5 ⟨v5, rfl, ho5, hb5⟩))
        rw [hmz.out] at ho5
        have z5 := hb5.size
        obtain ⟨p6, n6, rfl⟩ := ho5.rd.shape
        go_wp2_with fail
        go_meet
        exact ⟨w5.heap.size, rfl, ⟨p6, n6, by go_simp, ho5.rd.below (by (repeat' (first | (with_reducible exact Below.refl _ _) | (with_reducible assumption) | (with_reducible refine Below.alloc ?_ ?_ _) | (with_reducible refine Below.setCell ?_ ?_ _) | (with_reducible refine Below.drew ?_) | (with_reducible refine Below.via (by assumption) ?_ ?_) | go_size)))⟩, by (repeat' (first | (with_reducible exact Below.refl _ _) | (with_reducible assumption) | (with_reducible refine Below.alloc ?_ ?_ _) | (with_reducible refine Below.setCell ?_ ?_ _) | (with_reducible refine Below.drew ?_) | (with_reducible refine Below.via (by assumption) ?_ ?_) | go_size))⟩
      case rest =>
        obtain ⟨a15, rfl, hE15, hbx⟩ := hcut
        rename World => wa
        have E15 := Lib.hid hE15
        replace HB := Lib.hid (HB.out.below hbx)
        clear hE15 hbx Ho5 hmz BW
        have x4 := HB.out.c4
        have l4 := World.block_lt_of_cell? _ _ x4
        have x5 := HB.out.c5
        have l5 := World.block_lt_of_cell? _ _ x5
        have x6 := HB.out.c6
        have l6 := World.block_lt_of_cell? _ _ x6
        have x7 := HB.out.c7
        have l7 := World.block_lt_of_cell? _ _ x7
        have x8 := HB.out.c8
        have l8 := World.block_lt_of_cell? _ _ x8
        have x9 := HB.out.c9
        have l9 := World.block_lt_of_cell? _ _ x9
        simp only at l4 l5 l6 l7 l8 l9
        have y8 := HB.out.f8
        have y9 := HB.out.f9
        have BW := HB.out.bel
        go_upto_region 13 with fail
        go_cut [16, 17] (fun _ v wx => ∃ a17, v = .pointer (some ⟨a17, 0, none⟩) ∧ BxW wx a17 (bzT m g h) ∧ Below wa.heap.size wa wx)
        case first =>
          as_aux_lemma =>
          go_wp2_with fail
          (go_at_call 87; ((with_reducible refine (bezout_impl _ _ p g h m _ (Hg.out.below HB.out.bel) (Hh.out.below HB.out.bel) C.out).mono ?_); rintro e w6 ⟨v6, u6, rfl, h6, k6, hb6⟩))
          have z6 := hb6.size
          obtain ⟨p6, n6, rfl⟩ := h6.rd.shape
          obtain ⟨p7, n7, rfl⟩ := k6.rd.shape
          go_wp2_with fail
          go_meet
          exact ⟨w6.heap.size + 1, rfl, ⟨p7, n7, by go_simp, k6.rd.below (by (repeat' (first | (with_reducible exact Below.refl _ _) | (with_reducible assumption) | (with_reducible refine Below.alloc ?_ ?_ _) | (with_reducible refine Below.setCell ?_ ?_ _) | (with_reducible refine Below.drew ?_) | (with_reducible refine Below.via (by assumption) ?_ ?_) | go_size)))⟩, by have h9 : wa.heap.size ≤ (w6.alloc (.cells #[.slice p6 (bzS m g h).length n6] 27)).heap.size := (by simp; omega); (repeat' (first | (with_reducible exact Below.refl _ _) | (with_reducible assumption) | (with_reducible refine Below.alloc ?_ ?_ _) | (with_reducible refine Below.setCell ?_ ?_ _) | (with_reducible refine Below.drew ?_) | (with_reducible refine Below.via (by assumption) ?_ ?_) | go_size))⟩
        case rest =>
          obtain ⟨a17, rfl, hE17, hbx⟩ := hcut
          go_step
          exact T HK.out (HB.out.below hbx) (E15.out.below hbx) hE17


end Go.Proofs.Ytlnjkjogedbhfaa

/- LiftPair of the program: its end. Conditions: those of its statement. -/
namespace Go.Proofs.Ytlnjkjogedbhfaa
open Go Go.RowKit
set_option linter.unusedSimpArgs false
set_option linter.unusedVariables false

set_option maxRecDepth 100000 in
set_option maxHeartbeats 20000000 in
theorem lift_tail13 : LT13 := by
  intro w m p g h pp qp pg qg ph qh wr a19 a23 x0 x1 x2 x3 x10 x11 x12 x13 x14 x15 x16 x17 x18 x20 x21 x22 x24 x25 x26 x27 x28 x29 x30 x31 x32 x33 x34 x35 x36 x37 x38 x39 x40 x41 x42 x43 x44 x45 x46 x47 x48 x49 x50 x51 x52 x53 x54 x55 x56 x57 x58 x59 x60 x61 x62 x63 x64 x65 x66 x67 x68 x69 x70 x71 x72 x73 x74 x75 x76 x77 x78 x79 x80 x81 x82 x83 x84 x85 x86 x87 x88 x89 x90 x91 x92 x93 x94 x95 x96 x97 x98 x99 x100 x101 x102 x103 x104 x105 x106 x107 x108 x109 x110 x111 x112 x113 x114 x115 x116 x117 x118 x119 x120 x121 x122 x123 x124 x125 x126 x127 x128 x129 x130 x131 x132 x133 x134 x135 x136 x137 x138 x139 x140 x141 x142 x143 x144 x145 x146 x147 x148 x149 x150 x151 x152 x153 x154 x155 x156 x157 x158 x159 x160 x161 x162 x163 x164 x165 x166 x167 x168 x169 x170 x171 x172 x173 x174 x175 x176 x177 x178 x179 x180 x181 x182 x183 x184 HK0 HB0 ha19 ha23 e19 e23
  have HB := Lib.hid HB0
  have HK := Lib.hid HK0
  have Hp := Lib.hid HK0.rp
  have Hg := Lib.hid HK0.rg
  have Hh := Lib.hid HK0.rh
  have C := Lib.hid HK0.c
  have Ho := Lib.hid HK0.ho
  have hm := Lib.hid HK0.c.hm
  have Og := Lib.hid HK0.c.og
  have Oh := Lib.hid HK0.c.oh
  have Hvp := Lib.hid (validB_iff.1 HK0.vp)
  have hpn := Lib.hid ((validB_ne HK0.vp).1)
  have hm2 := primeB_bd hm.out
  have hlg := HK0.c.lg
  have hlh := HK0.c.lh
  have Fl : g.length ≤ 17 ∧ h.length ≤ 17 := ⟨HK0.lg, HK0.lh⟩
  have hlp2 := Hvp.out.len
  have hlp3 := HK0.c.lp
  have HPl := Lib.hid (C.out.len)
  clear HK0 HB0
  conv => arg 2; whnf
  have E19 := Lib.hid e19
  have E23 := Lib.hid e23
  clear e19 e23
  have Hu1 := Lib.hid C.out.up.1
  have hvo := Lib.hid C.out.up.2.2.2.2.2.2.1
  have hlB3 := HB.out.lt
  obtain ⟨we, rfl⟩ : ∃ we : World, we = wr := ⟨_, rfl⟩
  have x4 := HB.out.c4
  have l4 := World.block_lt_of_cell? _ _ x4
  have x5 := HB.out.c5
  have l5 := World.block_lt_of_cell? _ _ x5
  have x6 := HB.out.c6
  have l6 := World.block_lt_of_cell? _ _ x6
  have x7 := HB.out.c7
  have l7 := World.block_lt_of_cell? _ _ x7
  have x8 := HB.out.c8
  have l8 := World.block_lt_of_cell? _ _ x8
  have x9 := HB.out.c9
  have l9 := World.block_lt_of_cell? _ _ x9
  simp only at l4 l5 l6 l7 l8 l9
  have y8 := HB.out.f8
  have y9 := HB.out.f9
  obtain ⟨p19, q19, x19, r19⟩ := E19.out
  have R19 := Lib.hid r19
  have l19 := World.block_lt_of_cell? _ _ x19
  simp only at l19
  clear r19
  obtain ⟨p23, q23, x23, r23⟩ := E23.out
  have R23 := Lib.hid r23
  have l23 := World.block_lt_of_cell? _ _ x23
  simp only at l23
  clear r23
  have BW := HB.out.bel
  go_upto_region 24 with fail
  go_region_held3 (fun w' => w'.cell? ⟨a19, 0, none⟩ = some (.slice p19 (upU m p g h).length q19) ∧ w'.cell? ⟨a23, 0, none⟩ = some (.slice p23 (upV m p g h).length q23) ∧ w'.cell? ⟨w.heap.size + 1, 0, none⟩ = some (.slice pg g.length qg) ∧ w'.cell? ⟨w.heap.size + 1 + 1, 0, none⟩ = some (.slice ph h.length qh) ∧ w'.cell? ⟨w.heap.size + 1 + 1 + 1, 0, none⟩ = some (.int .i64 m))
    (((try dsimp only); (repeat' (refine And.intro ?_ ?_)); all_goals (first | assumption | (rw [cellZ (by omega), cellZ (by omega)]; first | assumption | (refine (Below.cell (B := we.heap.size) (w := we) ?_ ?_).trans ?_ <;> (first | assumption | omega | (simp only; omega) | (skip; (repeat' (first | (with_reducible exact Below.refl _ _) | (with_reducible assumption) | (with_reducible refine Below.alloc ?_ ?_ _) | (with_reducible refine Below.setCell ?_ ?_ _) | (with_reducible refine Below.drew ?_) | (with_reducible refine Below.via (by assumption) ?_ ?_) | go_size)); done)))) | (rw [cellZ (by omega)]; first | assumption | (refine (Below.cell (B := we.heap.size) (w := we) ?_ ?_).trans ?_ <;> (first | assumption | omega | (simp only; omega) | (skip; (repeat' (first | (with_reducible exact Below.refl _ _) | (with_reducible assumption) | (with_reducible refine Below.alloc ?_ ?_ _) | (with_reducible refine Below.setCell ?_ ?_ _) | (with_reducible refine Below.drew ?_) | (with_reducible refine Below.via (by assumption) ?_ ?_) | go_size)); done)))) | (refine (Below.cell (B := we.heap.size) (w := we) ?_ ?_).trans ?_ <;> (first | assumption | omega | (simp only; omega) | (skip; (repeat' (first | (with_reducible exact Below.refl _ _) | (with_reducible assumption) | (with_reducible refine Below.alloc ?_ ?_ _) | (with_reducible refine Below.setCell ?_ ?_ _) | (with_reducible refine Below.drew ?_) | (with_reducible refine Below.via (by assumption) ?_ ?_) | go_size)); done))) | (go_keep; done))))
    (first
      | (go_at_call 90; ((with_reducible refine (lift_impl _ _ g (upU m p g h) m (w.heap.size + 1 + 1 + 1) _ (Hg.out.below (BW.trans (Below.mono (show Below we.heap.size we _ by (repeat' (first | (with_reducible exact Below.refl _ _) | (with_reducible assumption) | (with_reducible refine Below.alloc ?_ ?_ _) | (with_reducible refine Below.setCell ?_ ?_ _) | (with_reducible refine Below.drew ?_) | (with_reducible refine Below.via (by assumption) ?_ ?_) | go_size))) BW.size))) (R19.out.below (by (repeat' (first | (with_reducible exact Below.refl _ _) | (with_reducible assumption) | (with_reducible refine Below.alloc ?_ ?_ _) | (with_reducible refine Below.setCell ?_ ?_ _) | (with_reducible refine Below.drew ?_) | (with_reducible refine Below.via (by assumption) ?_ ?_) | go_size)))) (by go_simp) hm.out Og.out Hu1.out).mono ?_); rintro e wj ⟨vj, rfl, oj, dj⟩; obtain ⟨pj, qj, rfl⟩ := oj.rd.shape; have zj := dj.size; (try simp only [World.size_drew, World.size_alloc] at zj); have Bj := (show Below we.heap.size we wj by (repeat' (first | (with_reducible exact Below.refl _ _) | (with_reducible assumption) | (with_reducible refine Below.alloc ?_ ?_ _) | (with_reducible refine Below.setCell ?_ ?_ _) | (with_reducible refine Below.drew ?_) | (with_reducible refine Below.via (by assumption) ?_ ?_) | go_size))); have c8j := (Bj.cell (p := ⟨w.heap.size + 1 + 1 + 1 + 1, 0, none⟩) l8).trans x8; have f8j := (Bj.frozen (p := ⟨w.heap.size + 1 + 1 + 1 + 1, 0, none⟩) l8).trans y8; have c9j := (Bj.cell (p := ⟨w.heap.size + 1 + 1 + 1 + 1 + 1, 0, none⟩) l9).trans x9; have f9j := (Bj.frozen (p := ⟨w.heap.size + 1 + 1 + 1 + 1 + 1, 0, none⟩) l9).trans y9; have c7j := (Bj.cell (p := ⟨w.heap.size + 1 + 1 + 1, 0, none⟩) l7).trans x7))
      | (go_at_call 90; ((with_reducible refine (lift_impl _ _ h (upV m p g h) m (w.heap.size + 1 + 1 + 1) _ (Hh.out.below (BW.trans (Below.mono (show Below we.heap.size we _ by (repeat' (first | (with_reducible exact Below.refl _ _) | (with_reducible assumption) | (with_reducible refine Below.alloc ?_ ?_ _) | (with_reducible refine Below.setCell ?_ ?_ _) | (with_reducible refine Below.drew ?_) | (with_reducible refine Below.via (by assumption) ?_ ?_) | go_size))) BW.size))) (R23.out.below (by (repeat' (first | (with_reducible exact Below.refl _ _) | (with_reducible assumption) | (with_reducible refine Below.alloc ?_ ?_ _) | (with_reducible refine Below.setCell ?_ ?_ _) | (with_reducible refine Below.drew ?_) | (with_reducible refine Below.via (by assumption) ?_ ?_) | go_size)))) (by go_simp) hm.out Oh.out hvo.out).mono ?_); rintro e wk ⟨vk, rfl, ok_, dk⟩; obtain ⟨pk, qk, rfl⟩ := ok_.rd.shape; have zk := dk.size; (try simp only [World.size_drew, World.size_alloc] at zk); have Bk := (show Below we.heap.size we wk by (repeat' (first | (with_reducible exact Below.refl _ _) | (with_reducible assumption) | (with_reducible refine Below.alloc ?_ ?_ _) | (with_reducible refine Below.setCell ?_ ?_ _) | (with_reducible refine Below.drew ?_) | (with_reducible refine Below.via (by assumption) ?_ ?_) | go_size))); have c8k := (Bk.cell (p := ⟨w.heap.size + 1 + 1 + 1 + 1, 0, none⟩) l8).trans x8; have f8k := (Bk.frozen (p := ⟨w.heap.size + 1 + 1 + 1 + 1, 0, none⟩) l8).trans y8; have c9k := (Bk.cell (p := ⟨w.heap.size + 1 + 1 + 1 + 1 + 1, 0, none⟩) l9).trans x9; have f9k := (Bk.frozen (p := ⟨w.heap.size + 1 + 1 + 1 + 1 + 1, 0, none⟩) l9).trans y9)))
  rename_i hHeldX
  clear hHeldX
  have n89 : ¬ (w.heap.size + 1 + 1 + 1 + 1 = w.heap.size + 1 + 1 + 1 + 1 + 1) := by omega
  have n98 : ¬ (w.heap.size + 1 + 1 + 1 + 1 + 1 = w.heap.size + 1 + 1 + 1 + 1) := by omega
  have ojk := oj.below dk
  have ojr := oj.range
  have okr := ok_.range
  have hjj : we.heap.size ≤ wj.heap.size := zj
  simp only [World.size_drew] at ojr
  have zwk : w.heap.size ≤ we.heap.size := by omega
  have Bwk := Lib.hid (BW.trans (Bk.mono zwk))
  have F1 := Lib.hid (show OwR ((wk.setCell ⟨w.heap.size + 1 + 1 + 1 + 1, 0, none⟩ (.slice pj (liftZ m g (upU m p g h)).length qj)).setCell ⟨w.heap.size + 1 + 1 + 1 + 1 + 1, 0, none⟩ (.slice pk (liftZ m h (upV m p g h)).length qk)) w.heap.size wj.heap.size (.slice pj (liftZ m g (upU m p g h)).length qj) (liftZ m g (upU m p g h)) from
    ⟨OwI.mono (B := we.drew.heap.size) (OwI.setCell (OwI.setCell ojk (a := ⟨w.heap.size + 1 + 1 + 1 + 1, 0, none⟩) (by simp only [World.size_drew]; omega) _) (a := ⟨w.heap.size + 1 + 1 + 1 + 1 + 1, 0, none⟩) (by simp only [World.size_drew]; omega) _) (by simp only [World.size_drew]; omega), ojr.2⟩)
  have F2 := Lib.hid (show OwR ((wk.setCell ⟨w.heap.size + 1 + 1 + 1 + 1, 0, none⟩ (.slice pj (liftZ m g (upU m p g h)).length qj)).setCell ⟨w.heap.size + 1 + 1 + 1 + 1 + 1, 0, none⟩ (.slice pk (liftZ m h (upV m p g h)).length qk)) wj.heap.size wk.heap.size (.slice pk (liftZ m h (upV m p g h)).length qk) (liftZ m h (upV m p g h)) from
    ⟨OwI.setCell (OwI.setCell ok_ (a := ⟨w.heap.size + 1 + 1 + 1 + 1, 0, none⟩) (by simp only; omega) _) (a := ⟨w.heap.size + 1 + 1 + 1 + 1 + 1, 0, none⟩) (by simp only; omega) _, okr.2⟩)
  have F3 := Lib.hid (show Below w.heap.size w ((wk.setCell ⟨w.heap.size + 1 + 1 + 1 + 1, 0, none⟩ (.slice pj (liftZ m g (upU m p g h)).length qj)).setCell ⟨w.heap.size + 1 + 1 + 1 + 1 + 1, 0, none⟩ (.slice pk (liftZ m h (upV m p g h)).length qk)) from Below.setCell (Below.setCell Bwk.out (by simp only; omega) _) (by simp only; omega) _)
  have X8 : ((wk.setCell ⟨w.heap.size + 1 + 1 + 1 + 1, 0, none⟩ (.slice pj (liftZ m g (upU m p g h)).length qj)).setCell ⟨w.heap.size + 1 + 1 + 1 + 1 + 1, 0, none⟩ (.slice pk (liftZ m h (upV m p g h)).length qk)).cell? ⟨w.heap.size + 1 + 1 + 1 + 1, 0, none⟩ = some (.slice pj (liftZ m g (upU m p g h)).length qj) := by rw [cellZ (by omega)]; exact World.cell?_setCell_same _ _ _ c8k
  have X9 : ((wk.setCell ⟨w.heap.size + 1 + 1 + 1 + 1, 0, none⟩ (.slice pj (liftZ m g (upU m p g h)).length qj)).setCell ⟨w.heap.size + 1 + 1 + 1 + 1 + 1, 0, none⟩ (.slice pk (liftZ m h (upV m p g h)).length qk)).cell? ⟨w.heap.size + 1 + 1 + 1 + 1 + 1, 0, none⟩ = some (.slice pk (liftZ m h (upV m p g h)).length qk) := cell_set_some (by rw [cellZ (by omega), c9k]; rfl)
  have S1 : ((wk.setCell ⟨w.heap.size + 1 + 1 + 1 + 1, 0, none⟩ (.slice pj (liftZ m g (upU m p g h)).length qj)).setCell ⟨w.heap.size + 1 + 1 + 1 + 1 + 1, 0, none⟩ (.slice pk (liftZ m h (upV m p g h)).length qk)).heap.size = wk.heap.size := by simp only [World.size_setCell]
  generalize ((wk.setCell ⟨w.heap.size + 1 + 1 + 1 + 1, 0, none⟩ (.slice pj (liftZ m g (upU m p g h)).length qj)).setCell ⟨w.heap.size + 1 + 1 + 1 + 1 + 1, 0, none⟩ (.slice pk (liftZ m h (upV m p g h)).length qk)) = wF at *
  have hmid : wj.heap.size ≤ wF.heap.size := by rw [S1]; exact zk
  have S2 := Lib.hid S1
  have Hmid := Lib.hid hmid
  have Hlow := Lib.hid (show w.heap.size ≤ wj.heap.size by omega)
  generalize liftZ m g (upU m p g h) = L1 at *
  generalize liftZ m h (upV m p g h) = L2 at *
  clear x4 x5 x6 x7 x8 x9 l4 l5 l6 l7 l8 l9 y8 y9 x19 x23 R19 R23 l19 l23 c8j f8j c9j f9j c7j c8k f8k c9k f9k oj dj zj Bj ok_ dk zk Bk ojk ojr okr hjj S1 hmid BW HB E19 E23 n89 n98 zwk
  (try simp only [Exit.then])
  apply_assumption
  refine wp_ret ?_
  refine bodyPost_ret (by simp [results, Try.results18, go_sem, X8, X9]; try rfl) rfl ?_
  rw [Ho.out]
  exact ⟨_, _, wj.heap.size, rfl, Hlow.out, Hmid.out, F1.out, by rw [S2.out]; exact F2.out, F3.out⟩


end Go.Proofs.Ytlnjkjogedbhfaa
