/- FnBoxes: the walk. Conditions: those of its statement. -/
import Derived.Test.YtklonahkacikbaaU27
import Derived.Deep.CutBlock
import Derived.Deep.RegionHeld3
import Derived.Deep.DeepCutAuto
namespace Go.Proofs.Ytklonahkacikbaa
open Go Go.RowKit
set_option linter.unusedSimpArgs false
set_option linter.unusedVariables false

section
variable {P : Program} {w : World} {ops : Array Oper} {rest : List Oper} {o : Oper} {a : Act} {Q : Exit → Act → World → Prop}
theorem wpList_widg (X : Operand) (ho : o.op = .convert 34 37 X) (x : Nat) (hx : a.eval X = .float .f32 x) (hgd : Region.wanted o (yielded ops a.tmps) = true)
    (h : ∀ r n, nrm .f64 r = wd (nrm .f32 x) → wpList Try.prog ops Q rest (a.put o.dst (.float .f64 r)) (w.drewN n)) : wpList Try.prog ops Q (o :: rest) a w :=
  wpList_fcvtg 34 37 X ho .f32 .f64 x (by rw [Try.underlying34]; rfl) Try.underlying37 hx (fits_widen _) hgd h
end
theorem k_cent : nrm .f64 4576918229304087675 = 4576918229304087675 := by decide +kernel
theorem n_word : ∀ n : Nat, n < 5 → fN .f64 (nrm .f64 (floatOfInt .f64 (n : Int))) = true ∧ vN .f64 (nrm .f64 (floatOfInt .f64 (n : Int))) = (n : Rat) := by decide +kernel
set_option maxRecDepth 1000000 in
set_option maxHeartbeats 20000000 in
theorem law_Boxes (va : Value) (a : List Int) (vb : Value) (b : List Int) (w : World) (ha : RdB w va a) (hb : RdB w vb b) : Calls Try.prog 3 #[va, vb] w (RB true w) := by
  have BL := Lib.hid (b10Long_law va vb a b w ha hb)
  cases hlong : longB a b
  case true =>
    rw [hlong] at BL
    go_enter Try.func3, Try.ntmps3
    go_wp2_with fail
    refine BL.out.mono ?_
    rintro e w' ⟨rfl, rfl⟩
    go_wp2_with fail
    go_ret
    exact ⟨rfl, Below.refl _ _⟩
  case false =>
    rw [hlong] at BL
    have hal : a.length ≤ 1048576 := by
      have : ¬ (1048576 < a.length ∨ 1048576 < b.length) := by simpa [longB] using hlong
      omega
    have Ha := Lib.hid ha
    have Hb := Lib.hid hb
    clear ha hb hlong
    go_enter Try.func3, Try.ntmps3
    go_wp2_with fail
    refine BL.out.mono ?_
    rintro e w' ⟨rfl, rfl⟩
    clear BL
    go_wp2_with fail
    (go_at_call 5; ((with_reducible refine (b10At_any _ b 0 4 _ Hb.out (by omega) (by omega) (by omega) (by omega)).mono ?_); rintro e w' ⟨n0, rfl, hn0, hn1, rfl⟩))
    obtain ⟨n, hn⟩ : ∃ n : Nat, (n : Int) = 1 + n0 := ⟨(1 + n0).toNat, by omega⟩
    have qn : IntKind.i64.wrap (1 + n0) = (n : Int) := by rw [IntWalk.i64_in _ ⟨by omega, by omega⟩, hn]
    have hn4 : n ≤ 4 := by omega
    have hn1' : 1 ≤ n := by omega
    clear hn hn0 hn1
    go_wp2_with fail
    (go_at_call 6; ((with_reducible refine (b10Roots_spec _ a n _ Ha.out hal (by omega)).mono ?_); rintro e w1 ⟨lv, ls, rfl, hls, hd, ho1, hb1⟩))
    have hDL : DL ls := ⟨by omega, by omega, by rw [hls]; exact hd⟩
    obtain ⟨X, hX⟩ := hDL.ex (by omega)
    have LV := Lib.hid ho1.rd
    have B1 := Lib.hid hb1
    have HX := Lib.hid hX
    have AF := Lib.hid hDL.allFin
    clear ho1 hb1 hd qn Ha Hb hDL hX hal
    obtain ⟨ao, cap, rfl, _⟩ := LV.out.shape
    rw [cx_length] at LV ⊢
    subst hls
    have PS := polyOfRoots_spec _ ls w1 LV.out (by omega) (by omega) AF.out (Lib.hid (HX.out.poly (by omega) hn4).1)
    rw [(HX.out.poly (by omega) hn4).2.1] at PS
    have PS := Lib.hid PS
    go_wp2_with fail
    (go_at_call 7; ((with_reducible refine (PS.out).mono ?_); rintro e w2 ⟨pv, rs, rfl, hrs, ho2, hb2⟩))
    have HP := Lib.hid (show DB rs ls X from ⟨HX.out, hn1', hn4, hrs⟩)
    have B2 := Lib.hid (B1.out.trans (hb2.mono B1.out.size))
    have PV2 := Lib.hid ho2.rd
    obtain ⟨po, pcap, rfl, _⟩ := PV2.out.shape
    have lrs : rs.length = ls.length + 1 := HP.out.len
    rw [cx_length, lrs] at PV2 ⊢
    clear ho2 hb2 LV B1 PS hrs HX lrs AF
    go_upto_region 6 with fail
    generalize hg8 : World.alloc _ _ = w3
    have Hg8 := Lib.hid hg8
    clear hg8
    have hB8 : Below w2.heap.size w2 w3 := by rw [← Hg8.out]; (repeat' (first | (with_reducible exact Below.refl _ _) | (with_reducible assumption) | (with_reducible refine Below.alloc ?_ ?_ _) | (with_reducible refine Below.setCell ?_ ?_ _) | (with_reducible refine Below.drew ?_) | (with_reducible refine Below.via (by assumption) ?_ ?_) | go_size))
    have x3 : w3.cell? ⟨w2.heap.size, 0, none⟩ = some (.slice po (ls.length + 1) pcap) := by rw [← Hg8.out]; go_simp
    have B3 := Lib.hid (B2.out.trans (hB8.mono B2.out.size))
    have PV3 := Lib.hid (PV2.out.below hB8)
    clear Hg8 hB8 B2 PV2
    generalize w2.heap.size = a7 at *
    have la7 := World.block_lt_of_cell? _ _ x3
    have R1 := Lib.hid (fun w1 hv => HP.out.roots1 (.slice po (ls.length + 1) pcap) w1 hv)
    have T1 := Lib.hid (fun w1 hv => HP.out.turns1 (.slice po (ls.length + 1) pcap) w1 hv)
    obtain ⟨FR, fl, f1, f2⟩ := HP.out.four1
    have FL := Lib.hid fl
    have F1 := Lib.hid (fun w1 hv => f1 (.slice po (ls.length + 1) pcap) w1 hv)
    have F2 := Lib.hid (fun w1 hv => f2 (.slice po (ls.length + 1) pcap) w1 hv)
    obtain ⟨ob, nl, n1, n2⟩ := HP.out.narrow1
    have NL := Lib.hid nl
    have N1 := Lib.hid (fun w1 hv => n1 (.slice po (ls.length + 1) pcap) w1 hv)
    have N2 := Lib.hid (fun w1 hv => n2 (.slice po (ls.length + 1) pcap) w1 hv)
    have R2 := Lib.hid (fun w1 hv => HP.out.roots2 (.slice po (ls.length + 1) pcap) w1 hv)
    clear fl f1 f2 nl n1 n2 HP
    generalize hN : ls.length = N at *
    clear hN
    go_wp2_with fail
    (go_at_call 8; ((with_reducible refine (R1.out _ PV3.out).mono ?_); rintro e w4 ⟨rfl, hb4⟩))
    have x4 := (hb4.cell (p := ⟨a7, 0, none⟩) la7).trans x3
    have PV4 := Lib.hid (PV3.out.below hb4)
    have B4 := Lib.hid (B3.out.trans (hb4.mono B3.out.size))
    have la4 := World.block_lt_of_cell? _ _ x4
    clear hb4 x3 PV3 B3 la7 R1
    go_wp2_with fail
    (go_at_call 9; ((with_reducible refine (T1.out _ PV4.out).mono ?_); rintro e w5 ⟨tr, rfl, hb5, htf, hta⟩))
    have x5 := (hb5.cell (p := ⟨a7, 0, none⟩) la4).trans x4
    have PV5 := Lib.hid (PV4.out.below hb5)
    have B5 := Lib.hid (B4.out.trans (hb5.mono B4.out.size))
    have la5 := World.block_lt_of_cell? _ _ x5
    clear hb5 x4 PV4 B4 la4 T1
    have TB : A (vN .f32 (nrm .f32 tr)) ≤ 5 := by
      have n4r : (N : Rat) ≤ ((4 : Nat) : Rat) := by exact_mod_cast hn4
      have n0r : (0 : Rat) ≤ (N : Rat) := by exact_mod_cast Nat.zero_le N
      have c4 : ((4 : Nat) : Rat) = 4 := rfl
      have q := abs_a hta (show A (N : Rat) ≤ 4 by rw [A_of_nonneg n0r]; grind)
      rw [show vN .f32 (nrm .f32 tr) - (N : Rat) + (N : Rat) = vN .f32 (nrm .f32 tr) by grind] at q
      exact Rat.le_trans q (by decide +kernel)
    have WD := wd_ok htf (lt_of_p2 (a := 10) (Rat.le_trans TB (by decide +kernel)) (by decide))
    have NW := n_word N (by omega)
    have GL := Lib.hid (fun rx (hx : nrm .f64 rx = wd (nrm .f32 tr)) w1 => gap_law rx (floatOfInt .f64 (N : Int)) w1 (by rw [hx]; exact WD.1) NW.1 (by rw [hx, WD.2, NW.2]; exact Rat.le_trans hta (by decide +kernel)))
    have KC := k_cent
    have nn : ((N : Int) != (N : Int)) = false := by simp
    clear TB WD NW htf hta
    go_upto_region 14 with (first
      | ((with_reducible refine wpList_widg _ rfl _ rfl (by with_unfolding_all rfl) ?_); intro rx mrx hrx)
      | ((with_reducible refine wpList_wid rfl _ rfl _ rfl ?_); intro rx mrx hrx)
      | (go_at_call 10; ((with_reducible refine (GL.out _ hrx _).mono ?_); rintro e w6 ⟨gr, mg, rfl, rfl, hgr⟩; rw [k_cent] at hgr)))
    have HW7 := Lib.hid (show Below w5.heap.size w5 (w5.drewN (mrx + mg)) from below_drewN (Below.refl _ _) _)
    generalize (w5.drewN (mrx + mg)) = w7 at *
    have x7 := (HW7.out.cell (p := ⟨a7, 0, none⟩) la5).trans x5
    have PV7 := Lib.hid (PV5.out.below HW7.out)
    have B7 := Lib.hid (B5.out.trans (HW7.out.mono B5.out.size))
    have la7 := World.block_lt_of_cell? _ _ x7
    clear x5 PV5 B5 la5 HW7 GL hgr hrx KC nn
    go_wp2_with fail
    (go_at_call 11; ((with_reducible refine (F1.out _ PV7.out).mono ?_); rintro e w8 ⟨v8, rfl, hr8, hb8⟩))
    have x8 := (hb8.cell (p := ⟨a7, 0, none⟩) la7).trans x7
    have PV8 := Lib.hid (PV7.out.below hb8)
    have B8 := Lib.hid (B7.out.trans (hb8.mono B7.out.size))
    have la8 := World.block_lt_of_cell? _ _ x8
    have RD8 := Lib.hid hr8
    clear hb8 x7 PV7 B7 la7 F1 hr8
    go_wp2_with fail
    (go_at_call 12; ((with_reducible refine (F2.out _ PV8.out).mono ?_); rintro e w9 ⟨v9, rfl, hr9, hb9⟩))
    have x9 := (hb9.cell (p := ⟨a7, 0, none⟩) la8).trans x8
    have PV9 := Lib.hid (PV8.out.below hb9)
    have B9 := Lib.hid (B8.out.trans (hb9.mono B8.out.size))
    have la9 := World.block_lt_of_cell? _ _ x9
    have RD9 := Lib.hid hr9
    have RE9 := Lib.hid (RD8.out.below hb9)
    clear hb9 x8 PV8 B8 la8 F2 hr9 RD8
    obtain ⟨zs, ok⟩ := FR
    go_upto_region 16 with fail
    go_cut [101] (fun v101 wx => v101 = .bool false ∧ Below w9.heap.size w9 wx)
    case first =>
      cases ok
      · go_wp2_with fail
        go_meet
        exact ⟨rfl, Below.refl _ _⟩
      · have hl4 : zs.length = 4 := FL.out rfl
        have hnz : zs ≠ [] := by intro h; rw [h] at hl4; simp at hl4
        go_wp2_with (go_at_call 13; ((with_reducible refine (b10Ints_same _ _ zs _ RD9.out RE9.out hnz (by omega)).mono ?_); rintro e w10 ⟨rfl, hb10⟩))
        go_meet
        exact ⟨rfl, hb10⟩
    case rest =>
      obtain ⟨rfl, hbx⟩ := hcut
      obtain ⟨wk, hwk⟩ : ∃ wk, wk = wc := ⟨wc, rfl⟩
      subst hwk
      have xk := (hbx.cell (p := ⟨a7, 0, none⟩) la9).trans x9
      have PVk := Lib.hid (PV9.out.below hbx)
      have Bk := Lib.hid (B9.out.trans (hbx.mono B9.out.size))
      have lak := World.block_lt_of_cell? _ _ xk
      clear hbx x9 PV9 B9 la9 RD9 RE9 FL
      go_step
      go_wp2_with fail
      (go_at_call 14; ((with_reducible refine (N1.out _ PVk.out).mono ?_); rintro e w11 ⟨p1, p2, p3, p4, rfl, hp, hb11⟩))
      have x11 := (hb11.cell (p := ⟨a7, 0, none⟩) lak).trans xk
      have PV11 := Lib.hid (PVk.out.below hb11)
      have B11 := Lib.hid (Bk.out.trans (hb11.mono Bk.out.size))
      have la11 := World.block_lt_of_cell? _ _ x11
      have HPp := Lib.hid hp
      clear hb11 xk PVk Bk lak N1 hp
      go_wp2_with fail
      (go_at_call 15; ((with_reducible refine (N2.out _ PV11.out).mono ?_); rintro e w12 ⟨q1, q2, q3, q4, rfl, hq, hb12⟩))
      have x12 := (hb12.cell (p := ⟨a7, 0, none⟩) la11).trans x11
      have PV12 := Lib.hid (PV11.out.below hb12)
      have B12 := Lib.hid (B11.out.trans (hb12.mono B11.out.size))
      have la12 := World.block_lt_of_cell? _ _ x12
      have HQq := Lib.hid hq
      clear hb12 x11 PV11 B11 la11 N2 hq
      go_upto_region 20 with fail
      go_cut [135] (fun v135 wx => v135 = .bool false ∧ Below w12.heap.size w12 wx)
      case first =>
        cases ob with
        | none =>
          go_wp2_with fail
          go_meet
          exact ⟨rfl, Below.refl _ _⟩
        | some x =>
          obtain ⟨⟨y1, y2⟩, ⟨y3, y4⟩⟩ := x
          obtain ⟨e1, e2⟩ := HPp.out _ rfl
          obtain ⟨e3, e4⟩ := HQq.out _ rfl
          obtain ⟨f1, f2⟩ := NL.out _ rfl
          obtain ⟨rfl, rfl⟩ := Prod.mk.inj e1
          obtain ⟨rfl, rfl⟩ := Prod.mk.inj e2
          obtain ⟨rfl, rfl⟩ := Prod.mk.inj e3
          obtain ⟨rfl, rfl⟩ := Prod.mk.inj e4
          clear e1 e2 e3 e4 HPp HQq NL
          have S1 := Lib.hid (fun w1 => same_spec _ _ w1 f1.1 f1.2)
          have S2 := Lib.hid (fun w1 => same_spec _ _ w1 f2.1 f2.2)
          clear f1 f2
          go_wp2_with (go_at_call 16; (first | ((with_reducible refine (S1.out _).mono ?_); rintro e w' ⟨rfl, rfl⟩) | ((with_reducible refine (S2.out _).mono ?_); rintro e w' ⟨rfl, rfl⟩)))
          go_meet
          exact ⟨rfl, Below.refl _ _⟩
      case rest =>
        obtain ⟨rfl, hbx⟩ := hcut
        obtain ⟨wm, hwm⟩ : ∃ wm, wm = wc := ⟨wc, rfl⟩
        subst hwm
        have xm := (hbx.cell (p := ⟨a7, 0, none⟩) la12).trans x12
        have PVm := Lib.hid (PV12.out.below hbx)
        have Bm := Lib.hid (B12.out.trans (hbx.mono B12.out.size))
        clear hbx x12 PV12 B12 la12 NL HPp HQq
        go_step
        go_wp2_with fail
        (go_at_call 8; ((with_reducible refine (R2.out _ PVm.out).mono ?_); rintro e w13 ⟨rfl, hb13⟩))
        have B13 := Lib.hid (Bm.out.trans (hb13.mono Bm.out.size))
        clear hb13
        go_wp2_with fail
        go_ret
        exact ⟨rfl, B13.out⟩
end Go.Proofs.Ytklonahkacikbaa
