/- FnSteps: the walk. Conditions: those of its statement. -/
import Derived.Test.YtdnoilcfgicnnaaGreatY27
import Derived.Deep.CutBlock
import Derived.Deep.RegionHeld3
namespace Go.Proofs.YtdnoilcfgicnnaaGreat
open Go Go.RowKit

set_option linter.unusedSimpArgs false
set_option linter.unusedVariables false

set_option maxRecDepth 1000000 in
set_option maxHeartbeats 20000000 in
theorem law_Steps (va : Value) (a : List Int) (vb : Value) (b : List Int) (w : World) (ha : RdB w va a) (hb : RdB w vb b) : Calls Tryz.prog 3 #[va, vb] w (RB true w) := by
  have BL := Lib.hid (b10Long_law va vb a b w ha hb)
  cases hlong : longB a b
  case true =>
    rw [hlong] at BL
    go_enter Tryz.func3, Tryz.ntmps3
    go_wp2_with fail
    refine BL.out.mono ?_
    rintro e w' ⟨rfl, rfl⟩
    go_wp2_with fail
    go_ret
    exact ⟨rfl, Below.refl _ _⟩
  case false =>
    rw [hlong] at BL
    have hal : a.length ≤ 1048576 := by
      have : ¬ (1048576 < a.length ∨ 1048576 < b.length) := by simpa [longB] using hlong
      omega
    have Ha := Lib.hid ha
    have Hb := Lib.hid hb
    clear ha hb hlong
    go_enter Tryz.func3, Tryz.ntmps3
    go_wp2_with fail
    refine BL.out.mono ?_
    rintro e w' ⟨rfl, rfl⟩
    clear BL
    go_wp2_with fail
    (go_at_call 5; ((with_reducible refine (b10At_any _ b 0 4 _ Hb.out (by omega) (by omega) (by omega) (by omega)).mono ?_); rintro e w' ⟨n0, rfl, hn0, hn1, rfl⟩))
    obtain ⟨n, hn⟩ : ∃ n : Nat, (n : Int) = 1 + n0 := ⟨(1 + n0).toNat, by omega⟩
    have qn : IntKind.i64.wrap (1 + n0) = (n : Int) := by rw [IntWalk.i64_in _ ⟨by omega, by omega⟩, hn]
    have hn4 : n ≤ 4 := by omega
    have hn1' : 1 ≤ n := by omega
    clear hn hn0 hn1
    go_wp2_with fail
    (go_at_call 6; ((with_reducible refine (b10Roots_spec _ a n _ Ha.out hal (by omega)).mono ?_); rintro e w1 ⟨lv, ls, rfl, hls, hd, ho1, hb1⟩))
    have hDL : DL ls := ⟨by omega, by omega, by rw [hls]; exact hd⟩
    obtain ⟨X, hX⟩ := hDL.ex (by omega)
    have LV := Lib.hid ho1.rd
    have B1 := Lib.hid hb1
    have Hb1 := Lib.hid (Hb.out.below hb1)
    have HX := Lib.hid hX
    have AF := Lib.hid hDL.allFin
    clear ho1 hb1 hd qn Ha Hb hDL hX hal
    obtain ⟨ao, cap, rfl, _⟩ := LV.out.shape
    rw [cx_length] at LV ⊢
    subst hls
    have PS := polyOfRoots_spec _ ls w1 LV.out (by omega) (by omega) AF.out (Lib.hid (HX.out.poly (by omega) hn4).1)
    rw [(HX.out.poly (by omega) hn4).2.1] at PS
    have PS := Lib.hid PS
    go_wp2_with fail
    (go_at_call 7; ((with_reducible refine (PS.out).mono ?_); rintro e w2 ⟨pv, rs, rfl, hrs, ho2, hb2⟩))
    have HP := Lib.hid (show PR pv rs ls X from ⟨HX.out, hn1', hn4, hrs⟩)
    have LV2 := Lib.hid (LV.out.below hb2)
    have Hb2 := Lib.hid (Hb1.out.below hb2)
    have B2 := Lib.hid (B1.out.trans (hb2.mono B1.out.size))
    have PV2 := Lib.hid ho2.rd
    obtain ⟨po, pcap, rfl, _⟩ := PV2.out.shape
    rw [cx_length] at PV2 HP ⊢
    have lrs : rs.length = ls.length + 1 := HP.out.len
    have LRS := Lib.hid lrs
    clear ho2 hb2 LV Hb1 B1 PS hrs HX lrs
    go_upto_region 6 with fail
    generalize hg8 : World.alloc _ _ = w3
    have Hg8 := Lib.hid hg8
    clear hg8
    have hB8 : Below w2.heap.size w2 w3 := by rw [← Hg8.out]; (repeat' (first | (with_reducible exact Below.refl _ _) | (with_reducible assumption) | (with_reducible refine Below.alloc ?_ ?_ _) | (with_reducible refine Below.setCell ?_ ?_ _) | (with_reducible refine Below.drew ?_) | (with_reducible refine Below.via (by assumption) ?_ ?_) | go_size))
    have x3 : w3.cell? ⟨w2.heap.size, 0, none⟩ = some (.slice po rs.length pcap) := by rw [← Hg8.out]; go_simp
    have LV3 := Lib.hid (LV2.out.below hB8)
    have Hb3 := Lib.hid (Hb2.out.below hB8)
    have B3 := Lib.hid (B2.out.trans (hB8.mono B2.out.size))
    have PV3 := Lib.hid (PV2.out.below hB8)
    clear Hg8 hB8 LV2 Hb2 B2 PV2
    generalize w2.heap.size = a7 at *
    obtain ⟨BM, hBM⟩ := HP.out.miss2
    have MI := Lib.hid (fun w u h1 h2 => (hBM u w h1 h2).1)
    have MS := Lib.hid (fun w u h1 h2 => (hBM u w h1 h2).2)
    clear hBM
    go_wp2_with fail
    (go_at_call 8; ((with_reducible refine (MI.out _ _ PV3.out LV3.out).mono ?_); rintro e w4 ⟨f1, rfl, hf1, hb4⟩))
    have X4 := Lib.hid ((hb4.cell (p := ⟨a7, 0, none⟩) (World.block_lt_of_cell? _ _ x3)).trans x3)
    have LV4 := Lib.hid (LV3.out.below hb4)
    have Hb4 := Lib.hid (Hb3.out.below hb4)
    have PV4 := Lib.hid (PV3.out.below hb4)
    have B4 := Lib.hid (B3.out.trans (hb4.mono B3.out.size))
    clear hb4 LV3 Hb3 B3 PV3 x3
    have x4 := X4.out
    go_wp2_with fail
    (go_at_call 9; ((with_reducible refine (MS.out _ _ PV4.out LV4.out).mono ?_); rintro e w5 ⟨f2, rfl, hf2, hb5⟩))
    have X5 := Lib.hid ((hb5.cell (p := ⟨a7, 0, none⟩) (World.block_lt_of_cell? _ _ x4)).trans x4)
    have LV5 := Lib.hid (LV4.out.below hb5)
    have Hb5 := Lib.hid (Hb4.out.below hb5)
    have PV5 := Lib.hid (PV4.out.below hb5)
    have B5 := Lib.hid (B4.out.trans (hb5.mono B4.out.size))
    clear hb5 LV4 Hb4 B4 PV4 x4 X4 MI MS hf2
    have f1e : nrm .f32 f1 = 0 := hf1
    have FG := Lib.hid (show fcmp .gtr .f64 (wd 0) (nrm .f64 4562254508917369340) = false by decide +kernel)
    clear hf1
    have bm1 : (BM != BM) = false := by cases BM <;> rfl
    go_upto_region 10 with fail
    have AR := Lib.hid (show ∀ wx, Below w5.heap.size w5 wx → Calls Tryz.prog 10 #[.slice ao ls.length cap] wx (RB true wx) from fun wx hbx => by
      have := areRoots_impl _ ls wx (LV5.out.below hbx) (by omega) (by omega)
      rwa [AF.out] at this)
    go_cut [80] (fun v80 wx => v80 = .bool false ∧ Below w5.heap.size w5 wx)
    case first =>
      clear Hb5 B5 PV5 LV5 X5
      cases BM
      · go_wp2_with (go_at_call 10; go_must (refine (AR.out _ (by (repeat' (first | (with_reducible exact Below.refl _ _) | (with_reducible assumption) | (with_reducible refine Below.alloc ?_ ?_ _) | (with_reducible refine Below.setCell ?_ ?_ _) | (with_reducible refine Below.drew ?_) | (with_reducible refine Below.via (by assumption) ?_ ?_) | go_size)))).mono ?_); rintro e w6 ⟨rfl, hb6⟩)
        go_meet
        exact ⟨rfl, hb6⟩
      · go_wp2_with (first | (go_at_call 10; go_must (refine (AR.out _ (by (repeat' (first | (with_reducible exact Below.refl _ _) | (with_reducible assumption) | (with_reducible refine Below.alloc ?_ ?_ _) | (with_reducible refine Below.setCell ?_ ?_ _) | (with_reducible refine Below.drew ?_) | (with_reducible refine Below.via (by assumption) ?_ ?_) | go_size)))).mono ?_); rintro e w6 ⟨rfl, hb6⟩) | (with_reducible refine wpList_widg _ rfl _ rfl (by with_unfolding_all rfl) ?_; intro g mg hg; rw [f1e] at hg; have fg := FG.out))
        go_meet
        exact ⟨rfl, below_drewN hb6 _⟩
    case rest =>
      obtain ⟨rfl, hbx⟩ := hcut
      have LVc := Lib.hid (LV5.out.below hbx)
      have PVc := Lib.hid (PV5.out.below hbx)
      have Hbc := Lib.hid (Hb5.out.below hbx)
      have Bc := Lib.hid (B5.out.trans (hbx.mono B5.out.size))
      have Xc := Lib.hid ((hbx.cell (p := ⟨a7, 0, none⟩) (World.block_lt_of_cell? _ _ X5.out)).trans X5.out)
      clear hbx LV5 PV5 Hb5 B5 X5 AR AF FG f1e bm1
      rcases LVc.out.openC with ⟨h0, _⟩ | ⟨lb, lo, lc, hq1, hlb, hcp, hlc⟩
      · rw [h0] at hn1'; simp at hn1'
      simp only [Value.slice.injEq, true_and] at hq1
      obtain ⟨rfl, rfl⟩ := hq1
      have Lc := Lib.hid (show ∀ i, i < ls.length → wc.cell? ⟨lb, lo + i, none⟩ = some (.complex .f32 (ls.getD i (0, 0)).1 (ls.getD i (0, 0)).2) from fun i hi => by
        rw [hlc i hi]; simp [List.getD, hi])
      have HPo := Lib.hid (fun (i : Nat) (hi : i < ls.length) (z : C2) (hz : nc z = nc (ls.getD i (0, 0))) (w : World) (hp : RdV w (.slice po rs.length pcap) (cx rs)) => HP.out.polish hi z hz w hp)
      have HSt := Lib.hid (fun (i : Nat) (hi : i < ls.length) (z : C2) (hz : nc z = addC (nc (ls.getD i (0, 0))) dw) (w : World) (hp : RdV w (.slice po rs.length pcap) (cx rs)) => HP.out.steps hi z hz w hp)
      clear hlc LVc
      generalize hN : ls.length = N at *
      have HL := Lib.hid hN
      clear hN hlb hcp
      go_step
      go_wp2_with fail
      go_loopw [83] (fun iv wr => ∃ (i : Nat), i ≤ N ∧ iv = .int .i64 i ∧ Below wc.heap.size wc wr) (fun iv _ => N - (intOf iv).toNat)
      case atStart => exact ⟨0, Nat.zero_le _, rfl, Below.refl _ _⟩
      case round =>
        obtain ⟨i, hi, rfl, hbr⟩ := hrel
        by_cases hlt : i < N
        · have j1 : (i : Int) < (N : Int) := by omega
          have j0 : (0 : Int) ≤ (i : Int) := by omega
          have c1 := Lc.out i hlt
          have POL := Lib.hid (fun z hz w hp => HPo.out i (by omega) z hz w hp)
          have STE := Lib.hid (fun z hz w hp => HSt.out i (by omega) z hz w hp)
          obtain ⟨x, hXi⟩ : ∃ x, ls.getD i (0, 0) = x := ⟨_, rfl⟩
          rw [hXi] at c1 POL STE
          clear hXi
          obtain ⟨x1, x2⟩ := x
          have HC0 := keep2 hbr ⟨Xc.out, c1⟩
          have xr0 := HC0.1
          have cr0 := HC0.2
          have PV0 := Lib.hid (PVc.out.below hbr)
          have Br0 := Lib.hid hbr
          clear hbr c1 HPo HSt Lc Xc PVc Hbc Bc HL HP LRS
          go_wp2_with fail
          refine wp_region_held_drew (S := fun w' => w'.cell? ⟨a7, 0, none⟩ = some (.slice po rs.length pcap) ∧ w'.cell? ⟨lb, lo + i, none⟩ = some (.complex .f32 x1 x2)) (by kernel_rfl) (by exact HC0) (fun hHeld => ?_)
          refine wpAnyH_take (i := 0) (v := ?_) rfl (by kernel_rfl) (by kernel_rfl) (by kernel_rfl) (fun _ _ _ h => h) (Or.inl ⟨by rfl, ?_⟩) (by assumption) ?_
          rotate_left 1
          (intro w hSw; (try dsimp only at hSw); (try obtain ⟨hSa, hSb⟩ := hSw); go_simp; (try with_reducible rfl))
          (try simp only [List.getElem_toArray, List.getElem_cons_succ, List.getElem_cons_zero, Act.put, List.setIfInBounds_toArray, List.set_cons_zero, List.set_cons_succ])
          refine wpAnyH_take (i := 1) (v := ?_) rfl (by kernel_rfl) (by kernel_rfl) (by kernel_rfl) (fun _ _ _ h => h) (Or.inl ⟨by rfl, ?_⟩) (by assumption) ?_
          rotate_left 1
          (intro w hSw; (try dsimp only at hSw); (try obtain ⟨hSa, hSb⟩ := hSw); go_simp; (try with_reducible rfl))
          (try simp only [List.getElem_toArray, List.getElem_cons_succ, List.getElem_cons_zero, Act.put, List.setIfInBounds_toArray, List.set_cons_zero, List.set_cons_succ])
          refine wpAnyH_take (i := 2) (v := ?_) rfl (by kernel_rfl) (by kernel_rfl) (by kernel_rfl) (fun _ _ _ h => h) (Or.inl ⟨by rfl, ?_⟩) (by assumption) ?_
          rotate_left 1
          (intro w hSw; (try dsimp only at hSw); (try obtain ⟨hSa, hSb⟩ := hSw); go_simp; (try with_reducible rfl))
          (try simp only [List.getElem_toArray, List.getElem_cons_succ, List.getElem_cons_zero, Act.put, List.setIfInBounds_toArray, List.set_cons_zero, List.set_cons_succ])
          refine wpAnyH_take (i := 3) (v := ?_) rfl (by kernel_rfl) (by kernel_rfl) (by kernel_rfl) (fun _ _ _ h => h) (Or.inl ⟨by rfl, ?_⟩) (by assumption) ?_
          rotate_left 1
          (intro w hSw; (try dsimp only at hSw); (try obtain ⟨hSa, hSb⟩ := hSw); go_simp; (try with_reducible rfl))
          (try simp only [List.getElem_toArray, List.getElem_cons_succ, List.getElem_cons_zero, Act.put, List.setIfInBounds_toArray, List.set_cons_zero, List.set_cons_succ])
          refine wpAnyH_take (i := 4) (v := ?_) rfl (by kernel_rfl) (by kernel_rfl) (by kernel_rfl) (fun _ _ _ h => h) (Or.inl ⟨by rfl, ?_⟩) (by assumption) ?_
          rotate_left 1
          (intro w hSw; (try dsimp only at hSw); (try obtain ⟨hSa, hSb⟩ := hSw); go_simp; (try with_reducible rfl))
          (try simp only [List.getElem_toArray, List.getElem_cons_succ, List.getElem_cons_zero, Act.put, List.setIfInBounds_toArray, List.set_cons_zero, List.set_cons_succ])
          refine wpAnyH_ready (rs := [5]) (by kernel_rfl) (by simp) ?_
          refine AllReadyH.cons rfl (fun K5 hK5 => ?_) ?_
          · go_simp
            (go_at_call 11; ((with_reducible refine ((POL.out (x1, x2) rfl _ (PV0.out.below (by (repeat' (first | (with_reducible exact Below.refl _ _) | (with_reducible assumption) | (with_reducible refine Below.alloc ?_ ?_ _) | (with_reducible refine Below.setCell ?_ ?_ _) | (with_reducible refine Below.drew ?_) | (with_reducible refine Below.via (by assumption) ?_ ?_) | go_size))))).1).mono ?_); rintro e w7 ⟨p1, p2, rfl, hg7, hb7⟩))
            (try go_wp2_with fail)
            refine hK5.out _ _ ?_ (fun hHeld5 => ?_)
            · exact keep2 hb7 hHeld
            clear hK5 K5
            (try simp only [List.getElem_toArray, List.getElem_cons_succ, List.getElem_cons_zero, Act.put, List.setIfInBounds_toArray, List.set_cons_zero, List.set_cons_succ])
            refine wpAnyH_take (i := 6) (v := ?_) rfl (by kernel_rfl) (by kernel_rfl) (by kernel_rfl) (fun _ _ _ h => h) (Or.inl ⟨by rfl, ?_⟩) (by assumption) ?_
            rotate_left 1
            (intro w hSw; (try dsimp only at hSw); (try obtain ⟨hSa, hSb⟩ := hSw); go_simp; (try with_reducible rfl))
            (try simp only [List.getElem_toArray, List.getElem_cons_succ, List.getElem_cons_zero, Act.put, List.setIfInBounds_toArray, List.set_cons_zero, List.set_cons_succ])
            refine wpAnyH_take (i := 7) (v := ?_) rfl (by kernel_rfl) (by kernel_rfl) (by kernel_rfl) (fun _ _ _ h => h) (Or.inl ⟨by rfl, ?_⟩) (by assumption) ?_
            rotate_left 1
            (intro w hSw; (try dsimp only at hSw); (try obtain ⟨hSa, hSb⟩ := hSw); go_simp; (try with_reducible rfl))
            (try simp only [List.getElem_toArray, List.getElem_cons_succ, List.getElem_cons_zero, Act.put, List.setIfInBounds_toArray, List.set_cons_zero, List.set_cons_succ])
            refine wpAnyH_take (i := 8) (v := ?_) rfl (by kernel_rfl) (by kernel_rfl) (by kernel_rfl) (fun _ _ _ h => h) (Or.inl ⟨by rfl, ?_⟩) (by assumption) ?_
            rotate_left 1
            (intro w hSw; (try dsimp only at hSw); (try obtain ⟨hSa, hSb⟩ := hSw); go_simp; (try with_reducible rfl))
            (try simp only [List.getElem_toArray, List.getElem_cons_succ, List.getElem_cons_zero, Act.put, List.setIfInBounds_toArray, List.set_cons_zero, List.set_cons_succ])
            refine wpAnyH_take (i := 9) (v := ?_) rfl (by kernel_rfl) (by kernel_rfl) (by kernel_rfl) (fun _ _ _ h => h) (Or.inl ⟨by rfl, ?_⟩) (by assumption) ?_
            rotate_left 1
            (intro w hSw; (try dsimp only at hSw); (try obtain ⟨hSa, hSb⟩ := hSw); go_simp; (try with_reducible rfl))
            (try simp only [List.getElem_toArray, List.getElem_cons_succ, List.getElem_cons_zero, Act.put, List.setIfInBounds_toArray, List.set_cons_zero, List.set_cons_succ])
            refine wpAnyH_take (i := 10) (v := ?_) rfl (by kernel_rfl) (by kernel_rfl) (by kernel_rfl) (fun _ _ _ h => h) (Or.inl ⟨by rfl, ?_⟩) (by assumption) ?_
            rotate_left 1
            (intro w hSw; (try dsimp only at hSw); (try obtain ⟨hSa, hSb⟩ := hSw); go_simp; (try with_reducible rfl))
            (try simp only [List.getElem_toArray, List.getElem_cons_succ, List.getElem_cons_zero, Act.put, List.setIfInBounds_toArray, List.set_cons_zero, List.set_cons_succ])
            refine wpAnyH_done (by kernel_rfl) ?_ _
            have HC7 := hHeld5
            have hbx := bel_drew hb7
            have PV7 := Lib.hid (PV0.out.below hbx)
            have Br7 := Lib.hid (Br0.out.trans (hbx.mono Br0.out.size))
            clear hbx PV0 Br0 hb7 hHeld hHeld5 HC0 xr0 cr0
            have xr7 := HC7.1
            have cr7 := HC7.2
            go_wp2_with fail
            refine wp_region_held_drew (S := fun w' => w'.cell? ⟨a7, 0, none⟩ = some (.slice po rs.length pcap) ∧ w'.cell? ⟨lb, lo + i, none⟩ = some (.complex .f32 x1 x2)) (by kernel_rfl) (by exact HC7) (fun hHeld => ?_)
            refine wpAnyH_take (i := 0) (v := ?_) rfl (by kernel_rfl) (by kernel_rfl) (by kernel_rfl) (fun _ _ _ h => h) (Or.inl ⟨by rfl, ?_⟩) (by assumption) ?_
            rotate_left 1
            (intro w hSw; (try dsimp only at hSw); (try obtain ⟨hSa, hSb⟩ := hSw); go_simp; (try with_reducible rfl))
            (try simp only [List.getElem_toArray, List.getElem_cons_succ, List.getElem_cons_zero, Act.put, List.setIfInBounds_toArray, List.set_cons_zero, List.set_cons_succ])
            refine wpAnyH_take (i := 1) (v := ?_) rfl (by kernel_rfl) (by kernel_rfl) (by kernel_rfl) (fun _ _ _ h => h) (Or.inl ⟨by rfl, ?_⟩) (by assumption) ?_
            rotate_left 1
            (intro w hSw; (try dsimp only at hSw); (try obtain ⟨hSa, hSb⟩ := hSw); go_simp; (try with_reducible rfl))
            (try simp only [List.getElem_toArray, List.getElem_cons_succ, List.getElem_cons_zero, Act.put, List.setIfInBounds_toArray, List.set_cons_zero, List.set_cons_succ])
            refine wpAnyH_take (i := 2) (v := ?_) rfl (by kernel_rfl) (by kernel_rfl) (by kernel_rfl) (fun _ _ _ h => h) (Or.inl ⟨by rfl, ?_⟩) (by assumption) ?_
            rotate_left 1
            (intro w hSw; (try dsimp only at hSw); (try obtain ⟨hSa, hSb⟩ := hSw); go_simp; (try with_reducible rfl))
            (try simp only [List.getElem_toArray, List.getElem_cons_succ, List.getElem_cons_zero, Act.put, List.setIfInBounds_toArray, List.set_cons_zero, List.set_cons_succ])
            refine wpAnyH_take (i := 3) (v := ?_) rfl (by kernel_rfl) (by kernel_rfl) (by kernel_rfl) (fun _ _ _ h => h) (Or.inl ⟨by rfl, ?_⟩) (by assumption) ?_
            rotate_left 1
            (intro w hSw; (try dsimp only at hSw); (try obtain ⟨hSa, hSb⟩ := hSw); go_simp; (try with_reducible rfl))
            (try simp only [List.getElem_toArray, List.getElem_cons_succ, List.getElem_cons_zero, Act.put, List.setIfInBounds_toArray, List.set_cons_zero, List.set_cons_succ])
            refine wpAnyH_take (i := 4) (v := ?_) rfl (by kernel_rfl) (by kernel_rfl) (by kernel_rfl) (fun _ _ _ h => h) (Or.inl ⟨by rfl, ?_⟩) (by assumption) ?_
            rotate_left 1
            (intro w hSw; (try dsimp only at hSw); (try obtain ⟨hSa, hSb⟩ := hSw); go_simp; (try with_reducible rfl))
            (try simp only [List.getElem_toArray, List.getElem_cons_succ, List.getElem_cons_zero, Act.put, List.setIfInBounds_toArray, List.set_cons_zero, List.set_cons_succ])
            refine wpAnyH_ready (rs := [5]) (by kernel_rfl) (by simp) ?_
            refine AllReadyH.cons rfl (fun K5 hK5 => ?_) ?_
            · go_simp
              (go_at_call 12; ((with_reducible refine ((POL.out (x1, x2) rfl _ (PV7.out.below (by (repeat' (first | (with_reducible exact Below.refl _ _) | (with_reducible assumption) | (with_reducible refine Below.alloc ?_ ?_ _) | (with_reducible refine Below.setCell ?_ ?_ _) | (with_reducible refine Below.drew ?_) | (with_reducible refine Below.via (by assumption) ?_ ?_) | go_size))))).2).mono ?_); rintro e w8 ⟨q1, q2, rfl, hg8, hb8⟩))
              (try go_wp2_with fail)
              refine hK5.out _ _ ?_ (fun hHeld5 => ?_)
              · exact keep2 hb8 hHeld
              clear hK5 K5
              (try simp only [List.getElem_toArray, List.getElem_cons_succ, List.getElem_cons_zero, Act.put, List.setIfInBounds_toArray, List.set_cons_zero, List.set_cons_succ])
              refine wpAnyH_take (i := 6) (v := ?_) rfl (by kernel_rfl) (by kernel_rfl) (by kernel_rfl) (fun _ _ _ h => h) (Or.inl ⟨by rfl, ?_⟩) (by assumption) ?_
              rotate_left 1
              (intro w hSw; (try dsimp only at hSw); (try obtain ⟨hSa, hSb⟩ := hSw); go_simp; (try with_reducible rfl))
              (try simp only [List.getElem_toArray, List.getElem_cons_succ, List.getElem_cons_zero, Act.put, List.setIfInBounds_toArray, List.set_cons_zero, List.set_cons_succ])
              refine wpAnyH_take (i := 7) (v := ?_) rfl (by kernel_rfl) (by kernel_rfl) (by kernel_rfl) (fun _ _ _ h => h) (Or.inl ⟨by rfl, ?_⟩) (by assumption) ?_
              rotate_left 1
              (intro w hSw; (try dsimp only at hSw); (try obtain ⟨hSa, hSb⟩ := hSw); go_simp; (try with_reducible rfl))
              (try simp only [List.getElem_toArray, List.getElem_cons_succ, List.getElem_cons_zero, Act.put, List.setIfInBounds_toArray, List.set_cons_zero, List.set_cons_succ])
              refine wpAnyH_take (i := 8) (v := ?_) rfl (by kernel_rfl) (by kernel_rfl) (by kernel_rfl) (fun _ _ _ h => h) (Or.inl ⟨by rfl, ?_⟩) (by assumption) ?_
              rotate_left 1
              (intro w hSw; (try dsimp only at hSw); (try obtain ⟨hSa, hSb⟩ := hSw); go_simp; (try with_reducible rfl))
              (try simp only [List.getElem_toArray, List.getElem_cons_succ, List.getElem_cons_zero, Act.put, List.setIfInBounds_toArray, List.set_cons_zero, List.set_cons_succ])
              refine wpAnyH_take (i := 9) (v := ?_) rfl (by kernel_rfl) (by kernel_rfl) (by kernel_rfl) (fun _ _ _ h => h) (Or.inl ⟨by rfl, ?_⟩) (by assumption) ?_
              rotate_left 1
              (intro w hSw; (try dsimp only at hSw); (try obtain ⟨hSa, hSb⟩ := hSw); go_simp; (try with_reducible rfl))
              (try simp only [List.getElem_toArray, List.getElem_cons_succ, List.getElem_cons_zero, Act.put, List.setIfInBounds_toArray, List.set_cons_zero, List.set_cons_succ])
              refine wpAnyH_take (i := 10) (v := ?_) rfl (by kernel_rfl) (by kernel_rfl) (by kernel_rfl) (fun _ _ _ h => h) (Or.inl ⟨by rfl, ?_⟩) (by assumption) ?_
              rotate_left 1
              (intro w hSw; (try dsimp only at hSw); (try obtain ⟨hSa, hSb⟩ := hSw); go_simp; (try with_reducible rfl))
              (try simp only [List.getElem_toArray, List.getElem_cons_succ, List.getElem_cons_zero, Act.put, List.setIfInBounds_toArray, List.set_cons_zero, List.set_cons_succ])
              refine wpAnyH_done (by kernel_rfl) ?_ _
              have HC8 := hHeld5
              have hbx := bel_drew hb8
              have PV8 := Lib.hid (PV7.out.below hbx)
              have Br8 := Lib.hid (Br7.out.trans (hbx.mono Br7.out.size))
              clear hbx PV7 Br7 hb8 hHeld hHeld5 HC7 xr7 cr7
              have xr8 := HC8.1
              have cr8 := HC8.2
              go_wp2_with (with_reducible refine wpList_cadd rfl .add (.inl rfl) _ _ _ _ rfl _ _ _ _ rfl rfl ?_; intro d1 d2 md hd1 hd2)
              have HZ := Lib.hid (near_eq hd1 hd2)
              have hbd : Below w8.heap.size w8 (w8.drewN md) := below_drewN (Below.refl _ _) _
              have HC9 := keep2 hbd HC8
              clear hd1 hd2
              generalize w8.drewN md = w9 at *
              have hbx := hbd
              have PV9 := Lib.hid (PV8.out.below hbx)
              have Br9 := Lib.hid (Br8.out.trans (hbx.mono Br8.out.size))
              clear hbx PV8 Br8 hbd HC8 xr8 cr8
              have xr9 := HC9.1
              (go_at_call 13; ((with_reducible refine ((STE.out (d1, d2) HZ.out _ (PV9.out.below (by (repeat' (first | (with_reducible exact Below.refl _ _) | (with_reducible assumption) | (with_reducible refine Below.alloc ?_ ?_ _) | (with_reducible refine Below.setCell ?_ ?_ _) | (with_reducible refine Below.drew ?_) | (with_reducible refine Below.via (by assumption) ?_ ?_) | go_size))))).1).mono ?_); rintro e w10 ⟨s1, s2, rfl, hg10, hb10⟩))
              have HC10 := keep2 hb10 HC9
              have xr10 := HC10.1
              have hbx := hb10
              have PV10 := Lib.hid (PV9.out.below hbx)
              have Br10 := Lib.hid (Br9.out.trans (hbx.mono Br9.out.size))
              clear hbx PV9 Br9 hb10 HC9 xr9
              go_wp2_with fail
              (go_at_call 14; ((with_reducible refine ((STE.out (d1, d2) HZ.out _ (PV10.out.below (by (repeat' (first | (with_reducible exact Below.refl _ _) | (with_reducible assumption) | (with_reducible refine Below.alloc ?_ ?_ _) | (with_reducible refine Below.setCell ?_ ?_ _) | (with_reducible refine Below.drew ?_) | (with_reducible refine Below.via (by assumption) ?_ ?_) | go_size))))).2.1).mono ?_); rintro e w11 ⟨h1, h2, rfl, hg11, hb11⟩))
              have HC11 := keep2 hb11 HC10
              have xr11 := HC11.1
              have hbx := hb11
              have PV11 := Lib.hid (PV10.out.below hbx)
              have Br11 := Lib.hid (Br10.out.trans (hbx.mono Br10.out.size))
              clear hbx PV10 Br10 hb11 HC10 xr10
              go_wp2_with fail
              (go_at_call 15; ((with_reducible refine ((STE.out (d1, d2) HZ.out _ (PV11.out.below (by (repeat' (first | (with_reducible exact Below.refl _ _) | (with_reducible assumption) | (with_reducible refine Below.alloc ?_ ?_ _) | (with_reducible refine Below.setCell ?_ ?_ _) | (with_reducible refine Below.drew ?_) | (with_reducible refine Below.via (by assumption) ?_ ?_) | go_size))))).2.2.1).mono ?_); rintro e w12 ⟨l1, l2, rfl, hg12, hb12⟩))
              have HC12 := keep2 hb12 HC11
              have xr12 := HC12.1
              have hbx := hb12
              have PV12 := Lib.hid (PV11.out.below hbx)
              have Br12 := Lib.hid (Br11.out.trans (hbx.mono Br11.out.size))
              clear hbx PV11 Br11 hb12 HC11 xr11
              go_wp2_with fail
              (go_at_call 16; ((with_reducible refine ((STE.out (d1, d2) HZ.out _ (PV12.out.below (by (repeat' (first | (with_reducible exact Below.refl _ _) | (with_reducible assumption) | (with_reducible refine Below.alloc ?_ ?_ _) | (with_reducible refine Below.setCell ?_ ?_ _) | (with_reducible refine Below.drew ?_) | (with_reducible refine Below.via (by assumption) ?_ ?_) | go_size))))).2.2.2).mono ?_); rintro e w13 ⟨m1, m2, rfl, hg13, hb13⟩))
              have HC13 := keep2 hb13 HC12
              have xr13 := HC13.1
              have hbx := hb13
              have PV13 := Lib.hid (PV12.out.below hbx)
              have Br13 := Lib.hid (Br12.out.trans (hbx.mono Br12.out.size))
              clear hbx PV12 Br12 hb13 HC12 xr12
              have cr13 := HC13.2
              clear HC13 xr13 STE HZ POL
              go_upto_region 22 with fail
              go_cut [198] (fun v198 wx => v198 = .bool false ∧ Below w13.heap.size w13 wx)
              case first =>
                clear PS PV13 Br13
                have G7 := NearR.gt hg7
                have G10 := NearR.gt hg10
                have G11 := NearR.gt hg11
                have G12 := NearR.gt hg12
                go_wp2_with (first | (with_reducible refine wpList_caddg .sub (.inr rfl) _ _ _ _ rfl _ _ _ _ rfl rfl (by with_unfolding_all rfl) ?_; go_must (intro g1 g2 mg hg1 hg2; have Hg := sub_eq hg1 hg2; clear hg1 hg2)) | (with_reducible refine upon_cadd .sub (.inr rfl) _ _ _ _ _ ?_; go_must (intro g1 g2 mg hg1 hg2; have Hg := sub_eq hg1 hg2; clear hg1 hg2)) | (go_at_call 17; go_must (refine (longOf_spec (g1, g2) (Lib.hid (by rw [Hg]; exact NearR.fit (by assumption))) _).mono ?_); rintro e w' ⟨lr, ml, rfl, hlr, rfl⟩; rw [Hg] at hlr; clear Hg) | (with_reducible refine wpList_widg _ rfl _ rfl (by with_unfolding_all rfl) ?_; intro q mq hq; rw [hlr] at hq; clear hlr) | (with_reducible refine upon_wid _ ?_; intro q mq hq; rw [hlr] at hq; clear hlr))
                go_meet
                exact ⟨rfl, below_drewN (Below.refl _ _) _⟩
              case rest =>
                obtain ⟨rfl, hbx⟩ := hcut
                have BR := Lib.hid (Br13.out.trans (hbx.mono Br13.out.size))
                clear hbx Br13 PV13 cr13 hg7 hg10 hg11 hg12 PS
                go_step
                go_wp2_with fail
                go_roundw
                case rel => exact ⟨i + 1, by omega, by go_num, BR.out⟩
                case measure => simp [intOf]; omega
            exact AllReadyH.nil
          exact AllReadyH.nil
        · (have hiN : N = i := by omega); subst hiN
          have PV20 := Lib.hid (PVc.out.below hbr)
          have Hb20 := Lib.hid (Hbc.out.below hbr)
          have B20 := Lib.hid (Bc.out.trans (hbr.mono Bc.out.size))
          have x20 := (hbr.cell (p := ⟨a7, 0, none⟩) (World.block_lt_of_cell? _ _ Xc.out)).trans Xc.out
          clear hbr PVc Hbc Bc Xc Lc HPo HSt hi hlt
          go_wp2_with fail
          (go_at_call 5; ((with_reducible refine (b10At_any _ b 1 9 _ Hb20.out (by omega) (by omega) (by omega) (by omega)).mono ?_); rintro e w' ⟨y1, rfl, hy1, hy1', rfl⟩))
          have q1 : IntKind.i64.wrap (y1 - 4) = y1 - 4 := IntWalk.i64_in _ ⟨by omega, by omega⟩
          go_wp2_with (with_reducible refine wpList_fop rfl _ _ _ _ _ rfl rfl .f32 _ _ rfl rfl ?_; intro r mr hr)
          have HR1 := Lib.hid (show nrm .f32 r = qt (y1 - 4) from hr)
          clear hr
          have Hb21 := Lib.hid (Hb20.out.below (drewN_below wr mr))
          have hbx := drewN_below wr mr
          have PV21 := Lib.hid (PV20.out.below hbx)
          have x21 := (hbx.cell (p := ⟨a7, 0, none⟩) (World.block_lt_of_cell? _ _ x20)).trans x20
          have B21 := Lib.hid (B20.out.trans (hbx.mono B20.out.size))
          clear hbx PV20 x20 B20 Hb20
          generalize World.drewN wr mr = w21 at *
          (go_at_call 5; ((with_reducible refine (b10At_any _ b 2 9 _ Hb21.out (by omega) (by omega) (by omega) (by omega)).mono ?_); rintro e w' ⟨y2, rfl, hy2, hy2', rfl⟩))
          have q2 : IntKind.i64.wrap (y2 - 4) = y2 - 4 := IntWalk.i64_in _ ⟨by omega, by omega⟩
          go_wp2_with (with_reducible refine wpList_fop rfl _ _ _ _ _ rfl rfl .f32 _ _ rfl rfl ?_; intro r2 mr2 hr2)
          have HR2 := Lib.hid (show nrm .f32 r2 = qt (y2 - 4) from hr2)
          clear hr2 q1 q2 Hb21
          have hbx := drewN_below w21 mr2
          have PV22 := Lib.hid (PV21.out.below hbx)
          have x22 := (hbx.cell (p := ⟨a7, 0, none⟩) (World.block_lt_of_cell? _ _ x21)).trans x21
          have B22 := Lib.hid (B21.out.trans (hbx.mono B21.out.size))
          clear hbx PV21 x21 B21 
          generalize World.drewN w21 mr2 = w22 at *
          obtain ⟨hgr, hnz⟩ := at_gr (z := (r, r2)) ⟨hy1, hy1'⟩ ⟨hy2, hy2'⟩ (Prod.ext HR1.out HR2.out)
          obtain ⟨v, Bv, gv, nv, hcalls⟩ := HP.out.ends hgr hnz
          have small := HP.out.small hnz
          have HC := Lib.hid hcalls
          rw [HL.out] at gv small HC
          have GV := Lib.hid gv
          have NV := Lib.hid nv
          have SM := Lib.hid small
          generalize ez X N (2 * (y1 - 4), 2 * (y2 - 4)) N = U at *
          clear hgr hnz gv nv small hcalls hy1 hy1' hy2 hy2' HR1 HR2
          (go_at_call 18; ((with_reducible refine ((HC.out _ (PV22.out.below (by (repeat' (first | (with_reducible exact Below.refl _ _) | (with_reducible assumption) | (with_reducible refine Below.alloc ?_ ?_ _) | (with_reducible refine Below.setCell ?_ ?_ _) | (with_reducible refine Below.drew ?_) | (with_reducible refine Below.via (by assumption) ?_ ?_) | go_size))))).1).mono ?_); rintro e w23 ⟨vq, e1, e2, ts, rfl, hts, hge, hrd, hb23⟩))
          have GE := Lib.hid hge
          obtain ⟨qo, qcap, rfl, _⟩ := hrd.shape
          rw [cx_length, hts]
          have hbx := hb23
          have PV23 := Lib.hid (PV22.out.below hbx)
          have x23 := (hbx.cell (p := ⟨a7, 0, none⟩) (World.block_lt_of_cell? _ _ x22)).trans x22
          have B23 := Lib.hid (B22.out.trans (hbx.mono B22.out.size))
          clear hbx PV22 x22 B22 hb23 hrd hge
          go_upto_region 27 with fail
          generalize hg8 : World.alloc _ _ = w24
          have Hg8 := Lib.hid hg8
          clear hg8
          have hb24 : Below w23.heap.size w23 w24 := by rw [← Hg8.out]; (repeat' (first | (with_reducible exact Below.refl _ _) | (with_reducible assumption) | (with_reducible refine Below.alloc ?_ ?_ _) | (with_reducible refine Below.setCell ?_ ?_ _) | (with_reducible refine Below.drew ?_) | (with_reducible refine Below.via (by assumption) ?_ ?_) | go_size))
          have y24 : w24.cell? ⟨w23.heap.size, 0, none⟩ = some (.slice qo N qcap) := by rw [← Hg8.out]; go_simp
          have hbx := hb24
          have PV24 := Lib.hid (PV23.out.below hbx)
          have x24 := (hbx.cell (p := ⟨a7, 0, none⟩) (World.block_lt_of_cell? _ _ x23)).trans x23
          have B24 := Lib.hid (B23.out.trans (hbx.mono B23.out.size))
          clear hbx PV23 x23 B23 hb24 Hg8
          generalize w23.heap.size = a28 at *
          go_wp2_with fail
          (go_at_call 19; ((with_reducible refine ((HC.out _ (PV24.out.below (by (repeat' (first | (with_reducible exact Below.refl _ _) | (with_reducible assumption) | (with_reducible refine Below.alloc ?_ ?_ _) | (with_reducible refine Below.setCell ?_ ?_ _) | (with_reducible refine Below.drew ?_) | (with_reducible refine Below.via (by assumption) ?_ ?_) | go_size))))).2.1).mono ?_); rintro e w25 ⟨v1, v2, rfl, hv1, hv2, hb25⟩))
          have y25 := (hb25.cell (p := ⟨a28, 0, none⟩) (World.block_lt_of_cell? _ _ y24)).trans y24
          have EV := Lib.hid (show nc (v1, v2) = v from Prod.ext hv1 hv2)
          have hbx := hb25
          have PV25 := Lib.hid (PV24.out.below hbx)
          have x25 := (hbx.cell (p := ⟨a7, 0, none⟩) (World.block_lt_of_cell? _ _ x24)).trans x24
          have B25 := Lib.hid (B24.out.trans (hbx.mono B24.out.size))
          clear hbx PV24 x24 B24 hb25 y24 hv1 hv2
          go_wp2_with fail
          (go_at_call 20; ((with_reducible refine ((HC.out _ (PV25.out.below (by (repeat' (first | (with_reducible exact Below.refl _ _) | (with_reducible assumption) | (with_reducible refine Below.alloc ?_ ?_ _) | (with_reducible refine Below.setCell ?_ ?_ _) | (with_reducible refine Below.drew ?_) | (with_reducible refine Below.via (by assumption) ?_ ?_) | go_size))))).2.2.1).mono ?_); rintro e w26 ⟨f3, rfl, hf3, hb26⟩))
          have y26 := (hb26.cell (p := ⟨a28, 0, none⟩) (World.block_lt_of_cell? _ _ y25)).trans y25
          have hbx := hb26
          have PV26 := Lib.hid (PV25.out.below hbx)
          have x26 := (hbx.cell (p := ⟨a7, 0, none⟩) (World.block_lt_of_cell? _ _ x25)).trans x25
          have B26 := Lib.hid (B25.out.trans (hbx.mono B25.out.size))
          clear hbx PV25 x25 B25 hb26 y25 hf3
          go_wp2_with fail
          (go_at_call 21; ((with_reducible refine ((HC.out _ (PV26.out.below (by (repeat' (first | (with_reducible exact Below.refl _ _) | (with_reducible assumption) | (with_reducible refine Below.alloc ?_ ?_ _) | (with_reducible refine Below.setCell ?_ ?_ _) | (with_reducible refine Below.drew ?_) | (with_reducible refine Below.via (by assumption) ?_ ?_) | go_size))))).2.2.2).mono ?_); rintro e w27 ⟨f4, rfl, hf4, hb27⟩))
          have y27 := (hb27.cell (p := ⟨a28, 0, none⟩) (World.block_lt_of_cell? _ _ y26)).trans y26
          have hbx := hb27
          have PV27 := Lib.hid (PV26.out.below hbx)
          have x27 := (hbx.cell (p := ⟨a7, 0, none⟩) (World.block_lt_of_cell? _ _ x26)).trans x26
          have B27 := Lib.hid (B26.out.trans (hbx.mono B26.out.size))
          clear hbx PV26 x26 B26 hb27 y26 hf4 HC
          have LRS' := LRS.out
          obtain ⟨F1, F2, F3⟩ := last_ok GE.out GV.out SM.out (by omega) NV.out
          rw [← EV.out] at F1 F2 F3
          have L1 := Lib.hid F1
          have L2 := Lib.hid F2
          have wl : IntKind.i64.wrap (((N + 1 : Nat) : Int) - 1) = (N : Int) := by rw [IntWalk.i64_in _ ⟨by omega, by omega⟩]; omega
          have wl2 : IntKind.i64.wrap ((N : Int) + 1 - 1) = (N : Int) := by rw [IntWalk.i64_in _ ⟨by omega, by omega⟩]; omega
          rw [LRS'] at x27
          have bv : (Bv.2 == Bv.2) = true := by simp
          clear F1 F2 GE GV SM NV LRS'
          go_wp2_with (first | (with_reducible refine wpList_caddg .sub (.inr rfl) _ _ _ _ rfl _ _ _ _ rfl rfl (by with_unfolding_all rfl) ?_; intro g1 g2 mg hg1 hg2; have Hg := sub_eq hg1 hg2; clear hg1 hg2) | (go_at_call 17; refine (longOf_spec (g1, g2) (Lib.hid (by rw [Hg]; exact L1.out)) _).mono ?_; rintro e w' ⟨lr, ml, rfl, hlr, rfl⟩; rw [Hg] at hlr; clear Hg) | (go_at_call 17; refine (longOf_spec (v1, v2) (Lib.hid L2.out) _).mono ?_; rintro e w' ⟨lr, ml, rfl, hlr, rfl⟩) | (with_reducible refine wpList_fopg .add _ _ _ _ rfl rfl .f64 _ _ rfl rfl (by with_unfolding_all rfl) ?_; intro s ms hs; rw [k_one, hq] at hs; clear hq) | (with_reducible refine wpList_fopg .mul _ _ _ _ rfl rfl .f64 _ _ rfl rfl (by with_unfolding_all rfl) ?_; intro s2 ms2 hs2; rw [k_mil, hs] at hs2; clear hs) | (with_reducible refine wpList_widg _ rfl _ rfl (by with_unfolding_all rfl) ?_; intro q mq hq; rw [hlr] at hq; clear hlr))
          go_ret
          exact ⟨rfl, below_drewN B27.out _⟩

end Go.Proofs.YtdnoilcfgicnnaaGreat
