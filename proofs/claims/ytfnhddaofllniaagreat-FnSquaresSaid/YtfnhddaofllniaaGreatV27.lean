/- Squared roots, of the program. Conditions: a polynomial with roots; what is narrowed fits float32. -/
import Derived.Test.YtfnhddaofllniaaGreatV22
import Derived.Test.YtfnhddaofllniaaGreatV21
import Derived.Deep.RegionHeld3
import Derived.Deep.DeepCutAuto
namespace Go.Proofs.YtfnhddaofllniaaGreat
open Go Go.RowKit
set_option linter.unusedSimpArgs false
set_option linter.unusedVariables false

theorem run_maxi {P : Program} {a b m : Nat} (h : max a b = m) (ts : Array TypeId) (t : TypeId) (w : World) : (Builtin.max_ ts t #[.int .i64 (a : Int), .int .i64 (b : Int)]).run P w = .ok (.int .i64 (m : Int)) w := by
  by_cases hab : (b : Int) > (a : Int)
  · have : m = b := by omega
    simp [Builtin.max_, Builtin.max2, this]
    omega
  · have : m = a := by omega
    simp [Builtin.max_, Builtin.max2, this]
    omega
section
variable {ops : Array Oper} {rest : List Oper} {o : Oper} {a : Act} {Q : Exit → Act → World → Prop}
theorem wpList_maxi {P : Program} {w : World} {x y m : Nat} (hgd : o.guard = none) (X Y : Operand) (ats : Array TypeId) (ho : o.op = .call { callee := .builtin .max, args := #[X, Y], argTypes := ats })
    (hx : a.eval X = .int .i64 (x : Int)) (hy : a.eval Y = .int .i64 (y : Int)) (hm : max x y = m) (h : wpList P ops Q rest (a.put o.dst (.int .i64 (m : Int))) w) : wpList P ops Q (o :: rest) a w := by
  refine wpList_plain hgd fun K hK => ?_
  have hr := fun (ts : Array TypeId) (t : TypeId) (w : World) => run_maxi (P := P) hm ts t w
  unfold Oper.wp execOp
  simp only [ho, resolve, invoke, builtin, Sem.run_bind, Sem.run_pure, Result.andThen_ok, List.map_toArray, List.map_cons, List.map_nil, hx, hy, hr]
  exact hK _ _ h
/-- A list appended to a row. -/
theorem wpList_appV {e t : TypeId} {W : World} {B : Nat} {v u : Value} {xs ys : List Value} (z : Value) (bytes : Nat) (hown : RowV e W B v xs) (hrd : RdV W u ys) (hn : ys ≠ [])
    (hinfo : (Tryz.prog.info? e).map (fun i => (i.zero, i.size, i.bytes)) = some (some z, 1, bytes)) (hzs : z.cells.size = 1) (h1 : ∀ y ∈ ys, y.oneCell' = true) (hby : bytes ≤ 24)
    (hgd : o.guard = none) (s x : Operand) (ho : o.op = .call { callee := .builtin .append, args := #[s, x], argTypes := #[t, t] })
    (ht : Tryz.prog.underlying t = some (.slice e)) (hl : xs.length ≤ 1099511627776) (hl2 : ys.length ≤ 1099511627776) (hB : B ≤ W.heap.size)
    (hs : a.eval s = v) (hx : a.eval x = u)
    (h : ∀ g cap w', RowV e w' B (.slice (some ⟨g, 0, none⟩) (xs.length + ys.length) cap) (xs ++ ys) → Below B W w' → g < w'.heap.size → wpList Tryz.prog ops Q rest (a.put o.dst (.slice (some ⟨g, 0, none⟩) (xs.length + ys.length) cap)) w') :
    wpList Tryz.prog ops Q (o :: rest) a W := by
  cases hi : Tryz.prog.info? e with
  | none => rw [hi] at hinfo; cases hinfo
  | some i =>
  rw [hi] at hinfo
  simp only [Option.map_some, Option.some.injEq, Prod.mk.injEq] at hinfo
  obtain ⟨b, off, cap, rfl, hb, hcp, hc⟩ := hrd.open hn
  have hbb : (xs.length + ys.length) * bytes ≤ 140737488355328 := by
    have : (xs.length + ys.length) * bytes ≤ (xs.length + ys.length) * 24 := Nat.mul_le_mul_left _ hby
    omega
  refine wpList_append_lies _ hgd s x t ho B e i z 1 bytes ht hi hinfo.1 hinfo.2.1 hinfo.2.2 hzs (by decide) v xs.length xs hs hown ⟨b, off, none⟩ ys.length cap ys hx (by simp) (fun j y hj => ?_) h1
    (List.length_pos_iff.2 hn) (by unfold maxLen; omega) hbb hB W.heap.size rfl ?_
  · obtain ⟨h2, _⟩ := List.getElem?_eq_some_iff.1 hj
    rw [show (⟨b, off, none⟩ : Addr).add j = ⟨b, off + j, none⟩ from by unfold Addr.add; split <;> simp_all]
    exact (hc j h2).trans hj
  · intro g cap w' hown' hgrow hat hlt
    refine h g cap w' (by unfold RowV; rw [List.length_append]; exact hown') ?_ hlt
    exact (Below.refl B W).grown hgrow hB (fun k hk => (World.ownsRow.lt hown k hk).1)
end
set_option maxRecDepth 100000 in
set_option maxHeartbeats 8000000 in
theorem squared_impl (v : Value) (rs : List C2) (n : Nat) (w : World) (hv : RdV w v (cx rs)) (hn : rs.length = n + 1) (h1 : 1 ≤ n) (h2 : n ≤ 8) (hr : rootedF (rs.map nc) = true) (Hs : RowKit.Hid (safeSquare (rs.map nc)))
    (Q : List C2) (HQ : RowKit.Hid (polyF (squareF (rs.map nc)) = (Q, true))) (hq : Q.length = n + 1) :
    Calls Tryz.prog 8 #[.agg #[v]] w (RetP (Q, true) w.heap.size w) := by
  obtain ⟨ao, acap, rfl, _⟩ := hv.shape
  rw [cx_length, hn] at hv ⊢
  have HR := Lib.hid hr
  have HN := Lib.hid hn
  have S0 := Lib.hid (show ∀ w1, RdV w1 (.slice ao (n + 1) acap) (cx rs) → Calls Tryz.prog 28 #[(.slice ao (n + 1) acap), .int .i64 0] w1 (RetRd (trimF (evF (rs.map nc) 0)) w1) from fun w1 h => second_impl (.slice ao (n + 1) acap) rs 0 w1 h (by omega) (by omega) (by omega) _ (Lib.hid rfl))
  have S1 := Lib.hid (show ∀ w1, RdV w1 (.slice ao (n + 1) acap) (cx rs) → Calls Tryz.prog 28 #[(.slice ao (n + 1) acap), .int .i64 1] w1 (RetRd (trimF (evF (rs.map nc) 1)) w1) from fun w1 h => second_impl (.slice ao (n + 1) acap) rs 1 w1 h (by omega) (by omega) (by omega) _ (Lib.hid rfl))
  go_enter Tryz.func8, Tryz.ntmps8
  go_wp2_with fail
  have b2 : Below w.heap.size w ((w.alloc (.cells #[(.slice ao (n + 1) acap)] 28)).alloc (.cells #[.slice none 0 0] 28)) := by (repeat' (first | (with_reducible exact Below.refl _ _) | (with_reducible assumption) | (with_reducible refine Below.alloc ?_ ?_ _) | (with_reducible refine Below.setCell ?_ ?_ _) | (with_reducible refine Below.drew ?_) | (with_reducible refine Below.via (by assumption) ?_ ?_) | go_size))
  have z2 : ((w.alloc (.cells #[(.slice ao (n + 1) acap)] 28)).alloc (.cells #[.slice none 0 0] 28)).heap.size = w.heap.size + 2 := by simp
  have ca : ((w.alloc (.cells #[(.slice ao (n + 1) acap)] 28)).alloc (.cells #[.slice none 0 0] 28)).cell? ⟨w.heap.size, 0, none⟩ = some (.slice ao (n + 1) acap) := by go_simp
  have cc : ((w.alloc (.cells #[(.slice ao (n + 1) acap)] 28)).alloc (.cells #[.slice none 0 0] 28)).cell? ⟨w.heap.size + 1, 0, none⟩ = some (.slice none 0 0) := by go_simp; try rfl
  have fc : ((w.alloc (.cells #[(.slice ao (n + 1) acap)] 28)).alloc (.cells #[.slice none 0 0] 28)).frozen? ⟨w.heap.size + 1, 0, none⟩ = false := by go_simp; try rfl
  generalize ((w.alloc (.cells #[(.slice ao (n + 1) acap)] 28)).alloc (.cells #[.slice none 0 0] 28)) = W1 at *
  have Hv1 := Lib.hid (hv.below b2)
  have B1 := Lib.hid b2
  have CC := Lib.hid cc
  have FC := Lib.hid fc
  clear hv hr hn b2 cc fc
  (go_at_call 27; ((with_reducible refine (rooted_impl _ rs _ Hv1.out (by have := HN.out; omega) (by have := HN.out; omega)).mono ?_); rintro e W2 ⟨rfl, hb2⟩; rw [HR.out]))
  have ca2 := (hb2.cell (p := ⟨w.heap.size, 0, none⟩) (by simp only; omega)).trans ca
  have CC2 := Lib.hid ((hb2.cell (p := ⟨w.heap.size + 1, 0, none⟩) (by simp only; omega)).trans CC.out)
  have s2 := hb2.size
  have FC2 := Lib.hid (show W2.frozen? ⟨w.heap.size + 1, 0, none⟩ = false by rw [(bcell hb2).2 _ _ (by omega)]; exact FC.out)
  have Hv2 := Lib.hid (Hv1.out.below hb2)
  have B2 := Lib.hid (B1.out.trans (hb2.mono (by omega)))
  clear hb2 ca Hv1 CC FC B1
  go_upto_region 3 with fail
  go_cut [4, 5] (fun v4 v5 wx => ∃ es os, es.map nc = trimF (evF (rs.map nc) 0) ∧ os.map nc = trimF (evF (rs.map nc) 1) ∧ RdV wx v4 (cx es) ∧ RdV wx v5 (cx os) ∧ Below W2.heap.size W2 wx)
  case first =>
    go_region_held3 (fun w' => w'.cell? ⟨w.heap.size, 0, none⟩ = some (.slice ao (n + 1) acap)) (first | assumption | (refine (hb6.cell (World.block_lt_of_cell? _ _ ?_)).trans ?_ <;> assumption) | (refine (hb5.cell (World.block_lt_of_cell? _ _ ?_)).trans ?_ <;> assumption) | (((try dsimp only); (repeat' (refine And.intro ?_ ?_)); all_goals (first | assumption | (refine (Below.cell (B := W2.heap.size) (w := W2) ?_ ?_).trans ?_ <;> (first | assumption | omega | (simp only; omega) | (skip; (repeat' (first | (with_reducible exact Below.refl _ _) | (with_reducible assumption) | (with_reducible refine Below.alloc ?_ ?_ _) | (with_reducible refine Below.setCell ?_ ?_ _) | (with_reducible refine Below.drew ?_) | (with_reducible refine Below.via (by assumption) ?_ ?_) | go_size)); done))) | (go_keep; done)))))
      (first | (go_at_call 28; ((with_reducible refine (S0.out _ (Hv2.out.below (by (repeat' (first | (with_reducible exact Below.refl _ _) | (with_reducible assumption) | (with_reducible refine Below.alloc ?_ ?_ _) | (with_reducible refine Below.setCell ?_ ?_ _) | (with_reducible refine Below.drew ?_) | (with_reducible refine Below.via (by assumption) ?_ ?_) | go_size))))).mono ?_); rintro e w5 ⟨v5, es, rfl, hes, hre, hb5⟩; have z5 := hb5.size; (try simp only [World.size_drew] at z5))) | (go_at_call 28; ((with_reducible refine (S1.out _ (Hv2.out.below (by (repeat' (first | (with_reducible exact Below.refl _ _) | (with_reducible assumption) | (with_reducible refine Below.alloc ?_ ?_ _) | (with_reducible refine Below.setCell ?_ ?_ _) | (with_reducible refine Below.drew ?_) | (with_reducible refine Below.via (by assumption) ?_ ?_) | go_size))))).mono ?_); rintro e w6 ⟨v6, os, rfl, hos, hro, hb6⟩; have z6 := hb6.size; (try simp only [World.size_drew] at z6))))
    all_goals (go_wp2_with fail)
    all_goals go_meet
    exact ⟨es, os, hes, hos, hre.below hb6, hro, (show Below W2.heap.size W2 W2.drew by rw [World.drew_is_drewN]; exact below_drewN (Below.refl _ _) 1).trans (hb5.trans (hb6.mono z5))⟩
  case rest =>
    obtain ⟨es, os, hes, hos, hre, hro, hbx⟩ := hcut
    have HP0 := Lib.hid (show (rs.map nc).length = n + 1 by rw [List.length_map]; exact HN.out)
    have lE : 1 ≤ es.length ∧ es.length ≤ 5 := by
      have h := congrArg List.length hes
      rw [List.length_map, trimF_length, evF_length, HP0.out] at h
      have a := trimN_pos (evF (rs.map nc) 0) (n := (n + 1 + 1 - 0) / 2) (by omega)
      have b := trimN_le (evF (rs.map nc) 0) ((n + 1 + 1 - 0) / 2)
      omega
    have lO : 1 ≤ os.length ∧ os.length ≤ 5 := by
      have h := congrArg List.length hos
      rw [List.length_map, trimF_length, evF_length, HP0.out] at h
      have a := trimN_pos (evF (rs.map nc) 1) (n := (n + 1 + 1 - 1) / 2) (by omega)
      have b := trimN_le (evF (rs.map nc) 1) ((n + 1 + 1 - 1) / 2)
      omega
    have SE := Lib.hid (show safeProd (es.map nc) (es.map nc) by rw [hes]; exact Hs.out.1)
    have SO := Lib.hid (show safeProd (os.map nc) (os.map nc) by rw [hos]; exact Hs.out.2)
    have PE := Lib.hid (show prodF (es.map nc) (es.map nc) = eeF (rs.map nc) by rw [hes]; rfl)
    have PO := Lib.hid (show (0, 0) :: prodF (os.map nc) (os.map nc) = ooF (rs.map nc) by rw [hos]; rfl)
    have LE' := Lib.hid (show (eeF (rs.map nc)).length = 2 * es.length - 1 by rw [← PE.out, prodF_length, List.length_map]; omega)
    have LO' := Lib.hid (show (ooF (rs.map nc)).length = 2 * os.length by rw [← PO.out, List.length_cons, prodF_length, List.length_map]; omega)
    have HRE := Lib.hid hre
    have HRO := Lib.hid hro
    have BX := Lib.hid (B2.out.trans (hbx.mono (by omega)))
    have CA3 := Lib.hid ((hbx.cell (p := ⟨w.heap.size, 0, none⟩) (by simp only; omega)).trans ca2)
    have CC3 := Lib.hid ((hbx.cell (p := ⟨w.heap.size + 1, 0, none⟩) (by simp only; omega)).trans CC2.out)
    have FC3 := Lib.hid (show wc.frozen? ⟨w.heap.size + 1, 0, none⟩ = false by rw [(bcell hbx).2 _ _ (by omega)]; exact FC2.out)
    have Hv3 := Lib.hid (Hv2.out.below hbx)
    have s3 := hbx.size
    clear hes hos hre hro hbx ca2 CC2 FC2 Hv2 B2 Hs S0 S1
    go_step
    go_wp2_with fail
    (go_at_call 29; ((with_reducible refine (mulL_impl _ _ es es _ HRE.out HRE.out lE.1 (by omega) lE.1 (by omega) SE _ PE).mono ?_); rintro e w5 ⟨v6, qe, rfl, hqe, ho5, hb5⟩))
    have s5 := hb5.size
    have HQE := Lib.hid hqe
    have HO5 := Lib.hid ho5
    have HB5 := Lib.hid hb5
    clear hqe ho5 hb5
    go_wp2_with fail
    have hr0 : RowV 32 (w5.alloc (.cells #[.complex .f32 0 0] 32)) w5.heap.size (.slice (some ⟨w5.heap.size, 0, none⟩) 1 1) (cx [(0, 0)]) := row_one rfl (Nat.le_refl _) _ _
    have b6 : Below w5.heap.size w5 (w5.alloc (.cells #[.complex .f32 0 0] 32)) := (Below.refl _ _).alloc (Nat.le_refl _) _
    have z6 : (w5.alloc (.cells #[.complex .f32 0 0] 32)).heap.size = w5.heap.size + 1 := by simp
    generalize w5.alloc (.cells #[.complex .f32 0 0] 32) = w6 at *
    have HR0 := Lib.hid hr0
    have HB6 := Lib.hid b6
    clear hr0 b6
    (go_at_call 29; ((with_reducible refine (mulL_impl _ _ os os _ (HRO.out.below (HB5.out.trans (HB6.out.mono s5))) (HRO.out.below (HB5.out.trans (HB6.out.mono s5))) lO.1 (by omega) lO.1 (by omega) SO _ (Lib.hid rfl)).mono ?_); rintro e w7 ⟨v7, qo, rfl, hqo, ho7, hb7⟩))
    have s7 := hb7.size
    have HQO := Lib.hid hqo
    have HO7 := Lib.hid ho7.rd
    have HR7 := Lib.hid (HR0.out.below hb7)
    have HB7 := Lib.hid (HB5.out.trans ((HB6.out.trans (hb7.mono (by omega))).mono s5))
    have lqe : qe.length = 2 * es.length - 1 := by have := congrArg List.length HQE.out; rw [List.length_map, LE'.out] at this; exact this
    have lqo : qo.length = 2 * os.length - 1 := by have := congrArg List.length hqo; rw [List.length_map, prodF_length, List.length_map] at this; omega
    have HLq := Lib.hid (show (cx qo).length ≤ 1099511627776 by rw [cx_length]; omega)
    have HNq := Lib.hid (show cx qo ≠ [] by rw [← List.length_pos_iff, cx_length]; omega)
    have HV6 := Lib.hid (show ∀ wx, Below w5.heap.size w5 wx → RdV wx v6 (cx qe) from fun wx hb => HO5.out.rd.below hb)
    have HB57 := Lib.hid (show Below w5.heap.size w5 w7 from HB6.out.trans (hb7.mono (by omega)))
    clear hqo ho7 hb7 HR0 HB6
    obtain ⟨eo, ecap, rfl, _⟩ := HO5.out.rd.shape
    obtain ⟨la, hla⟩ : ∃ la, qe.length = la := ⟨_, rfl⟩
    obtain ⟨lb, hlb⟩ : ∃ lb, (cx [(0, 0)]).length + (cx qo).length = lb := ⟨_, rfl⟩
    have hlb2 : lb = 2 * os.length := by rw [← hlb, cx_length, cx_length]; simp; omega
    obtain ⟨M, hM⟩ : ∃ M : Nat, max la lb = M := ⟨_, rfl⟩
    have M17 : M ≤ 10 := by omega
    have HMx := Lib.hid hM
    have M0 : 1 ≤ M := by omega
    have la10 : la ≤ 10 := by omega
    have lb10 : lb ≤ 10 := by omega
    have HM := Lib.hid (show squareF (rs.map nc) = (List.range M).map (sqT (rs.map nc)) by unfold squareF; rw [LE'.out, LO'.out, ← hM, ← hla, lqe, hlb2])
    have HLA := Lib.hid hla
    have HLB := Lib.hid hlb
    rw [cx_length, hla] at HV6 ⊢
    clear hla hlb hlb2 hM HO5 lqe lqo
    by_cases hml : la < lb
    · go_wp2_with (first | (at_builtin; go_must (refine wpList_appV (.complex .f32 0 0) 8 HR7.out HO7.out HNq.out infoC rfl (cx_one qo) (by decide) rfl _ _ rfl Tryz.underlying25 (by simp) HLq.out (by omega) rfl rfl ?_); intro og ocap w8 hr8 hb8 hl8; rw [HLB.out] at hr8 ⊢))
      rw [show (lb : Int) = (M : Int) by have := HMx.out; omega]
      have s8 := hb8.size
      have HV6b := Lib.hid (HV6.out _ (HB57.out.trans hb8))
      have HV7 := Lib.hid (show RdV w8 (.slice (some ⟨og, 0, none⟩) lb ocap) (cx ((0, 0) :: qo)) from by
        have h := hr8.rd
        rw [← show cx ((0, 0) :: qo) = cx [(0, 0)] ++ cx qo from rfl] at h
        exact h)
      have BW := Lib.hid (show Below wc.heap.size wc w8 from HB7.out.trans (hb8.mono s5))
      have CA8 := Lib.hid ((BW.out.cell (p := ⟨w.heap.size, 0, none⟩) (by simp only; omega)).trans CA3.out)
      have CC8 := Lib.hid ((BW.out.cell (p := ⟨w.heap.size + 1, 0, none⟩) (by simp only; omega)).trans CC3.out)
      have FC8 := Lib.hid (show w8.frozen? ⟨w.heap.size + 1, 0, none⟩ = false by rw [(bcell BW.out).2 _ _ (by omega)]; exact FC3.out)
      have Hv8 := Lib.hid (Hv3.out.below BW.out)
      have BX8 := Lib.hid (BX.out.trans (BW.out.mono (by omega)))
      clear hr8 hb8 HV6 HB57 HB7 CA3 CC3 FC3 Hv3 BX BW HRE HRO SE SO PE LE' LO' HO7 HR7
      go_loopw [8, 37] (fun ov kv wr => ∃ (k : Nat) (ts : List C2), k ≤ M ∧ kv = .int .i64 k ∧ RowV 32 wr w8.heap.size ov (cx ts) ∧ ts.map nc = (List.range k).map (sqT (rs.map nc)) ∧ Below w8.heap.size w8 wr) (fun _ kv _ => M - (intOf kv).toNat)
      case atStart => exact ⟨0, [], Nat.zero_le _, rfl, row_nil (Nat.le_refl _) _, rfl, by (repeat' (first | (with_reducible exact Below.refl _ _) | (with_reducible assumption) | (with_reducible refine Below.alloc ?_ ?_ _) | (with_reducible refine Below.setCell ?_ ?_ _) | (with_reducible refine Below.drew ?_) | (with_reducible refine Below.via (by assumption) ?_ ?_) | go_size))⟩
      case round =>
        obtain ⟨k, ts, hk, rfl, hrow, hts, hbel⟩ := hrel
        have hsz := hbel.size
        have tl : ts.length = k := by have := congrArg List.length hts; simpa using this
        have car := (hbel.cell (p := ⟨w.heap.size, 0, none⟩) (by simp only; omega)).trans CA8.out
        by_cases hlt : k < M
        · have T1 := Lib.hid (termAt_impl (.slice eo la ecap) qe k wr (HV6b.out.below hbel) (by have := HLA.out; omega) (by omega))
          have T2 := Lib.hid (termAt_impl (.slice (some ⟨og, 0, none⟩) lb ocap) ((0, 0) :: qo) k wr (HV7.out.below hbel) (by have := HLB.out; simp at this ⊢; omega) (by omega))
          have EA := Lib.hid (show nc (qe.getD k (0, 0)) = (eeF (rs.map nc)).getD k (0, 0) by rw [← HQE.out, getD_nc])
          have EB := Lib.hid (show nc (((0, 0) :: qo).getD k (0, 0)) = (ooF (rs.map nc)).getD k (0, 0) by rw [← PO.out, ← HQO.out, ← getD_nc]; rfl)
          have Hrow := Lib.hid hrow
          have Hl := Lib.hid (show (cx ts).length ≤ 1099511627776 by simp; omega)
          have Hts := Lib.hid hts
          have Hbel := Lib.hid hbel
          have HvR := Lib.hid (Hv8.out.below hbel)
          have j2 : (0 : Int) ≤ (k : Int) := by omega
          have j3 : (k : Int) < (M : Int) := by omega
          clear hrow hts hbel tl
          generalize qe.getD k (0, 0) = A at *
          generalize ((0, 0) :: qo).getD k (0, 0) = B at *
          obtain ⟨a1, a2⟩ := A
          obtain ⟨b1, b2⟩ := B
          go_upto_region 10 with (first
            | (go_at_call 31; ((with_reducible refine (T1.out).mono ?_); rintro e w9 ⟨rfl, rfl⟩))
            | (go_at_call 31; ((with_reducible refine (T2.out).mono ?_); rintro e w9 ⟨rfl, rfl⟩))
            | (go_at_call 30; ((with_reducible refine (minus_impl (a1, a2) (b1, b2) _).mono ?_); rintro e w9 ⟨d1, d2, md, rfl, hd1, hd2, rfl⟩)))
          have HD := Lib.hid (show nc (d1, d2) = subC ((eeF (rs.map nc)).getD k (0, 0)) ((ooF (rs.map nc)).getD k (0, 0)) by rw [← EA.out, ← EB.out]; exact Prod.ext hd1 hd2)
          have bd : Below wr.heap.size wr (wr.drewN md) := below_drewN (Below.refl _ _) _
          have card := (bd.cell (p := ⟨w.heap.size, 0, none⟩) (by simp only; omega)).trans car
          have HbelD := Lib.hid (Hbel.out.trans (bd.mono hsz))
          have HrowD := Lib.hid (Hrow.out.below bd)
          have HvD := Lib.hid (HvR.out.below bd)
          have sd : (wr.drewN md).heap.size = wr.heap.size := by simp
          clear hd1 hd2 bd car Hrow Hbel HvR EA EB T1 T2
          generalize wr.drewN md = wd at *
          by_cases hpar : n % 2 = 1
          · have hp1 : (n : Int) % 2 = 1 := by omega
            have hp2 : Int.tmod (n : Int) 2 = 1 := by rw [Int.tmod_eq_emod_of_nonneg (by omega)]; omega
            have HSQ := Lib.hid (show sqT (rs.map nc) k = scaleC (subC ((eeF (rs.map nc)).getD k (0, 0)) ((ooF (rs.map nc)).getD k (0, 0))) (nrm .f32 3212836864) from if_pos (by rw [HP0.out]; omega))
            clear hpar
            go_wp2_with fail
            (go_at_call 32; ((with_reducible refine (degree_impl (.slice ao (n + 1) acap) rs n _ HvD.out HN.out (by omega)).mono ?_); rintro e w9 ⟨rfl, hb9⟩))
            have z9 := hb9.size
            have HrowR := Lib.hid (HrowD.out.below hb9)
            have HbelR := Lib.hid (HbelD.out.trans (hb9.mono (by omega)))
            have hz9 : w8.heap.size ≤ w9.heap.size := by omega
            clear HrowD HbelD card HvD hb9
            go_wp2_with (first | (go_at_call 33; ((with_reducible refine (scale_impl (d1, d2) 3212836864 _).mono ?_); rintro e w10 ⟨g1, g2, mg, rfl, hg1, hg2, rfl⟩)) | (at_builtin; go_must (refine wpList_pushV (.complex .f32 0 0) 8 HrowR.out infoC rfl rfl (by decide) rfl _ _ rfl Tryz.underlying25 Hl.out (by omega) rfl rfl rfl rfl rfl rfl ?_); intro v1 w1 hr1 hb1 hgw ho1))
            have HS := Lib.hid (show nc (g1, g2) = sqT (rs.map nc) k by rw [HSQ.out, ← HD.out]; exact Prod.ext hg1 hg2)
            go_roundw
            case rel => exact ⟨k + 1, ts ++ [(g1, g2)], by omega, by go_num, by rw [← cx_push]; exact hr1, by rw [List.map_append, Hts.out, square_succ, List.map_cons, List.map_nil, HS.out], HbelR.out.trans hb1⟩
            case measure => simp [intOf]; omega
          · have hp1 : (n : Int) % 2 = 0 := by omega
            have hp2 : Int.tmod (n : Int) 2 = 0 := by rw [Int.tmod_eq_emod_of_nonneg (by omega)]; omega
            have HSQ := Lib.hid (show sqT (rs.map nc) k = subC ((eeF (rs.map nc)).getD k (0, 0)) ((ooF (rs.map nc)).getD k (0, 0)) from if_neg (by rw [HP0.out]; omega))
            clear hpar
            go_wp2_with fail
            (go_at_call 32; ((with_reducible refine (degree_impl (.slice ao (n + 1) acap) rs n _ HvD.out HN.out (by omega)).mono ?_); rintro e w9 ⟨rfl, hb9⟩))
            have z9 := hb9.size
            have HrowR := Lib.hid (HrowD.out.below hb9)
            have HbelR := Lib.hid (HbelD.out.trans (hb9.mono (by omega)))
            have hz9 : w8.heap.size ≤ w9.heap.size := by omega
            clear HrowD HbelD card HvD hb9
            go_wp2_with (at_builtin; go_must (refine wpList_pushV (.complex .f32 0 0) 8 HrowR.out infoC rfl rfl (by decide) rfl _ _ rfl Tryz.underlying25 Hl.out (by omega) rfl rfl rfl rfl rfl rfl ?_); intro v1 w1 hr1 hb1 hgw ho1)
            have HS := Lib.hid (show nc (d1, d2) = sqT (rs.map nc) k by rw [HSQ.out, ← HD.out])
            go_roundw
            case rel => exact ⟨k + 1, ts ++ [(d1, d2)], by omega, by go_num, by rw [← cx_push]; exact hr1, by rw [List.map_append, Hts.out, square_succ, List.map_cons, List.map_nil, HS.out], HbelR.out.trans hb1⟩
            case measure => simp [intOf]; omega
        · have hkM : k = M := by omega
          have tne : ts ≠ [] := by intro h; rw [h] at tl; simp at tl; omega
          have Ht := Lib.hid (show polyF (ts.map nc) = (Q, true) by rw [hts, hkM, ← HM.out]; exact HQ.out)
          have HvR := Lib.hid (Hv8.out.below hbel)
          have CC9 := Lib.hid ((hbel.cell (p := ⟨w.heap.size + 1, 0, none⟩) (by simp only; omega)).trans CC8.out)
          have FC9 := Lib.hid (show wr.frozen? ⟨w.heap.size + 1, 0, none⟩ = false by rw [(bcell hbel).2 _ _ (by omega)]; exact FC8.out)
          have BX9 := Lib.hid (BX8.out.trans (hbel.mono (by omega)))
          have sw9 : w.heap.size + 2 ≤ w8.heap.size := by omega
          obtain ⟨ao3, cap3, rfl, _⟩ := hrow.rd.shape
          rw [cx_length, tl] at hrow ⊢
          have Hown := Lib.hid hrow.own
          have jm : ¬ ((k : Int) < (M : Int)) := by omega
          have k10 : k ≤ 10 := by omega
          clear hts hbel hrow hml HM HMx CC8 FC8 CA8 BX8 Hv8 hkM
          go_wp2_with fail
          (go_at_call 34; ((with_reducible refine (polyOf_impl _ ts _ w8.heap.size hsz Hown.out tne (by omega)).mono ?_)))
          rw [Ht.out]
          rintro e wp ⟨vp, us, rfl, hus, hop, hbp⟩
          have ul : us.length = n + 1 := by have := congrArg List.length hus; rw [List.length_map] at this; exact this.trans hq
          obtain ⟨uo, ucap, rfl, _⟩ := hop.rd.shape
          rw [cx_length, ul] at hop ⊢
          have HUS := Lib.hid hus
          have HUL := Lib.hid ul
          have HOP := Lib.hid hop
          have HVP := Lib.hid (HvR.out.below hbp)
          have carp := (hbp.cell (p := ⟨w.heap.size, 0, none⟩) (by simp only; omega)).trans car
          have ccp := (hbp.cell (p := ⟨w.heap.size + 1, 0, none⟩) (by simp only; omega)).trans CC9.out
          have fcp : wp.frozen? ⟨w.heap.size + 1, 0, none⟩ = false := by rw [(bcell hbp).2 _ _ (by omega)]; exact FC9.out
          have sp := hbp.size
          have BXP := Lib.hid (BX9.out.trans (hbp.mono (by omega)))
          clear hus hop hbp ul tl tne Ht Hown HvR CC9 FC9 BX9 car hq
          go_upto_region 15 with fail
          have bq : Below wp.heap.size wp (wp.alloc (.cells #[.slice uo (n + 1) ucap] 28)) := (Below.refl _ _).alloc (Nat.le_refl _) _
          have c11 : (wp.alloc (.cells #[.slice uo (n + 1) ucap] 28)).cell? ⟨wp.heap.size, 0, none⟩ = some (.slice uo (n + 1) ucap) := World.cell?_alloc_new wp #[.slice uo (n + 1) ucap] 28 0
          have zq : (wp.alloc (.cells #[.slice uo (n + 1) ucap] 28)).heap.size = wp.heap.size + 1 := by simp
          generalize (wp.alloc (.cells #[.slice uo (n + 1) ucap] 28)) = wq at *
          have caq := (bq.cell (p := ⟨w.heap.size, 0, none⟩) (by simp only; omega)).trans carp
          have CCQ := Lib.hid ((bq.cell (p := ⟨w.heap.size + 1, 0, none⟩) (by simp only; omega)).trans ccp)
          have FCQ := Lib.hid (show wq.frozen? ⟨w.heap.size + 1, 0, none⟩ = false by rw [(bcell bq).2 _ _ (by omega)]; exact fcp)
          have HOQ := Lib.hid (HOP.out.below bq)
          have HVQ := Lib.hid (HVP.out.below bq)
          have BXQ := Lib.hid (BXP.out.trans (bq.mono (by omega)))
          clear bq ccp fcp carp HOP HVP BXP
          go_cut [71] (fun v71 wx => v71 = .bool false ∧ Below wq.heap.size wq wx)
          case first =>
            go_region_held3 (fun w' => w'.cell? ⟨w.heap.size, 0, none⟩ = some (.slice ao (n + 1) acap) ∧ w'.cell? ⟨wp.heap.size, 0, none⟩ = some (.slice uo (n + 1) ucap)) (first | assumption | (refine keep2 hb7 ?_; assumption) | (refine keep2 hb7 ⟨?_, ?_⟩ <;> assumption) | (refine ⟨?_, ?_⟩ <;> assumption) | (refine ⟨?_, ?_⟩ <;> (refine (hb7.cell (World.block_lt_of_cell? _ _ ?_)).trans ?_ <;> assumption)))
              (first | (go_at_call 32; ((first | (with_reducible refine (degree_impl (.slice uo (n + 1) ucap) us n _ (HOQ.out.rd.below (by (repeat' (first | (with_reducible exact Below.refl _ _) | (with_reducible assumption) | (with_reducible refine Below.alloc ?_ ?_ _) | (with_reducible refine Below.setCell ?_ ?_ _) | (with_reducible refine Below.drew ?_) | (with_reducible refine Below.via (by assumption) ?_ ?_) | go_size)))) HUL.out (by omega)).mono ?_) | (with_reducible refine (degree_impl (.slice ao (n + 1) acap) rs n _ (HVQ.out.below (by (repeat' (first | (with_reducible exact Below.refl _ _) | (with_reducible assumption) | (with_reducible refine Below.alloc ?_ ?_ _) | (with_reducible refine Below.setCell ?_ ?_ _) | (with_reducible refine Below.drew ?_) | (with_reducible refine Below.via (by assumption) ?_ ?_) | go_size)))) HN.out (by omega)).mono ?_)); rintro e w7 ⟨rfl, hb7⟩; have z7 := hb7.size; (try simp only [World.size_drew] at z7))))
            all_goals (go_wp2_with fail)
            all_goals go_meet
            all_goals (exact ⟨rfl, by (repeat' (first | (with_reducible exact Below.refl _ _) | (with_reducible assumption) | (with_reducible refine Below.alloc ?_ ?_ _) | (with_reducible refine Below.setCell ?_ ?_ _) | (with_reducible refine Below.drew ?_) | (with_reducible refine Below.via (by assumption) ?_ ?_) | go_size))⟩)
          case rest =>
            obtain ⟨rfl, hbx⟩ := hcut
            have sx := hbx.size
            have c11x := (hbx.cell (p := ⟨wp.heap.size, 0, none⟩) (by simp only; omega)).trans c11
            have ccx := (hbx.cell (p := ⟨w.heap.size + 1, 0, none⟩) (by simp only; omega)).trans CCQ.out
            have fcx : wc.frozen? ⟨w.heap.size + 1, 0, none⟩ = false := by rw [(bcell hbx).2 _ _ (by omega)]; exact FCQ.out
            have HOX := Lib.hid (HOQ.out.below hbx)
            have BXX := Lib.hid (BXQ.out.trans (hbx.mono (by omega)))
            have zl : w.heap.size + 1 < wc.heap.size := by omega
            clear hbx
            go_step
            go_wp2_with fail
            have OF := (own_set (j := 0) HOX.out (show w.heap.size + 1 < w8.heap.size by omega) (.slice uo (n + 1) ucap)).mono (show w.heap.size ≤ w8.heap.size by omega)
            have RF := Lib.hid OF
            have BF := Lib.hid (BXX.out.setCell (p := ⟨w.heap.size + 1, 0, none⟩) (by simp only; omega) (.slice uo (n + 1) ucap))
            have cf := setCell_self ccx (.slice uo (n + 1) ucap)
            clear OF
            generalize wc.setCell ⟨w.heap.size + 1, 0, none⟩ (.slice uo (n + 1) ucap) = WF at *
            refine bodyPost_ret (by simp [results, Tryz.results8, go_sem, cf]; try rfl) rfl ?_
            exact ⟨_, us, rfl, HUS.out, RF.out, BF.out⟩
    · go_wp2_with (first | (at_builtin; go_must (refine wpList_appV (.complex .f32 0 0) 8 HR7.out HO7.out HNq.out infoC rfl (cx_one qo) (by decide) rfl _ _ rfl Tryz.underlying25 (by simp) HLq.out (by omega) rfl rfl ?_); intro og ocap w8 hr8 hb8 hl8; rw [HLB.out] at hr8 ⊢))
      rw [show (la : Int) = (M : Int) by have := HMx.out; omega]
      have s8 := hb8.size
      have HV6b := Lib.hid (HV6.out _ (HB57.out.trans hb8))
      have HV7 := Lib.hid (show RdV w8 (.slice (some ⟨og, 0, none⟩) lb ocap) (cx ((0, 0) :: qo)) from by
        have h := hr8.rd
        rw [← show cx ((0, 0) :: qo) = cx [(0, 0)] ++ cx qo from rfl] at h
        exact h)
      have BW := Lib.hid (show Below wc.heap.size wc w8 from HB7.out.trans (hb8.mono s5))
      have CA8 := Lib.hid ((BW.out.cell (p := ⟨w.heap.size, 0, none⟩) (by simp only; omega)).trans CA3.out)
      have CC8 := Lib.hid ((BW.out.cell (p := ⟨w.heap.size + 1, 0, none⟩) (by simp only; omega)).trans CC3.out)
      have FC8 := Lib.hid (show w8.frozen? ⟨w.heap.size + 1, 0, none⟩ = false by rw [(bcell BW.out).2 _ _ (by omega)]; exact FC3.out)
      have Hv8 := Lib.hid (Hv3.out.below BW.out)
      have BX8 := Lib.hid (BX.out.trans (BW.out.mono (by omega)))
      clear hr8 hb8 HV6 HB57 HB7 CA3 CC3 FC3 Hv3 BX BW HRE HRO SE SO PE LE' LO' HO7 HR7
      go_loopw [8, 37] (fun ov kv wr => ∃ (k : Nat) (ts : List C2), k ≤ M ∧ kv = .int .i64 k ∧ RowV 32 wr w8.heap.size ov (cx ts) ∧ ts.map nc = (List.range k).map (sqT (rs.map nc)) ∧ Below w8.heap.size w8 wr) (fun _ kv _ => M - (intOf kv).toNat)
      case atStart => exact ⟨0, [], Nat.zero_le _, rfl, row_nil (Nat.le_refl _) _, rfl, by (repeat' (first | (with_reducible exact Below.refl _ _) | (with_reducible assumption) | (with_reducible refine Below.alloc ?_ ?_ _) | (with_reducible refine Below.setCell ?_ ?_ _) | (with_reducible refine Below.drew ?_) | (with_reducible refine Below.via (by assumption) ?_ ?_) | go_size))⟩
      case round =>
        obtain ⟨k, ts, hk, rfl, hrow, hts, hbel⟩ := hrel
        have hsz := hbel.size
        have tl : ts.length = k := by have := congrArg List.length hts; simpa using this
        have car := (hbel.cell (p := ⟨w.heap.size, 0, none⟩) (by simp only; omega)).trans CA8.out
        by_cases hlt : k < M
        · have T1 := Lib.hid (termAt_impl (.slice eo la ecap) qe k wr (HV6b.out.below hbel) (by have := HLA.out; omega) (by omega))
          have T2 := Lib.hid (termAt_impl (.slice (some ⟨og, 0, none⟩) lb ocap) ((0, 0) :: qo) k wr (HV7.out.below hbel) (by have := HLB.out; simp at this ⊢; omega) (by omega))
          have EA := Lib.hid (show nc (qe.getD k (0, 0)) = (eeF (rs.map nc)).getD k (0, 0) by rw [← HQE.out, getD_nc])
          have EB := Lib.hid (show nc (((0, 0) :: qo).getD k (0, 0)) = (ooF (rs.map nc)).getD k (0, 0) by rw [← PO.out, ← HQO.out, ← getD_nc]; rfl)
          have Hrow := Lib.hid hrow
          have Hl := Lib.hid (show (cx ts).length ≤ 1099511627776 by simp; omega)
          have Hts := Lib.hid hts
          have Hbel := Lib.hid hbel
          have HvR := Lib.hid (Hv8.out.below hbel)
          have j2 : (0 : Int) ≤ (k : Int) := by omega
          have j3 : (k : Int) < (M : Int) := by omega
          clear hrow hts hbel tl
          generalize qe.getD k (0, 0) = A at *
          generalize ((0, 0) :: qo).getD k (0, 0) = B at *
          obtain ⟨a1, a2⟩ := A
          obtain ⟨b1, b2⟩ := B
          go_upto_region 10 with (first
            | (go_at_call 31; ((with_reducible refine (T1.out).mono ?_); rintro e w9 ⟨rfl, rfl⟩))
            | (go_at_call 31; ((with_reducible refine (T2.out).mono ?_); rintro e w9 ⟨rfl, rfl⟩))
            | (go_at_call 30; ((with_reducible refine (minus_impl (a1, a2) (b1, b2) _).mono ?_); rintro e w9 ⟨d1, d2, md, rfl, hd1, hd2, rfl⟩)))
          have HD := Lib.hid (show nc (d1, d2) = subC ((eeF (rs.map nc)).getD k (0, 0)) ((ooF (rs.map nc)).getD k (0, 0)) by rw [← EA.out, ← EB.out]; exact Prod.ext hd1 hd2)
          have bd : Below wr.heap.size wr (wr.drewN md) := below_drewN (Below.refl _ _) _
          have card := (bd.cell (p := ⟨w.heap.size, 0, none⟩) (by simp only; omega)).trans car
          have HbelD := Lib.hid (Hbel.out.trans (bd.mono hsz))
          have HrowD := Lib.hid (Hrow.out.below bd)
          have HvD := Lib.hid (HvR.out.below bd)
          have sd : (wr.drewN md).heap.size = wr.heap.size := by simp
          clear hd1 hd2 bd car Hrow Hbel HvR EA EB T1 T2
          generalize wr.drewN md = wd at *
          by_cases hpar : n % 2 = 1
          · have hp1 : (n : Int) % 2 = 1 := by omega
            have hp2 : Int.tmod (n : Int) 2 = 1 := by rw [Int.tmod_eq_emod_of_nonneg (by omega)]; omega
            have HSQ := Lib.hid (show sqT (rs.map nc) k = scaleC (subC ((eeF (rs.map nc)).getD k (0, 0)) ((ooF (rs.map nc)).getD k (0, 0))) (nrm .f32 3212836864) from if_pos (by rw [HP0.out]; omega))
            clear hpar
            go_wp2_with fail
            (go_at_call 32; ((with_reducible refine (degree_impl (.slice ao (n + 1) acap) rs n _ HvD.out HN.out (by omega)).mono ?_); rintro e w9 ⟨rfl, hb9⟩))
            have z9 := hb9.size
            have HrowR := Lib.hid (HrowD.out.below hb9)
            have HbelR := Lib.hid (HbelD.out.trans (hb9.mono (by omega)))
            have hz9 : w8.heap.size ≤ w9.heap.size := by omega
            clear HrowD HbelD card HvD hb9
            go_wp2_with (first | (go_at_call 33; ((with_reducible refine (scale_impl (d1, d2) 3212836864 _).mono ?_); rintro e w10 ⟨g1, g2, mg, rfl, hg1, hg2, rfl⟩)) | (at_builtin; go_must (refine wpList_pushV (.complex .f32 0 0) 8 HrowR.out infoC rfl rfl (by decide) rfl _ _ rfl Tryz.underlying25 Hl.out (by omega) rfl rfl rfl rfl rfl rfl ?_); intro v1 w1 hr1 hb1 hgw ho1))
            have HS := Lib.hid (show nc (g1, g2) = sqT (rs.map nc) k by rw [HSQ.out, ← HD.out]; exact Prod.ext hg1 hg2)
            go_roundw
            case rel => exact ⟨k + 1, ts ++ [(g1, g2)], by omega, by go_num, by rw [← cx_push]; exact hr1, by rw [List.map_append, Hts.out, square_succ, List.map_cons, List.map_nil, HS.out], HbelR.out.trans hb1⟩
            case measure => simp [intOf]; omega
          · have hp1 : (n : Int) % 2 = 0 := by omega
            have hp2 : Int.tmod (n : Int) 2 = 0 := by rw [Int.tmod_eq_emod_of_nonneg (by omega)]; omega
            have HSQ := Lib.hid (show sqT (rs.map nc) k = subC ((eeF (rs.map nc)).getD k (0, 0)) ((ooF (rs.map nc)).getD k (0, 0)) from if_neg (by rw [HP0.out]; omega))
            clear hpar
            go_wp2_with fail
            (go_at_call 32; ((with_reducible refine (degree_impl (.slice ao (n + 1) acap) rs n _ HvD.out HN.out (by omega)).mono ?_); rintro e w9 ⟨rfl, hb9⟩))
            have z9 := hb9.size
            have HrowR := Lib.hid (HrowD.out.below hb9)
            have HbelR := Lib.hid (HbelD.out.trans (hb9.mono (by omega)))
            have hz9 : w8.heap.size ≤ w9.heap.size := by omega
            clear HrowD HbelD card HvD hb9
            go_wp2_with (at_builtin; go_must (refine wpList_pushV (.complex .f32 0 0) 8 HrowR.out infoC rfl rfl (by decide) rfl _ _ rfl Tryz.underlying25 Hl.out (by omega) rfl rfl rfl rfl rfl rfl ?_); intro v1 w1 hr1 hb1 hgw ho1)
            have HS := Lib.hid (show nc (d1, d2) = sqT (rs.map nc) k by rw [HSQ.out, ← HD.out])
            go_roundw
            case rel => exact ⟨k + 1, ts ++ [(d1, d2)], by omega, by go_num, by rw [← cx_push]; exact hr1, by rw [List.map_append, Hts.out, square_succ, List.map_cons, List.map_nil, HS.out], HbelR.out.trans hb1⟩
            case measure => simp [intOf]; omega
        · have hkM : k = M := by omega
          have tne : ts ≠ [] := by intro h; rw [h] at tl; simp at tl; omega
          have Ht := Lib.hid (show polyF (ts.map nc) = (Q, true) by rw [hts, hkM, ← HM.out]; exact HQ.out)
          have HvR := Lib.hid (Hv8.out.below hbel)
          have CC9 := Lib.hid ((hbel.cell (p := ⟨w.heap.size + 1, 0, none⟩) (by simp only; omega)).trans CC8.out)
          have FC9 := Lib.hid (show wr.frozen? ⟨w.heap.size + 1, 0, none⟩ = false by rw [(bcell hbel).2 _ _ (by omega)]; exact FC8.out)
          have BX9 := Lib.hid (BX8.out.trans (hbel.mono (by omega)))
          have sw9 : w.heap.size + 2 ≤ w8.heap.size := by omega
          obtain ⟨ao3, cap3, rfl, _⟩ := hrow.rd.shape
          rw [cx_length, tl] at hrow ⊢
          have Hown := Lib.hid hrow.own
          have jm : ¬ ((k : Int) < (M : Int)) := by omega
          have k10 : k ≤ 10 := by omega
          clear hts hbel hrow hml HM HMx CC8 FC8 CA8 BX8 Hv8 hkM
          go_wp2_with fail
          (go_at_call 34; ((with_reducible refine (polyOf_impl _ ts _ w8.heap.size hsz Hown.out tne (by omega)).mono ?_)))
          rw [Ht.out]
          rintro e wp ⟨vp, us, rfl, hus, hop, hbp⟩
          have ul : us.length = n + 1 := by have := congrArg List.length hus; rw [List.length_map] at this; exact this.trans hq
          obtain ⟨uo, ucap, rfl, _⟩ := hop.rd.shape
          rw [cx_length, ul] at hop ⊢
          have HUS := Lib.hid hus
          have HUL := Lib.hid ul
          have HOP := Lib.hid hop
          have HVP := Lib.hid (HvR.out.below hbp)
          have carp := (hbp.cell (p := ⟨w.heap.size, 0, none⟩) (by simp only; omega)).trans car
          have ccp := (hbp.cell (p := ⟨w.heap.size + 1, 0, none⟩) (by simp only; omega)).trans CC9.out
          have fcp : wp.frozen? ⟨w.heap.size + 1, 0, none⟩ = false := by rw [(bcell hbp).2 _ _ (by omega)]; exact FC9.out
          have sp := hbp.size
          have BXP := Lib.hid (BX9.out.trans (hbp.mono (by omega)))
          clear hus hop hbp ul tl tne Ht Hown HvR CC9 FC9 BX9 car hq
          go_upto_region 15 with fail
          have bq : Below wp.heap.size wp (wp.alloc (.cells #[.slice uo (n + 1) ucap] 28)) := (Below.refl _ _).alloc (Nat.le_refl _) _
          have c11 : (wp.alloc (.cells #[.slice uo (n + 1) ucap] 28)).cell? ⟨wp.heap.size, 0, none⟩ = some (.slice uo (n + 1) ucap) := World.cell?_alloc_new wp #[.slice uo (n + 1) ucap] 28 0
          have zq : (wp.alloc (.cells #[.slice uo (n + 1) ucap] 28)).heap.size = wp.heap.size + 1 := by simp
          generalize (wp.alloc (.cells #[.slice uo (n + 1) ucap] 28)) = wq at *
          have caq := (bq.cell (p := ⟨w.heap.size, 0, none⟩) (by simp only; omega)).trans carp
          have CCQ := Lib.hid ((bq.cell (p := ⟨w.heap.size + 1, 0, none⟩) (by simp only; omega)).trans ccp)
          have FCQ := Lib.hid (show wq.frozen? ⟨w.heap.size + 1, 0, none⟩ = false by rw [(bcell bq).2 _ _ (by omega)]; exact fcp)
          have HOQ := Lib.hid (HOP.out.below bq)
          have HVQ := Lib.hid (HVP.out.below bq)
          have BXQ := Lib.hid (BXP.out.trans (bq.mono (by omega)))
          clear bq ccp fcp carp HOP HVP BXP
          go_cut [71] (fun v71 wx => v71 = .bool false ∧ Below wq.heap.size wq wx)
          case first =>
            go_region_held3 (fun w' => w'.cell? ⟨w.heap.size, 0, none⟩ = some (.slice ao (n + 1) acap) ∧ w'.cell? ⟨wp.heap.size, 0, none⟩ = some (.slice uo (n + 1) ucap)) (first | assumption | (refine keep2 hb7 ?_; assumption) | (refine keep2 hb7 ⟨?_, ?_⟩ <;> assumption) | (refine ⟨?_, ?_⟩ <;> assumption) | (refine ⟨?_, ?_⟩ <;> (refine (hb7.cell (World.block_lt_of_cell? _ _ ?_)).trans ?_ <;> assumption)))
              (first | (go_at_call 32; ((first | (with_reducible refine (degree_impl (.slice uo (n + 1) ucap) us n _ (HOQ.out.rd.below (by (repeat' (first | (with_reducible exact Below.refl _ _) | (with_reducible assumption) | (with_reducible refine Below.alloc ?_ ?_ _) | (with_reducible refine Below.setCell ?_ ?_ _) | (with_reducible refine Below.drew ?_) | (with_reducible refine Below.via (by assumption) ?_ ?_) | go_size)))) HUL.out (by omega)).mono ?_) | (with_reducible refine (degree_impl (.slice ao (n + 1) acap) rs n _ (HVQ.out.below (by (repeat' (first | (with_reducible exact Below.refl _ _) | (with_reducible assumption) | (with_reducible refine Below.alloc ?_ ?_ _) | (with_reducible refine Below.setCell ?_ ?_ _) | (with_reducible refine Below.drew ?_) | (with_reducible refine Below.via (by assumption) ?_ ?_) | go_size)))) HN.out (by omega)).mono ?_)); rintro e w7 ⟨rfl, hb7⟩; have z7 := hb7.size; (try simp only [World.size_drew] at z7))))
            all_goals (go_wp2_with fail)
            all_goals go_meet
            all_goals (exact ⟨rfl, by (repeat' (first | (with_reducible exact Below.refl _ _) | (with_reducible assumption) | (with_reducible refine Below.alloc ?_ ?_ _) | (with_reducible refine Below.setCell ?_ ?_ _) | (with_reducible refine Below.drew ?_) | (with_reducible refine Below.via (by assumption) ?_ ?_) | go_size))⟩)
          case rest =>
            obtain ⟨rfl, hbx⟩ := hcut
            have sx := hbx.size
            have c11x := (hbx.cell (p := ⟨wp.heap.size, 0, none⟩) (by simp only; omega)).trans c11
            have ccx := (hbx.cell (p := ⟨w.heap.size + 1, 0, none⟩) (by simp only; omega)).trans CCQ.out
            have fcx : wc.frozen? ⟨w.heap.size + 1, 0, none⟩ = false := by rw [(bcell hbx).2 _ _ (by omega)]; exact FCQ.out
            have HOX := Lib.hid (HOQ.out.below hbx)
            have BXX := Lib.hid (BXQ.out.trans (hbx.mono (by omega)))
            have zl : w.heap.size + 1 < wc.heap.size := by omega
            clear hbx
            go_step
            go_wp2_with fail
            have OF := (own_set (j := 0) HOX.out (show w.heap.size + 1 < w8.heap.size by omega) (.slice uo (n + 1) ucap)).mono (show w.heap.size ≤ w8.heap.size by omega)
            have RF := Lib.hid OF
            have BF := Lib.hid (BXX.out.setCell (p := ⟨w.heap.size + 1, 0, none⟩) (by simp only; omega) (.slice uo (n + 1) ucap))
            have cf := setCell_self ccx (.slice uo (n + 1) ucap)
            clear OF
            generalize wc.setCell ⟨w.heap.size + 1, 0, none⟩ (.slice uo (n + 1) ucap) = WF at *
            refine bodyPost_ret (by simp [results, Tryz.results8, go_sem, cf]; try rfl) rfl ?_
            exact ⟨_, us, rfl, HUS.out, RF.out, BF.out⟩
end Go.Proofs.YtfnhddaofllniaaGreat
