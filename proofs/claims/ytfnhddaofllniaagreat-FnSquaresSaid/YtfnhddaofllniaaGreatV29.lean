/- Squared roots, of the reference. Conditions: a polynomial with roots; what is narrowed fits float32. -/
import Derived.Test.YtfnhddaofllniaaGreatV27
namespace Go.Proofs.YtfnhddaofllniaaGreat
open Go Go.RowKit
set_option linter.unusedSimpArgs false
set_option linter.unusedVariables false

set_option maxRecDepth 100000 in
set_option maxHeartbeats 400000 in
theorem times3_spec (x : C2) (b : Nat) (w : World) : Calls Tryz.prog 79 #[.complex .f32 x.1 x.2, .float .f32 b] w (RetX (scaleC (nc x) (nrm .f32 b)) w) := by
  go_enter Tryz.func79, Tryz.ntmps79
  go_wp2_with (with_reducible refine wpList_fop rfl _ _ _ _ _ rfl rfl .f32 _ _ rfl rfl ?_; intro r mr hr)
  go_ret
  exact ⟨_, _, _, rfl, by simp only [scaleC, nc, *], by simp only [scaleC, nc, *], by first | rfl | (simp; rfl)⟩
set_option maxRecDepth 100000 in
set_option maxHeartbeats 8000000 in
theorem sq_spec (p : Nat) (v : Value) (rs : List C2) (n : Nat) (w : World) (hp : w.cell? ⟨p, 0, none⟩ = some v) (hv : RdV w v (cx rs)) (hn : rs.length = n + 1) (h1 : 1 ≤ n) (h2 : n ≤ 8) (Hs : RowKit.Hid (safeSquare (rs.map nc)))
    (Q : List C2) (HQ : RowKit.Hid (polyF (squareF (rs.map nc)) = (Q, true))) (hq : Q.length = n + 1) :
    Calls Tryz.prog 36 #[.pointer (some ⟨p, 0, none⟩)] w (RetP (Q, true) w.heap.size w) := by
  rcases hv.openC with ⟨rfl, _⟩ | ⟨b, off, acap, rfl, hb, hcp, hc⟩
  · simp at hn
  rw [hn] at hv hp
  have lp : p < w.heap.size := World.block_lt_of_cell? _ _ hp
  have Hc := Lib.hid (show ∀ i, i < rs.length → w.cell? ⟨b, off + i, none⟩ = some (.complex .f32 (rs.getD i (0, 0)).1 (rs.getD i (0, 0)).2) from fun i hi => by
    rw [hc i hi]; simp [List.getD, hi])
  have HP0 := Lib.hid (show (rs.map nc).length = n + 1 by rw [List.length_map]; exact hn)
  have HN := Lib.hid hn
  clear hc hcp hn hv
  go_enter Tryz.func36, Tryz.ntmps36
  go_upto_region 1 with fail
  have b1 : Below w.heap.size w (w.alloc (.cells #[.slice none 0 0] 28)) := (Below.refl _ _).alloc (Nat.le_refl _) _
  have cc1 : (w.alloc (.cells #[.slice none 0 0] 28)).cell? ⟨w.heap.size, 0, none⟩ = some (.slice none 0 0) := World.cell?_alloc_new w #[.slice none 0 0] 28 0
  have fc1 : (w.alloc (.cells #[.slice none 0 0] 28)).frozen? ⟨w.heap.size, 0, none⟩ = false := by go_simp; try rfl
  have z1 : (w.alloc (.cells #[.slice none 0 0] 28)).heap.size = w.heap.size + 1 := by simp
  have cp1 := (b1.cell (p := ⟨p, 0, none⟩) (by simp only; omega)).trans hp
  generalize (w.alloc (.cells #[.slice none 0 0] 28)) = W1 at *
  go_upto_region 4 with fail
  have r5 : RowV 32 (W1.alloc (.cells #[] 32)) (w.heap.size + 1) (.slice (some ⟨W1.heap.size, 0, none⟩) 0 0) [] := row_nil (by omega) _
  have r6 : RowV 32 ((W1.alloc (.cells #[] 32)).alloc (.cells #[] 32)) (w.heap.size + 1) (.slice (some ⟨(W1.alloc (.cells #[] 32)).heap.size, 0, none⟩) 0 0) [] := row_nil (by simp; omega) _
  have r5' := r5.below ((Below.refl _ _).alloc (Nat.le_refl _) (.cells #[] 32))
  have b3 : Below W1.heap.size W1 ((W1.alloc (.cells #[] 32)).alloc (.cells #[] 32)) := by (repeat' (first | (with_reducible exact Below.refl _ _) | (with_reducible assumption) | (with_reducible refine Below.alloc ?_ ?_ _) | (with_reducible refine Below.setCell ?_ ?_ _) | (with_reducible refine Below.drew ?_) | (with_reducible refine Below.via (by assumption) ?_ ?_) | go_size))
  have z3 : ((W1.alloc (.cells #[] 32)).alloc (.cells #[] 32)).heap.size = w.heap.size + 3 := by simp; omega
  rw [World.size_alloc, z1] at r6
  rw [z1] at r5'
  try rw [z1]
  have R5 := Lib.hid r5'
  have R6 := Lib.hid r6
  have BC := Lib.hid (b1.trans (b3.mono (by omega)))
  have CC3 := Lib.hid ((b3.cell (p := ⟨w.heap.size, 0, none⟩) (by simp only; omega)).trans cc1)
  have FC3 := Lib.hid (show ((W1.alloc (.cells #[] 32)).alloc (.cells #[] 32)).frozen? ⟨w.heap.size, 0, none⟩ = false by rw [(bcell b3).2 _ _ (by omega)]; exact fc1)
  generalize ((W1.alloc (.cells #[] 32)).alloc (.cells #[] 32)) = W3 at *
  clear r5 r5' r6 b1 b3 cc1 fc1
  have cp3 := (BC.out.cell (p := ⟨p, 0, none⟩) (by simp only; omega)).trans hp
  clear cp1
  go_wp2_with fail
  go_loopw [5, 6, 29] (fun av bv kv wr => ∃ (k g5 g6 : Nat) (es os : List C2), k ≤ n + 1 ∧ kv = .int .i64 (k : Int) ∧ RowV 32 wr (w.heap.size + 1) av (cx es) ∧ RowV 32 wr (w.heap.size + 1) bv (cx os) ∧ av.ownBlock = some g5 ∧ bv.ownBlock = some g6 ∧ g5 ≠ g6 ∧ es.map nc = (List.range ((k + 1) / 2)).map (fun j => (rs.map nc).getD (0 + 2 * j) (0, 0)) ∧ os.map nc = (List.range (k / 2)).map (fun j => (rs.map nc).getD (1 + 2 * j) (0, 0)) ∧ Below (w.heap.size + 1) W3 wr) (fun _ _ kv _ => n + 1 - (intOf kv).toNat)
  case atStart => exact ⟨0, w.heap.size + 1, w.heap.size + 2, [], [], Nat.zero_le _, rfl, R5.out, R6.out, rfl, rfl, by omega, rfl, rfl, Below.refl _ _⟩
  case round =>
    obtain ⟨k, g5, g6, es, os, hk, rfl, hr5, hr6, ho5, ho6, hne, hes, hos, hbel⟩ := hrel
    have hsz := hbel.size
    have hle : es.length = (k + 1) / 2 := by have := congrArg List.length hes; simpa using this
    have hlo : os.length = k / 2 := by have := congrArg List.length hos; simpa using this
    have l5 := hr5.lt _ ho5
    have l6 := hr6.lt _ ho6
    have cpr := (hbel.cell (p := ⟨p, 0, none⟩) (by simp only; omega)).trans cp3
    by_cases hlt : k < n + 1
    · have c1 := (hbel.cell (p := ⟨b, off + k, none⟩) (by simp only; omega)).trans ((BC.out.cell (p := ⟨b, off + k, none⟩) hb).trans (Hc.out k (by have := HN.out; omega)))
      have HX := Lib.hid (show (rs.map nc).getD k (0, 0) = nc (rs.getD k (0, 0)) from getD_nc rs k)
      generalize rs.getD k (0, 0) = X at *
      obtain ⟨x1, x2⟩ := X
      have HR5 := Lib.hid hr5
      have HR6 := Lib.hid hr6
      have HES := Lib.hid hes
      have HOS := Lib.hid hos
      have HBEL := Lib.hid hbel
      have HW5 := Lib.hid ho5
      have HW6 := Lib.hid ho6
      have j0 : (0 : Int) ≤ (k : Int) := by omega
      have j1 : (k : Int) < ((n + 1 : Nat) : Int) := by omega
      have j2 : (k : Int) < (n : Int) + 1 := by omega
      have HXk := HX
      by_cases hpar : k % 2 = 0
      · have hp1 : (k : Int) % 2 = 0 := by omega
        have hp2 : Int.tmod (k : Int) 2 = 0 := by rw [Int.tmod_eq_emod_of_nonneg (by omega)]; omega
        have Hl := Lib.hid (show (cx es).length ≤ 1099511627776 by rw [cx_length]; omega)
        clear hpar hes hos hr5 hr6 hbel ho5 ho6 hle hlo
        go_wp2_with (at_builtin; go_must (refine wpList_pushV (.complex .f32 0 0) 8 HR5.out infoC rfl rfl (by decide) rfl _ _ rfl Tryz.underlying25 Hl.out (by omega) rfl rfl rfl rfl rfl rfl ?_); intro v1 w1 hr1 hb1 hgw ho1)
        have HB1 := Lib.hid (HBEL.out.trans hb1)
        have HN1 := Lib.hid hr1
        have HO1 := Lib.hid (HR6.out.kept hgw (.inr (by rw [HW5.out, HW6.out]; simp; omega)))
        obtain ⟨g1, hg1, hg1n⟩ : ∃ g1, v1.ownBlock = some g1 ∧ g1 ≠ g6 := by
          rcases ho1 with h | ⟨g, h, h2⟩
          · exact ⟨g5, h.trans HW5.out, by omega⟩
          · exact ⟨g, h, by omega⟩
        clear hr1 hb1 hgw ho1
        go_roundw
        case rel => exact ⟨k + 1, g1, g6, es ++ [(x1, x2)], os, by omega, by go_num, by rw [← cx_push]; exact HN1.out, HO1.out, hg1, HW6.out, hg1n, by rw [List.map_append, HES.out, List.map_cons, List.map_nil, ← HX.out, show (k + 1 + 1) / 2 = (k + 1) / 2 + 1 by omega, List.range_succ, List.map_append, List.map_cons, List.map_nil, show 0 + 2 * ((k + 1) / 2) = k by omega], by rw [HOS.out, show (k + 1) / 2 = k / 2 by omega], HB1.out⟩
        case measure => simp [intOf]; omega
      · have hp1 : (k : Int) % 2 = 1 := by omega
        have hp2 : Int.tmod (k : Int) 2 = 1 := by rw [Int.tmod_eq_emod_of_nonneg (by omega)]; omega
        have Hl := Lib.hid (show (cx os).length ≤ 1099511627776 by rw [cx_length]; omega)
        clear hpar hes hos hr5 hr6 hbel ho5 ho6 hle hlo
        go_wp2_with (at_builtin; go_must (refine wpList_pushV (.complex .f32 0 0) 8 HR6.out infoC rfl rfl (by decide) rfl _ _ rfl Tryz.underlying25 Hl.out (by omega) rfl rfl rfl rfl rfl rfl ?_); intro v1 w1 hr1 hb1 hgw ho1)
        have HB1 := Lib.hid (HBEL.out.trans hb1)
        have HN1 := Lib.hid hr1
        have HO1 := Lib.hid (HR5.out.kept hgw (.inr (by rw [HW5.out, HW6.out]; simp; omega)))
        obtain ⟨g1, hg1, hg1n⟩ : ∃ g1, v1.ownBlock = some g1 ∧ g1 ≠ g5 := by
          rcases ho1 with h | ⟨g, h, h2⟩
          · exact ⟨g6, h.trans HW6.out, by omega⟩
          · exact ⟨g, h, by omega⟩
        clear hr1 hb1 hgw ho1
        go_roundw
        case rel => exact ⟨k + 1, g5, g1, es, os ++ [(x1, x2)], by omega, by go_num, HO1.out, by rw [← cx_push]; exact HN1.out, HW5.out, hg1, Ne.symm hg1n, by rw [HES.out, show (k + 1 + 1) / 2 = (k + 1) / 2 by omega], by rw [List.map_append, HOS.out, List.map_cons, List.map_nil, ← HX.out, show (k + 1) / 2 = k / 2 + 1 by omega, List.range_succ, List.map_append, List.map_cons, List.map_nil, show 1 + 2 * (k / 2) = k by omega], HB1.out⟩
        case measure => simp [intOf]; omega
    · obtain rfl : k = n + 1 := by omega
      have E5 : es.map nc = evF (rs.map nc) 0 := by rw [hes]; unfold evF; rw [HP0.out]; rfl
      have E6 : os.map nc = evF (rs.map nc) 1 := by rw [hos]; unfold evF; rw [HP0.out]; rfl
      have n5 : cx es ≠ [] := by rw [← List.length_pos_iff, cx_length]; omega
      have n6 : cx os ≠ [] := by rw [← List.length_pos_iff, cx_length]; omega
      have m5 : es ≠ [] := by rw [← List.length_pos_iff]; omega
      have m6 : os ≠ [] := by rw [← List.length_pos_iff]; omega
      obtain ⟨q5, c5, rfl, _, _, f5, f5b, _, _⟩ := hr5.own.open n5
      obtain ⟨q6, c6, rfl, _, _, f6, f6b, _, _⟩ := hr6.own.open n6
      rw [cx_length] at hr5 hr6 f5 f6 ⊢
      rw [cx_length]
      have R5 := Lib.hid hr5.rd
      have R6 := Lib.hid hr6.rd
      have lE0 : 1 ≤ trimN (es.map nc) es.length ∧ trimN (es.map nc) es.length ≤ es.length := ⟨trimN_pos _ (by omega), trimN_le _ _⟩
      have lO0 : 1 ≤ trimN (os.map nc) os.length ∧ trimN (os.map nc) os.length ≤ os.length := ⟨trimN_pos _ (by omega), trimN_le _ _⟩
      have CC4 := Lib.hid ((hbel.cell (p := ⟨w.heap.size, 0, none⟩) (by simp only; omega)).trans CC3.out)
      have FC4 := Lib.hid (show wr.frozen? ⟨w.heap.size, 0, none⟩ = false by rw [hbel.frozen (p := ⟨w.heap.size, 0, none⟩) (by simp only; omega)]; exact FC3.out)
      have BX := Lib.hid (BC.out.trans (hbel.mono (by omega)))
      have jn : ¬ (((n + 1 : Nat) : Int) < (n : Int) + 1) := by omega
      have HES := Lib.hid (show (es.take (trimN (es.map nc) es.length)).map nc = trimF (evF (rs.map nc) 0) by rw [trimF_map, E5])
      have HOS := Lib.hid (show (os.take (trimN (os.map nc) os.length)).map nc = trimF (evF (rs.map nc) 1) by rw [trimF_map, E6])
      have RE := Lib.hid (show RdV wr (.slice (some ⟨q5, 0, none⟩) (trimN (es.map nc) es.length) c5) (cx (es.take (trimN (es.map nc) es.length))) by rw [cx_takes]; exact R5.out.take (by rw [cx_length]; exact lE0.2) (by omega) (by omega))
      have RO := Lib.hid (show RdV wr (.slice (some ⟨q6, 0, none⟩) (trimN (os.map nc) os.length) c6) (cx (os.take (trimN (os.map nc) os.length))) by rw [cx_takes]; exact R6.out.take (by rw [cx_length]; exact lO0.2) (by omega) (by omega))
      have TE := Lib.hid (trim_spec q5 0 c5 es wr R5.out m5 (by omega))
      have TO := Lib.hid (trim_spec q6 0 c6 os wr R6.out m6 (by omega))
      have lt5 : (es.take (trimN (es.map nc) es.length)).length = trimN (es.map nc) es.length := by simp; omega
      have lt6 : (os.take (trimN (os.map nc) os.length)).length = trimN (os.map nc) os.length := by simp; omega
      have zw : w.heap.size + 3 ≤ wr.heap.size := by omega
      have les : es.length ≤ 5 := by omega
      have los : os.length ≤ 5 := by omega
      clear hes hos hr5 hr6 ho5 ho6 hbel E5 E6 n5 n6 m5 m6 R5 R6 CC3 FC3 BC cp3 cpr l5 l6 hne hk hlt hle hlo
      generalize trimN (es.map nc) es.length = te at *
      generalize trimN (os.map nc) os.length = tq at *
      go_upto_region 13 with (first
        | (go_at_call 72; ((with_reducible refine (TE.out).mono ?_); rintro e w4 ⟨rfl, rfl⟩))
        | (go_at_call 72; ((with_reducible refine (TO.out).mono ?_); rintro e w4 ⟨rfl, rfl⟩)))
      clear TE TO
      generalize es.take te = es at *
      generalize os.take tq = os at *
      obtain ⟨w0, hw0⟩ : ∃ w0, w0 = wr := ⟨wr, rfl⟩
      subst hw0
      have lE : 1 ≤ es.length ∧ es.length ≤ 5 := by omega
      have lO : 1 ≤ os.length ∧ os.length ≤ 5 := by omega
      have SE := Lib.hid (show safeProd (es.map nc) (es.map nc) by rw [HES.out]; exact Hs.out.1)
      have SO := Lib.hid (show safeProd (os.map nc) (os.map nc) by rw [HOS.out]; exact Hs.out.2)
      have PE := Lib.hid (show prodF (es.map nc) (es.map nc) = eeF (rs.map nc) by rw [HES.out]; rfl)
      have PO := Lib.hid (show (0, 0) :: prodF (os.map nc) (os.map nc) = ooF (rs.map nc) by rw [HOS.out]; rfl)
      have LE' := Lib.hid (show (eeF (rs.map nc)).length = 2 * es.length - 1 by rw [← PE.out, prodF_length, List.length_map]; omega)
      have LO' := Lib.hid (show (ooF (rs.map nc)).length = 2 * os.length by rw [← PO.out, List.length_cons, prodF_length, List.length_map]; omega)
      have HRE := Lib.hid RE.out
      have HRO := Lib.hid RO.out
      clear RE RO HES HOS Hs lt5 lt6
      go_wp2_with fail
      (go_at_call 78; ((with_reducible refine (mulL_spec _ _ es es _ HRE.out HRE.out lE.1 (by omega) lE.1 (by omega) SE _ PE).mono ?_); rintro e w5 ⟨v6, qe, rfl, hqe, ho5, hb5⟩))
      have s5 := hb5.size
      have HQE := Lib.hid hqe
      have HO5 := Lib.hid ho5
      have HB5 := Lib.hid hb5
      clear hqe ho5 hb5
      go_wp2_with fail
      have hr0 : RowV 32 (w5.alloc (.cells #[.complex .f32 0 0] 32)) w5.heap.size (.slice (some ⟨w5.heap.size, 0, none⟩) 1 1) (cx [(0, 0)]) := row_one rfl (Nat.le_refl _) _ _
      have b6 : Below w5.heap.size w5 (w5.alloc (.cells #[.complex .f32 0 0] 32)) := (Below.refl _ _).alloc (Nat.le_refl _) _
      have z6 : (w5.alloc (.cells #[.complex .f32 0 0] 32)).heap.size = w5.heap.size + 1 := by simp
      generalize w5.alloc (.cells #[.complex .f32 0 0] 32) = w6 at *
      have HR0 := Lib.hid hr0
      have HB6 := Lib.hid b6
      clear hr0 b6
      (go_at_call 78; ((with_reducible refine (mulL_spec _ _ os os _ (HRO.out.below (HB5.out.trans (HB6.out.mono s5))) (HRO.out.below (HB5.out.trans (HB6.out.mono s5))) lO.1 (by omega) lO.1 (by omega) SO _ (Lib.hid rfl)).mono ?_); rintro e w7 ⟨v7, qo, rfl, hqo, ho7, hb7⟩))
      have s7 := hb7.size
      have HQO := Lib.hid hqo
      have HO7 := Lib.hid ho7.rd
      have HR7 := Lib.hid (HR0.out.below hb7)
      have HB7 := Lib.hid (HB5.out.trans ((HB6.out.trans (hb7.mono (by omega))).mono s5))
      have lqe : qe.length = 2 * es.length - 1 := by have := congrArg List.length HQE.out; rw [List.length_map, LE'.out] at this; exact this
      have lqo : qo.length = 2 * os.length - 1 := by have := congrArg List.length hqo; rw [List.length_map, prodF_length, List.length_map] at this; omega
      have HLq := Lib.hid (show (cx qo).length ≤ 1099511627776 by rw [cx_length]; omega)
      have HNq := Lib.hid (show cx qo ≠ [] by rw [← List.length_pos_iff, cx_length]; omega)
      have HV6 := Lib.hid (show ∀ wx, Below w5.heap.size w5 wx → RdV wx v6 (cx qe) from fun wx hb => HO5.out.rd.below hb)
      have HB57 := Lib.hid (show Below w5.heap.size w5 w7 from HB6.out.trans (hb7.mono (by omega)))
      clear hqo ho7 hb7 HR0 HB6
      obtain ⟨eo, ecap, rfl, _⟩ := HO5.out.rd.shape
      obtain ⟨la, hla⟩ : ∃ la, qe.length = la := ⟨_, rfl⟩
      obtain ⟨lb, hlb⟩ : ∃ lb, (cx [(0, 0)]).length + (cx qo).length = lb := ⟨_, rfl⟩
      have hlb2 : lb = 2 * os.length := by rw [← hlb, cx_length, cx_length]; simp; omega
      obtain ⟨M, hM⟩ : ∃ M : Nat, max la lb = M := ⟨_, rfl⟩
      have M17 : M ≤ 10 := by omega
      have HMx := Lib.hid hM
      have M0 : 1 ≤ M := by omega
      have la10 : la ≤ 10 := by omega
      have lb10 : lb ≤ 10 := by omega
      have HM := Lib.hid (show squareF (rs.map nc) = (List.range M).map (sqT (rs.map nc)) by unfold squareF; rw [LE'.out, LO'.out, ← hM, ← hla, lqe, hlb2])
      have HLA := Lib.hid hla
      have HLB := Lib.hid hlb
      rw [cx_length, hla] at HV6 ⊢
      clear hla hlb hlb2 hM HO5 lqe lqo
      by_cases hml : la < lb
      · go_wp2_with (at_builtin; go_must (refine wpList_appV (.complex .f32 0 0) 8 HR7.out HO7.out HNq.out infoC rfl (cx_one qo) (by decide) rfl _ _ rfl Tryz.underlying25 (by simp) HLq.out (by omega) rfl rfl ?_); intro og ocap w8 hr8 hb8 hl8; rw [HLB.out] at hr8 ⊢)
        rw [show (lb : Int) = (M : Int) by have := HMx.out; omega]
        have s8 := hb8.size
        have HV6b := Lib.hid (HV6.out _ (HB57.out.trans hb8))
        have HV7 := Lib.hid (show RdV w8 (.slice (some ⟨og, 0, none⟩) lb ocap) (cx ((0, 0) :: qo)) from by
          have h := hr8.rd
          rw [← show cx ((0, 0) :: qo) = cx [(0, 0)] ++ cx qo from rfl] at h
          exact h)
        have BW := Lib.hid (show Below w0.heap.size w0 w8 from HB7.out.trans (hb8.mono s5))
        have CC8 := Lib.hid ((BW.out.cell (p := ⟨w.heap.size, 0, none⟩) (by simp only; omega)).trans CC4.out)
        have FC8 := Lib.hid (show w8.frozen? ⟨w.heap.size, 0, none⟩ = false by rw [(bcell BW.out).2 _ _ (by omega)]; exact FC4.out)
        have BX8 := Lib.hid (BX.out.trans (BW.out.mono (by omega)))
        clear hr8 hb8 HV6 HB57 HB7 CC4 FC4 BX BW HRE HRO SE SO PE LE' LO' HO7 HR7
        go_loopw [11, 12] (fun ov kv wr => ∃ (k : Nat) (ts : List C2), k ≤ M ∧ kv = .int .i64 k ∧ RowV 32 wr w8.heap.size ov (cx ts) ∧ ts.map nc = (List.range k).map (sqT (rs.map nc)) ∧ Below w8.heap.size w8 wr) (fun _ kv _ => M - (intOf kv).toNat)
        case atStart => exact ⟨0, [], Nat.zero_le _, rfl, row_nil (Nat.le_refl _) _, rfl, by (repeat' (first | (with_reducible exact Below.refl _ _) | (with_reducible assumption) | (with_reducible refine Below.alloc ?_ ?_ _) | (with_reducible refine Below.setCell ?_ ?_ _) | (with_reducible refine Below.drew ?_) | (with_reducible refine Below.via (by assumption) ?_ ?_) | go_size))⟩
        case round =>
          obtain ⟨k, ts, hk, rfl, hrow, hts, hbel⟩ := hrel
          have hsz := hbel.size
          have tl : ts.length = k := by have := congrArg List.length hts; simpa using this
          by_cases hlt : k < M
          · have T1 := Lib.hid (fun m => termN_spec (.slice eo la ecap) qe k (wr.drewN m) (HV6b.out.below (below_drewN hbel _)) (by have := HLA.out; omega) (by omega))
            have T2 := Lib.hid (fun m => termN_spec (.slice (some ⟨og, 0, none⟩) lb ocap) ((0, 0) :: qo) k (wr.drewN m) (HV7.out.below (below_drewN hbel _)) (by have := HLB.out; simp at this ⊢; omega) (by omega))
            have EA := Lib.hid (show nc (qe.getD k (0, 0)) = (eeF (rs.map nc)).getD k (0, 0) by rw [← HQE.out, getD_nc])
            have EB := Lib.hid (show nc (((0, 0) :: qo).getD k (0, 0)) = (ooF (rs.map nc)).getD k (0, 0) by rw [← PO.out, ← HQO.out, ← getD_nc]; rfl)
            have Hrow := Lib.hid hrow
            have Hl := Lib.hid (show (cx ts).length ≤ 1099511627776 by simp; omega)
            have Hts := Lib.hid hts
            have Hbel := Lib.hid hbel
            have j2 : (0 : Int) ≤ (k : Int) := by omega
            have j3 : (k : Int) < (M : Int) := by omega
            clear hrow hts hbel tl
            generalize qe.getD k (0, 0) = A at *
            generalize ((0, 0) :: qo).getD k (0, 0) = B at *
            obtain ⟨a1, a2⟩ := A
            obtain ⟨b1, b2⟩ := B
            have t1 := T1.out 0
            have t2 := T2.out 0
            rw [World.drewN_zero] at t1 t2
            have T1' := Lib.hid t1
            have T2' := Lib.hid t2
            clear t1 t2 T1 T2
            go_upto_region 21 with (first
              | (go_at_call 73; ((with_reducible refine (T1'.out).mono ?_); rintro e w9 ⟨rfl, rfl⟩))
              | (go_at_call 73; ((with_reducible refine (T2'.out).mono ?_); rintro e w9 ⟨rfl, rfl⟩))
              | (with_reducible refine wpList_cadd rfl .sub (.inr rfl) _ _ _ _ rfl _ _ _ _ rfl rfl ?_; intro d1 d2 md hd1 hd2))
            have HD := Lib.hid (show nc (d1, d2) = subC ((eeF (rs.map nc)).getD k (0, 0)) ((ooF (rs.map nc)).getD k (0, 0)) by rw [← EA.out, ← EB.out]; exact Prod.ext hd1 hd2)
            have bd : Below wr.heap.size wr (wr.drewN md) := below_drewN (Below.refl _ _) _
            have HbelR := Lib.hid (Hbel.out.trans (bd.mono hsz))
            have HrowR := Lib.hid (Hrow.out.below bd)
            have sd : w8.heap.size ≤ (wr.drewN md).heap.size := by simp; omega
            clear hd1 hd2 bd Hrow Hbel EA EB T1' T2'
            generalize wr.drewN md = wd at *
            by_cases hpar : n % 2 = 1
            · have hp1 : (n : Int) % 2 = 1 := by omega
              have hp2 : Int.tmod (n : Int) 2 = 1 := by rw [Int.tmod_eq_emod_of_nonneg (by omega)]; omega
              have HSQ := Lib.hid (show sqT (rs.map nc) k = scaleC (subC ((eeF (rs.map nc)).getD k (0, 0)) ((ooF (rs.map nc)).getD k (0, 0))) (nrm .f32 3212836864) from if_pos (by rw [HP0.out]; omega))
              clear hpar
              go_wp2_with (first | (go_at_call 79; ((with_reducible refine (times3_spec (d1, d2) 3212836864 _).mono ?_); rintro e w10 ⟨g1, g2, mg, rfl, hg1, hg2, rfl⟩)) | (at_builtin; go_must (refine wpList_pushV (.complex .f32 0 0) 8 HrowR.out infoC rfl rfl (by decide) rfl _ _ rfl Tryz.underlying25 Hl.out (by omega) rfl rfl rfl rfl rfl rfl ?_); intro v1 w1 hr1 hb1 hgw ho1))
              have HS := Lib.hid (show nc (g1, g2) = sqT (rs.map nc) k by rw [HSQ.out, ← HD.out]; exact Prod.ext hg1 hg2)
              go_roundw
              case rel => exact ⟨k + 1, ts ++ [(g1, g2)], by omega, by go_num, by rw [← cx_push]; exact hr1, by rw [List.map_append, Hts.out, square_succ, List.map_cons, List.map_nil, HS.out], HbelR.out.trans hb1⟩
              case measure => simp [intOf]; omega
            · have hp1 : (n : Int) % 2 = 0 := by omega
              have hp2 : Int.tmod (n : Int) 2 = 0 := by rw [Int.tmod_eq_emod_of_nonneg (by omega)]; omega
              have HSQ := Lib.hid (show sqT (rs.map nc) k = subC ((eeF (rs.map nc)).getD k (0, 0)) ((ooF (rs.map nc)).getD k (0, 0)) from if_neg (by rw [HP0.out]; omega))
              clear hpar
              go_wp2_with (first | (at_builtin; go_must (refine wpList_pushV (.complex .f32 0 0) 8 HrowR.out infoC rfl rfl (by decide) rfl _ _ rfl Tryz.underlying25 Hl.out (by omega) rfl rfl rfl rfl rfl rfl ?_); intro v1 w1 hr1 hb1 hgw ho1))
              have HS := Lib.hid (show nc (d1, d2) = sqT (rs.map nc) k by rw [HSQ.out, ← HD.out])
              go_roundw
              case rel => exact ⟨k + 1, ts ++ [(d1, d2)], by omega, by go_num, by rw [← cx_push]; exact hr1, by rw [List.map_append, Hts.out, square_succ, List.map_cons, List.map_nil, HS.out], HbelR.out.trans hb1⟩
              case measure => simp [intOf]; omega
          · have hkM : k = M := by omega
            have tne : ts ≠ [] := by intro h; rw [h] at tl; simp at tl; omega
            have Ht := Lib.hid (show polyF (ts.map nc) = (Q, true) by rw [hts, hkM, ← HM.out]; exact HQ.out)
            have CC9 := Lib.hid ((hbel.cell (p := ⟨w.heap.size, 0, none⟩) (by simp only; omega)).trans CC8.out)
            have FC9 := Lib.hid (show wr.frozen? ⟨w.heap.size, 0, none⟩ = false by rw [(bcell hbel).2 _ _ (by omega)]; exact FC8.out)
            have BX9 := Lib.hid (BX8.out.trans (hbel.mono (by omega)))
            have sw9 : w.heap.size + 1 ≤ w8.heap.size := by omega
            obtain ⟨ao3, cap3, rfl, _⟩ := hrow.rd.shape
            rw [cx_length, tl] at hrow ⊢
            have Hrd := Lib.hid hrow.rd
            have jm : ¬ ((k : Int) < (M : Int)) := by omega
            have k10 : k ≤ 10 := by omega
            clear hts hbel hrow hml HM HMx CC8 FC8 BX8 hkM
            go_wp2_with fail
            (go_at_call 25; ((with_reducible refine (give_spec _ ts _ Hrd.out tne (by omega)).mono ?_)))
            rw [Ht.out]
            rintro e wp ⟨vp, us, rfl, hus, hop, hbp⟩
            have ul : us.length = n + 1 := by have := congrArg List.length hus; rw [List.length_map] at this; exact this.trans hq
            obtain ⟨uo, ucap, rfl, _⟩ := hop.rd.shape
            rw [cx_length, ul] at hop ⊢
            have HUS := Lib.hid hus
            have HUL := Lib.hid ul
            have HOP := Lib.hid hop
            have ccp := (hbp.cell (p := ⟨w.heap.size, 0, none⟩) (by simp only; omega)).trans CC9.out
            have fcp : wp.frozen? ⟨w.heap.size, 0, none⟩ = false := by rw [(bcell hbp).2 _ _ (by omega)]; exact FC9.out
            have sp := hbp.size
            have BXP := Lib.hid (BX9.out.trans (hbp.mono (by omega)))
            clear hus hop hbp ul tl tne Ht Hrd CC9 FC9 BX9 hq
            go_upto_region 25 with fail
            have bq : Below wp.heap.size wp (wp.alloc (.cells #[.slice uo (n + 1) ucap] 28)) := (Below.refl _ _).alloc (Nat.le_refl _) _
            have c14 : (wp.alloc (.cells #[.slice uo (n + 1) ucap] 28)).cell? ⟨wp.heap.size, 0, none⟩ = some (.slice uo (n + 1) ucap) := World.cell?_alloc_new wp #[.slice uo (n + 1) ucap] 28 0
            have zq : (wp.alloc (.cells #[.slice uo (n + 1) ucap] 28)).heap.size = wp.heap.size + 1 := by simp
            generalize (wp.alloc (.cells #[.slice uo (n + 1) ucap] 28)) = wq at *
            have ccq := (bq.cell (p := ⟨w.heap.size, 0, none⟩) (by simp only; omega)).trans ccp
            have fcq : wq.frozen? ⟨w.heap.size, 0, none⟩ = false := by rw [(bcell bq).2 _ _ (by omega)]; exact fcp
            have HOQ := Lib.hid (HOP.out.below bq)
            have BXQ := Lib.hid (BXP.out.trans (bq.mono (by omega)))
            clear bq ccp fcp HOP BXP
            have nq : wp.heap.size ≠ w.heap.size := by omega
            have zl : w.heap.size < wq.heap.size := by omega
            go_region_held3 (fun w' => w'.cell? ⟨wp.heap.size, 0, none⟩ = some (.slice uo (n + 1) ucap)) (first | assumption | exact (cellZ (w := wq) nq).trans c14) (first | fail)
            all_goals (go_wp2_with fail)
            have hw : IntKind.i64.wrap ((n : Int) + 1) = (n : Int) + 1 := IntWalk.i64_in _ ⟨by omega, by omega⟩
            rw [hw, beq_self_eq_true]
            have OF := (own_set (j := 0) HOQ.out (show w.heap.size < wr.heap.size by omega) (.slice uo (n + 1) ucap)).mono (show w.heap.size ≤ wr.heap.size by omega)
            have RF := Lib.hid OF
            have BF := Lib.hid (show Below w.heap.size w (wq.setCell ⟨w.heap.size, 0, none⟩ (.slice uo (n + 1) ucap)).drew by rw [World.drew_is_drewN]; exact below_drewN (BXQ.out.setCell (p := ⟨w.heap.size, 0, none⟩) (by simp only; omega) (.slice uo (n + 1) ucap)) 1)
            have cf := setCell_self ccq (.slice uo (n + 1) ucap)
            clear OF
            generalize wq.setCell ⟨w.heap.size, 0, none⟩ (.slice uo (n + 1) ucap) = WF at *
            refine bodyPost_ret (by simp [results, Tryz.results36, go_sem, cf]; try rfl) rfl ?_
            exact ⟨_, us, rfl, HUS.out, RF.out, BF.out⟩
      · go_wp2_with (at_builtin; go_must (refine wpList_appV (.complex .f32 0 0) 8 HR7.out HO7.out HNq.out infoC rfl (cx_one qo) (by decide) rfl _ _ rfl Tryz.underlying25 (by simp) HLq.out (by omega) rfl rfl ?_); intro og ocap w8 hr8 hb8 hl8; rw [HLB.out] at hr8 ⊢)
        rw [show (la : Int) = (M : Int) by have := HMx.out; omega]
        have s8 := hb8.size
        have HV6b := Lib.hid (HV6.out _ (HB57.out.trans hb8))
        have HV7 := Lib.hid (show RdV w8 (.slice (some ⟨og, 0, none⟩) lb ocap) (cx ((0, 0) :: qo)) from by
          have h := hr8.rd
          rw [← show cx ((0, 0) :: qo) = cx [(0, 0)] ++ cx qo from rfl] at h
          exact h)
        have BW := Lib.hid (show Below w0.heap.size w0 w8 from HB7.out.trans (hb8.mono s5))
        have CC8 := Lib.hid ((BW.out.cell (p := ⟨w.heap.size, 0, none⟩) (by simp only; omega)).trans CC4.out)
        have FC8 := Lib.hid (show w8.frozen? ⟨w.heap.size, 0, none⟩ = false by rw [(bcell BW.out).2 _ _ (by omega)]; exact FC4.out)
        have BX8 := Lib.hid (BX.out.trans (BW.out.mono (by omega)))
        clear hr8 hb8 HV6 HB57 HB7 CC4 FC4 BX BW HRE HRO SE SO PE LE' LO' HO7 HR7
        go_loopw [11, 12] (fun ov kv wr => ∃ (k : Nat) (ts : List C2), k ≤ M ∧ kv = .int .i64 k ∧ RowV 32 wr w8.heap.size ov (cx ts) ∧ ts.map nc = (List.range k).map (sqT (rs.map nc)) ∧ Below w8.heap.size w8 wr) (fun _ kv _ => M - (intOf kv).toNat)
        case atStart => exact ⟨0, [], Nat.zero_le _, rfl, row_nil (Nat.le_refl _) _, rfl, by (repeat' (first | (with_reducible exact Below.refl _ _) | (with_reducible assumption) | (with_reducible refine Below.alloc ?_ ?_ _) | (with_reducible refine Below.setCell ?_ ?_ _) | (with_reducible refine Below.drew ?_) | (with_reducible refine Below.via (by assumption) ?_ ?_) | go_size))⟩
        case round =>
          obtain ⟨k, ts, hk, rfl, hrow, hts, hbel⟩ := hrel
          have hsz := hbel.size
          have tl : ts.length = k := by have := congrArg List.length hts; simpa using this
          by_cases hlt : k < M
          · have T1 := Lib.hid (fun m => termN_spec (.slice eo la ecap) qe k (wr.drewN m) (HV6b.out.below (below_drewN hbel _)) (by have := HLA.out; omega) (by omega))
            have T2 := Lib.hid (fun m => termN_spec (.slice (some ⟨og, 0, none⟩) lb ocap) ((0, 0) :: qo) k (wr.drewN m) (HV7.out.below (below_drewN hbel _)) (by have := HLB.out; simp at this ⊢; omega) (by omega))
            have EA := Lib.hid (show nc (qe.getD k (0, 0)) = (eeF (rs.map nc)).getD k (0, 0) by rw [← HQE.out, getD_nc])
            have EB := Lib.hid (show nc (((0, 0) :: qo).getD k (0, 0)) = (ooF (rs.map nc)).getD k (0, 0) by rw [← PO.out, ← HQO.out, ← getD_nc]; rfl)
            have Hrow := Lib.hid hrow
            have Hl := Lib.hid (show (cx ts).length ≤ 1099511627776 by simp; omega)
            have Hts := Lib.hid hts
            have Hbel := Lib.hid hbel
            have j2 : (0 : Int) ≤ (k : Int) := by omega
            have j3 : (k : Int) < (M : Int) := by omega
            clear hrow hts hbel tl
            generalize qe.getD k (0, 0) = A at *
            generalize ((0, 0) :: qo).getD k (0, 0) = B at *
            obtain ⟨a1, a2⟩ := A
            obtain ⟨b1, b2⟩ := B
            have t1 := T1.out 0
            have t2 := T2.out 0
            rw [World.drewN_zero] at t1 t2
            have T1' := Lib.hid t1
            have T2' := Lib.hid t2
            clear t1 t2 T1 T2
            go_upto_region 21 with (first
              | (go_at_call 73; ((with_reducible refine (T1'.out).mono ?_); rintro e w9 ⟨rfl, rfl⟩))
              | (go_at_call 73; ((with_reducible refine (T2'.out).mono ?_); rintro e w9 ⟨rfl, rfl⟩))
              | (with_reducible refine wpList_cadd rfl .sub (.inr rfl) _ _ _ _ rfl _ _ _ _ rfl rfl ?_; intro d1 d2 md hd1 hd2))
            have HD := Lib.hid (show nc (d1, d2) = subC ((eeF (rs.map nc)).getD k (0, 0)) ((ooF (rs.map nc)).getD k (0, 0)) by rw [← EA.out, ← EB.out]; exact Prod.ext hd1 hd2)
            have bd : Below wr.heap.size wr (wr.drewN md) := below_drewN (Below.refl _ _) _
            have HbelR := Lib.hid (Hbel.out.trans (bd.mono hsz))
            have HrowR := Lib.hid (Hrow.out.below bd)
            have sd : w8.heap.size ≤ (wr.drewN md).heap.size := by simp; omega
            clear hd1 hd2 bd Hrow Hbel EA EB T1' T2'
            generalize wr.drewN md = wd at *
            by_cases hpar : n % 2 = 1
            · have hp1 : (n : Int) % 2 = 1 := by omega
              have hp2 : Int.tmod (n : Int) 2 = 1 := by rw [Int.tmod_eq_emod_of_nonneg (by omega)]; omega
              have HSQ := Lib.hid (show sqT (rs.map nc) k = scaleC (subC ((eeF (rs.map nc)).getD k (0, 0)) ((ooF (rs.map nc)).getD k (0, 0))) (nrm .f32 3212836864) from if_pos (by rw [HP0.out]; omega))
              clear hpar
              go_wp2_with (first | (go_at_call 79; ((with_reducible refine (times3_spec (d1, d2) 3212836864 _).mono ?_); rintro e w10 ⟨g1, g2, mg, rfl, hg1, hg2, rfl⟩)) | (at_builtin; go_must (refine wpList_pushV (.complex .f32 0 0) 8 HrowR.out infoC rfl rfl (by decide) rfl _ _ rfl Tryz.underlying25 Hl.out (by omega) rfl rfl rfl rfl rfl rfl ?_); intro v1 w1 hr1 hb1 hgw ho1))
              have HS := Lib.hid (show nc (g1, g2) = sqT (rs.map nc) k by rw [HSQ.out, ← HD.out]; exact Prod.ext hg1 hg2)
              go_roundw
              case rel => exact ⟨k + 1, ts ++ [(g1, g2)], by omega, by go_num, by rw [← cx_push]; exact hr1, by rw [List.map_append, Hts.out, square_succ, List.map_cons, List.map_nil, HS.out], HbelR.out.trans hb1⟩
              case measure => simp [intOf]; omega
            · have hp1 : (n : Int) % 2 = 0 := by omega
              have hp2 : Int.tmod (n : Int) 2 = 0 := by rw [Int.tmod_eq_emod_of_nonneg (by omega)]; omega
              have HSQ := Lib.hid (show sqT (rs.map nc) k = subC ((eeF (rs.map nc)).getD k (0, 0)) ((ooF (rs.map nc)).getD k (0, 0)) from if_neg (by rw [HP0.out]; omega))
              clear hpar
              go_wp2_with (first | (at_builtin; go_must (refine wpList_pushV (.complex .f32 0 0) 8 HrowR.out infoC rfl rfl (by decide) rfl _ _ rfl Tryz.underlying25 Hl.out (by omega) rfl rfl rfl rfl rfl rfl ?_); intro v1 w1 hr1 hb1 hgw ho1))
              have HS := Lib.hid (show nc (d1, d2) = sqT (rs.map nc) k by rw [HSQ.out, ← HD.out])
              go_roundw
              case rel => exact ⟨k + 1, ts ++ [(d1, d2)], by omega, by go_num, by rw [← cx_push]; exact hr1, by rw [List.map_append, Hts.out, square_succ, List.map_cons, List.map_nil, HS.out], HbelR.out.trans hb1⟩
              case measure => simp [intOf]; omega
          · have hkM : k = M := by omega
            have tne : ts ≠ [] := by intro h; rw [h] at tl; simp at tl; omega
            have Ht := Lib.hid (show polyF (ts.map nc) = (Q, true) by rw [hts, hkM, ← HM.out]; exact HQ.out)
            have CC9 := Lib.hid ((hbel.cell (p := ⟨w.heap.size, 0, none⟩) (by simp only; omega)).trans CC8.out)
            have FC9 := Lib.hid (show wr.frozen? ⟨w.heap.size, 0, none⟩ = false by rw [(bcell hbel).2 _ _ (by omega)]; exact FC8.out)
            have BX9 := Lib.hid (BX8.out.trans (hbel.mono (by omega)))
            have sw9 : w.heap.size + 1 ≤ w8.heap.size := by omega
            obtain ⟨ao3, cap3, rfl, _⟩ := hrow.rd.shape
            rw [cx_length, tl] at hrow ⊢
            have Hrd := Lib.hid hrow.rd
            have jm : ¬ ((k : Int) < (M : Int)) := by omega
            have k10 : k ≤ 10 := by omega
            clear hts hbel hrow hml HM HMx CC8 FC8 BX8 hkM
            go_wp2_with fail
            (go_at_call 25; ((with_reducible refine (give_spec _ ts _ Hrd.out tne (by omega)).mono ?_)))
            rw [Ht.out]
            rintro e wp ⟨vp, us, rfl, hus, hop, hbp⟩
            have ul : us.length = n + 1 := by have := congrArg List.length hus; rw [List.length_map] at this; exact this.trans hq
            obtain ⟨uo, ucap, rfl, _⟩ := hop.rd.shape
            rw [cx_length, ul] at hop ⊢
            have HUS := Lib.hid hus
            have HUL := Lib.hid ul
            have HOP := Lib.hid hop
            have ccp := (hbp.cell (p := ⟨w.heap.size, 0, none⟩) (by simp only; omega)).trans CC9.out
            have fcp : wp.frozen? ⟨w.heap.size, 0, none⟩ = false := by rw [(bcell hbp).2 _ _ (by omega)]; exact FC9.out
            have sp := hbp.size
            have BXP := Lib.hid (BX9.out.trans (hbp.mono (by omega)))
            clear hus hop hbp ul tl tne Ht Hrd CC9 FC9 BX9 hq
            go_upto_region 25 with fail
            have bq : Below wp.heap.size wp (wp.alloc (.cells #[.slice uo (n + 1) ucap] 28)) := (Below.refl _ _).alloc (Nat.le_refl _) _
            have c14 : (wp.alloc (.cells #[.slice uo (n + 1) ucap] 28)).cell? ⟨wp.heap.size, 0, none⟩ = some (.slice uo (n + 1) ucap) := World.cell?_alloc_new wp #[.slice uo (n + 1) ucap] 28 0
            have zq : (wp.alloc (.cells #[.slice uo (n + 1) ucap] 28)).heap.size = wp.heap.size + 1 := by simp
            generalize (wp.alloc (.cells #[.slice uo (n + 1) ucap] 28)) = wq at *
            have ccq := (bq.cell (p := ⟨w.heap.size, 0, none⟩) (by simp only; omega)).trans ccp
            have fcq : wq.frozen? ⟨w.heap.size, 0, none⟩ = false := by rw [(bcell bq).2 _ _ (by omega)]; exact fcp
            have HOQ := Lib.hid (HOP.out.below bq)
            have BXQ := Lib.hid (BXP.out.trans (bq.mono (by omega)))
            clear bq ccp fcp HOP BXP
            have nq : wp.heap.size ≠ w.heap.size := by omega
            have zl : w.heap.size < wq.heap.size := by omega
            go_region_held3 (fun w' => w'.cell? ⟨wp.heap.size, 0, none⟩ = some (.slice uo (n + 1) ucap)) (first | assumption | exact (cellZ (w := wq) nq).trans c14) (first | fail)
            all_goals (go_wp2_with fail)
            have hw : IntKind.i64.wrap ((n : Int) + 1) = (n : Int) + 1 := IntWalk.i64_in _ ⟨by omega, by omega⟩
            rw [hw, beq_self_eq_true]
            have OF := (own_set (j := 0) HOQ.out (show w.heap.size < wr.heap.size by omega) (.slice uo (n + 1) ucap)).mono (show w.heap.size ≤ wr.heap.size by omega)
            have RF := Lib.hid OF
            have BF := Lib.hid (show Below w.heap.size w (wq.setCell ⟨w.heap.size, 0, none⟩ (.slice uo (n + 1) ucap)).drew by rw [World.drew_is_drewN]; exact below_drewN (BXQ.out.setCell (p := ⟨w.heap.size, 0, none⟩) (by simp only; omega) (.slice uo (n + 1) ucap)) 1)
            have cf := setCell_self ccq (.slice uo (n + 1) ucap)
            clear OF
            generalize wq.setCell ⟨w.heap.size, 0, none⟩ (.slice uo (n + 1) ucap) = WF at *
            refine bodyPost_ret (by simp [results, Tryz.results36, go_sem, cf]; try rfl) rfl ?_
            exact ⟨_, us, rfl, HUS.out, RF.out, BF.out⟩
end Go.Proofs.YtfnhddaofllniaaGreat
