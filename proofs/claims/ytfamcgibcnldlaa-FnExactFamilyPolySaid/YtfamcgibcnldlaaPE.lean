/- The laws' helpers at lists of complex numbers: equal ones are found equal, up to the bits of a NaN; marks are written and found. Conditions: lengths of at most 2^40, marks below 32. -/
import Derived.Test.YtfamcgibcnldlaaPC
namespace Go.Proofs.Ytfamcgibcnldlaa
open Go Go.RowKit
set_option linter.unusedSimpArgs false
set_option linter.unusedVariables false

theorem run_ftf {P : Program} (w : World) (s k : FloatKind) (x : Nat) (hf : fits s k (nrm s x) = true) :
    ∃ r n, (Conv.floatToFloat s x k).run P w = .ok (.float k r) (w.drewN n) ∧ nrm k r = nrm k (fcvt s k (nrm s x)) := by
  by_cases hn : isN s x = true
  · obtain ⟨sg, f, e⟩ := isNaN_cases _ hn
    have e' : s.decode x = .nan sg f := e
    by_cases hsk : s = k
    · subst hsk
      refine ⟨x, 0, ?_, ?_⟩
      · simp [Conv.floatToFloat, World.drewN_zero]
      · simp [fcvt, floatToFloatBits, nrm_nrm]
    · have hc := choose_conv k x (w.tape w.drawn (.nanConv k x))
      refine ⟨Question.cut (.nanConv k x) (w.tape w.drawn (.nanConv k x)), 1, ?_, ?_⟩
      · simp [Conv.floatToFloat, hsk, e', Question.forced, World.drew_is_drewN]
      · obtain ⟨sg', f', e2⟩ := isNaN_cases _ (isN_nrm s x ▸ hn)
        have e2' : s.decode (nrm s x) = .nan sg' f' := e2
        rw [nrm_of_nan hc]
        simp [fcvt, floatToFloatBits, hsk, e2', nrm_qnan]
  · have hn' : isN s x = false := by simpa using hn
    rw [nrm_of_not hn'] at hf ⊢
    simp only [fits, hn', Bool.false_or] at hf
    obtain ⟨r, hr⟩ := Option.isSome_iff_exists.1 hf
    exact ⟨r, 0, run_floatToFloat w hr, by simp [fcvt, hr]⟩

theorem run_ccvt {P : Program} (w : World) (src dst : TypeId) (s k : FloatKind) (x y : Nat) (hs : (P.underlying src).isSome = true) (hd : P.underlying dst = some (.complex k))
    (hf : fits s k (nrm s x) = true) (hg : fits s k (nrm s y) = true) :
    ∃ r q n, (convert src dst (.complex s x y)).run P w = .ok (.complex k r q) (w.drewN n) ∧ nrm k r = nrm k (fcvt s k (nrm s x)) ∧ nrm k q = nrm k (fcvt s k (nrm s y)) := by
  obtain ⟨u, hs'⟩ := Option.isSome_iff_exists.1 hs
  obtain ⟨r, n, h1, hr⟩ := run_ftf (P := P) w s k x hf
  obtain ⟨q, m, h2, hq⟩ := run_ftf (P := P) (w.drewN n) s k y hg
  refine ⟨r, q, n + m, ?_, hr, hq⟩
  rw [World.drewN_drewN] at h2
  cases u <;> simp [convert, run_underlying hs', run_underlying hd, Conv.complexToComplex, h1, h2]

section
variable {P : Program} {ops : Array Oper} {G : FuncId → Array Value → Value → Prop} {Q : Act → Prop} {w : World} {a : Act} {o : Oper} {rest : List Oper}
theorem wpV_ccvt (src dst : TypeId) (X : Operand) (ho : o.op = .convert src dst X) (s k : FloatKind) (x y : Nat)
    (hs : (P.underlying src).isSome = true) (hd : P.underlying dst = some (.complex k)) (hx : a.eval X = .complex s x y) (hf : fits s k (nrm s x) = true) (hg : fits s k (nrm s y) = true)
    (hgd : Region.wanted o (yielded ops a.tmps) = true)
    (h : ∀ r q, nrm k r = nrm k (fcvt s k (nrm s x)) → nrm k q = nrm k (fcvt s k (nrm s y)) → ∀ K, Rest P ops w G Q rest K → K (a.put o.dst (.complex k r q))) : wpV P ops (fun w' => ∃ m, w' = w.drewN m) G Q (o :: rest) a := by
  refine wpV_some hgd (fun v => ∃ r q, v = .complex k r q ∧ nrm k r = nrm k (fcvt s k (nrm s x)) ∧ nrm k q = nrm k (fcvt s k (nrm s y))) (fun m => ?_) (fun v ⟨r, q, hv, hr, hq⟩ => by subst hv; exact h r q hr hq)
  obtain ⟨r, q, n, hrun, hr, hq⟩ := run_ccvt (P := P) (w.drewN m) src dst s k x y hs hd hf hg
  rw [World.drewN_drewN] at hrun
  refine ⟨.complex k r q, m + n, ?_, r, q, rfl, hr, hq⟩
  simp [execOp, ho, hx, hrun, Result.andThen]
end

set_option maxRecDepth 100000 in
theorem sameComplex_true (a b c d : Nat) (w : World) (h1 : nrm .f64 a = nrm .f64 c) (h2 : nrm .f64 b = nrm .f64 d) :
    Calls Try.prog 49 #[.complex .f64 a b, .complex .f64 c d] w (RetB true w) := by
  have H1 := Lib.hid h1
  have H2 := Lib.hid h2
  clear h1 h2
  go_enter Try.func49, Try.ntmps49
  go_wp2_with (go_at_call 8; refine (sameFloat_true _ _ _ (by first | exact H1.out | exact H2.out)).mono ?_; rintro e w' ⟨m, rfl, rfl⟩)
  go_ret
  exact ⟨_, rfl, by first | rfl | (simp; rfl)⟩

set_option maxRecDepth 100000 in
set_option maxHeartbeats 400000 in
theorem eqC_true (u v : Value) (rs ss : List Nat) (w : World) (hu : RdV w u (cx rs)) (hv : RdV w v (cx ss)) (h : rs.map (nrm .f32) = ss.map (nrm .f32)) (hl : rs.length ≤ 1099511627776) :
    Calls Try.prog 35 #[u, v] w (RetB true w) := by
  have hlen : rs.length = ss.length := by simpa using congrArg List.length h
  rcases hu.openC with ⟨rfl, ao, cap, rfl⟩ | ⟨b, off, cap, rfl, hb, hcp, hc⟩
  · have hss : ss = [] := by simpa using hlen.symm
    subst hss
    rcases hv.openC with ⟨_, bo, cap2, rfl⟩ | ⟨b', off', cap', rfl, hb', hcp', hc'⟩ <;>
    · clear hu hv
      go_enter Try.func35, Try.ntmps35
      go_wp2
      refine wp_loop_rounds 1 ?_
      rw [rounds_succ]
      go_wp2
      go_ret
      exact ⟨0, rfl, rfl⟩
  · rcases hv.openC with ⟨rfl, bo, cap2, rfl⟩ | ⟨b', off', cap', rfl, hb', hcp', hc'⟩
    · have hrs : rs = [] := by simpa using hlen
      subst hrs
      clear hu hv
      go_enter Try.func35, Try.ntmps35
      go_wp2
      refine wp_loop_rounds 1 ?_
      rw [rounds_succ]
      go_wp2
      go_ret
      exact ⟨0, rfl, rfl⟩
    · rw [← hlen]
      have Hc := Lib.hid hc
      have Hc' := Lib.hid hc'
      have Hl := Lib.hid hlen
      have Hh := Lib.hid h
      clear hc hc' hlen h hu hv hcp hcp' hb hb'
      go_enter Try.func35, Try.ntmps35
      go_wp2
      go_loopw [5] (fun i wr => ∃ k m : Nat, k ≤ rs.length ∧ i = .int .i64 k ∧ wr = w.drewN m) (fun i _ => rs.length - (intOf i).toNat)
      case atStart => exact ⟨0, 0, Nat.zero_le _, rfl, rfl⟩
      case round =>
        obtain ⟨k, m, hk, rfl, rfl⟩ := hrel
        by_cases hlt : k < rs.length
        · have c1 := Hc.out k hlt
          have c2 := Hc'.out k (by rw [← Hl.out]; exact hlt)
          have hn : nrm .f32 rs[k] = nrm .f32 (ss[k]'(by rw [← Hl.out]; exact hlt)) := by
            have := congrArg (·[k]?) Hh.out
            simpa [hlt, show k < ss.length by rw [← Hl.out]; exact hlt] using this
          generalize rs[k] = x at *
          generalize (ss[k]'(by rw [← Hl.out]; exact hlt)) = y at *
          have j1 : (0 : Int) ≤ (k : Int) := by omega
          have j2 : (k : Int) < (rs.length : Int) := by omega
          go_wp2
          refine wp_region_v 12 (fun _ _ u => u = .bool true) (by kernel_rfl) (by kernel_rfl) ?_
          simp only [List.take_succ_cons, List.take_zero, List.drop_succ_cons, List.drop_zero]
          repeat (first | (apply wpV_det; (exact rfl); (intro nq; go_simp; rfl); (intro K hK; go_simp; refine hK.use ?_; clear hK K)) | ((with_reducible refine wpV_ccvt 59 63 _ rfl .f32 .f64 _ _ ?_ Try.underlying63 rfl (fits_widen _) (fits_widen _) ?_ ?_); (rw [Try.underlying59]; rfl); (exact rfl); intro r q hr hq; (intro K hK; go_simp; refine hK.use ?_; clear hK K)) | (apply wpV_call; (exact rfl); (intro nq; go_simp; exact ⟨rfl, rfl⟩); (intro nq; refine (sameComplex_true _ _ _ _ _ (by simp only [*]) (by simp only [*])).mono ?_; rintro e w' ⟨mm, rfl, rfl⟩; exact ⟨_, rfl, rfl, nq + mm, by simp [Nat.add_assoc]⟩); (rintro u rfl); (intro K hK; go_simp; refine hK.use ?_; clear hK K)))
          refine wpV_nil (fun nq => ?_)
          refine wpList_nil ?_
          go_wp2
          go_roundw
          case rel => exact ⟨k + 1, _, by omega, by go_num, rfl⟩
          case measure => simp [intOf]; omega
        · go_wp2
          go_ret
          exact ⟨_, rfl, rfl⟩

/-- The marks. -/
def mkN (k : Int) : Nat := (floatToFloatBits .f64 (floatOfInt .f64 k) .f32).getD 0
theorem mk_facts : ∀ k : Nat, k < 32 → cConvBits .f64 (floatOfInt .f64 k) 4607182418800017408 .f32 = some (mkN k, 1065353216) ∧ FloatKind.f32.format.order (mkN k) (mkN k) = some .eq := by decide +kernel
theorem one_facts : FloatKind.f32.format.order 1065353216 1065353216 = some .eq := by decide +kernel
def MarkedC (k n : Nat) (ys : List Value) : Prop := ∀ j, j < n → ys[j]? = some (.complex .f32 (mkN ((k + j : Nat) : Int)) 1065353216)
theorem MarkedC.zero (k : Nat) (ys : List Value) : MarkedC k 0 ys := fun _ h => absurd h (by omega)
theorem MarkedC.set {k n : Nat} {ys : List Value} (h : MarkedC k n ys) (hn : n < ys.length) : MarkedC k (n + 1) (ys.set n (.complex .f32 (mkN ((k + n : Nat) : Int)) 1065353216)) := fun j hj => by
  by_cases e : j = n
  · subst e; simp [hn]
  · rw [List.getElem?_set_ne (by omega)]; exact h j (by omega)
theorem grown_set (w : World) (g j : Nat) (u : Value) : w.grownBy (w.setCell ⟨g, j, none⟩ u) (some g) :=
  ⟨rfl, rfl, rfl, by simp [World.setCell], fun k _ hk => Below.heap_setCell _ _ _ _ (fun e => hk (by simp at e; rw [e]))⟩

set_option maxRecDepth 100000 in
set_option maxHeartbeats 400000 in
theorem mark_complex (B : Nat) (v : Value) (xs : List Value) (k : Nat) (w : World) (hown : OwV 59 w B v xs) (hn : xs.length ≤ 17) (hk : k ≤ 8) :
    Calls Try.prog 36 #[v, .int .i64 k] w fun e w' => ∃ ys, e = .returned (.int .i64 (k + xs.length)) ∧ OwV 59 w' B v ys ∧ ys.length = xs.length ∧ MarkedC k xs.length ys ∧ w.grownBy w' v.ownBlock := by
  by_cases h0 : xs = []
  · subst h0
    obtain ⟨ao, cap, rfl, _⟩ := hown.rd.shape
    go_enter Try.func36, Try.ntmps36
    go_wp2
    refine wp_loop_rounds 1 ?_
    rw [rounds_succ]
    go_wp2
    go_ret
    exact ⟨[], by simp, hown, rfl, MarkedC.zero _ _, World.grownBy.refl _ _⟩
  · obtain ⟨g, cap, rfl, _⟩ := hown.open h0
    generalize hN : xs.length = n at *
    go_enter Try.func36, Try.ntmps36
    go_wp2
    go_loopw [1, 5] (fun q i wr => ∃ (j : Nat) (ys : List Value), j ≤ n ∧ i = .int .i64 j ∧ q = .int .i64 (k + j) ∧ OwV 59 wr B (.slice (some ⟨g, 0, none⟩) n cap) ys ∧ ys.length = n ∧ MarkedC k j ys ∧ w.grownBy wr (some g)) (fun _ i _ => n - (intOf i).toNat)
    case atStart => exact ⟨0, xs, Nat.zero_le _, rfl, by simp, hown, hN, MarkedC.zero _ _, World.grownBy.refl _ _⟩
    case round =>
      obtain ⟨j, ys, hj, rfl, rfl, hown1, hlen, hm, hgr⟩ := hrel
      by_cases hlt : j < n
      · obtain ⟨g1, cap1, hv1, _, _, _, _, hc, hfz⟩ := hown1.open (by rintro rfl; simp at hlen; omega)
        obtain ⟨rfl, _, rfl⟩ : g1 = g ∧ ys.length = n ∧ cap1 = cap := by simp at hv1; omega
        replace hc := hc j (by omega)
        rw [List.getElem?_eq_getElem (show j < ys.length by omega)] at hc
        replace hfz := hfz j
        have H2 := Lib.hid (hown1.set j (.complex .f32 (mkN ((k + j : Nat) : Int)) 1065353216))
        have H3 := Lib.hid (hm.set (by omega))
        have H4 := Lib.hid (show (ys.set j (.complex .f32 (mkN ((k + j : Nat) : Int)) 1065353216)).length = n by simpa using hlen)
        have mf := (mk_facts (k + j) (by omega)).1
        have hcv : ∀ w, (convert 63 59 (.complex .f64 (floatOfInt .f64 ((k : Int) + (j : Int))) 4607182418800017408)).run Try.prog w = .ok (.complex .f32 (mkN ((k + j : Nat) : Int)) 1065353216) w := fun w => run_convert_complex w _ _ .f64 .f32 _ _ _ _ (by rw [Try.underlying63]; rfl) Try.underlying59 (by simpa using mf)
        generalize ys[j]'(by omega) = old at hc
        clear hm hown1 hown hv1 mf
        go_wp2
        go_roundw
        case rel => exact ⟨j + 1, _, by omega, by go_num, by go_num, H2.out, H4.out, H3.out, hgr.trans (grown_set _ _ _ _)⟩
        case measure => simp [intOf]; omega
      · obtain rfl : j = n := by omega
        go_wp2
        go_ret
        exact ⟨ys, rfl, hown1, hlen, hm, hgr⟩

set_option maxRecDepth 100000 in
set_option maxHeartbeats 400000 in
theorem held_complex (B : Nat) (v : Value) (ys : List Value) (k : Nat) (w : World) (hown : OwV 59 w B v ys) (hm : MarkedC k ys.length ys) (hn : ys.length ≤ 17) (hk : k ≤ 8) :
    Calls Try.prog 37 #[v, .int .i64 k] w fun e w' => e = .returned (.int .i64 (k + ys.length)) ∧ w = w' := by
  by_cases h0 : ys = []
  · subst h0
    obtain ⟨ao, cap, rfl, _⟩ := hown.rd.shape
    go_enter Try.func37, Try.ntmps37
    go_wp2
    refine wp_loop_rounds 1 ?_
    rw [rounds_succ]
    go_wp2
    go_ret
    exact ⟨by simp, rfl⟩
  · obtain ⟨g, cap, rfl, _, _, _, _, hc0, _⟩ := hown.open h0
    have Hc := Lib.hid hc0
    have Hm := Lib.hid hm
    clear hm hc0 hown
    generalize hN : ys.length = n at *
    have HN := Lib.hid hN
    clear hN
    have o1 := one_facts
    go_enter Try.func37, Try.ntmps37
    go_wp2
    go_loop [1, 5] (fun q i => ∃ j : Nat, j ≤ n ∧ i = .int .i64 j ∧ q = .int .i64 (k + j)) (fun _ i => n - (intOf i).toNat)
    case atStart => exact ⟨0, Nat.zero_le _, rfl, by simp⟩
    case round =>
      obtain ⟨j, hj, rfl, rfl⟩ := hrel
      by_cases hlt : j < n
      · have hc := Hc.out j hlt
        rw [Hm.out j hlt] at hc
        have mf := (mk_facts (k + j) (by omega)).1
        have mo := (mk_facts (k + j) (by omega)).2
        have hcv : ∀ w, (convert 63 59 (.complex .f64 (floatOfInt .f64 ((k : Int) + (j : Int))) 4607182418800017408)).run Try.prog w = .ok (.complex .f32 (mkN ((k + j : Nat) : Int)) 1065353216) w := fun w => run_convert_complex w _ _ .f64 .f32 _ _ _ _ (by rw [Try.underlying63]; rfl) Try.underlying59 (by simpa using mf)
        generalize mkN ((k + j : Nat) : Int) = q at *
        clear mf
        go_wp2
        go_round
        case rel => exact ⟨j + 1, by omega, by go_num, by go_num⟩
        case measure => simp [intOf]; omega
      · obtain rfl : j = n := by omega
        go_wp2
        go_ret
        exact ⟨rfl, rfl⟩

end Go.Proofs.Ytfamcgibcnldlaa
