/- What the calls of FnSteps give, for the polynomial of up to four drawn roots. Conditions: the polynomial is that of the roots. -/
import Derived.Test.YtdnoilcfgicnnaaGreatY18
import Derived.Test.YtdnoilcfgicnnaaGreatY19
import Derived.Test.YtdnoilcfgicnnaaGreatY24
import Derived.Test.YtdnoilcfgicnnaaGreatY26
namespace Go.Proofs.YtdnoilcfgicnnaaGreat
open Go Go.RowKit
set_option linter.unusedSimpArgs false
set_option linter.unusedVariables false

/-- Nearly the root. -/
def NearR (rt y : C2) : Prop := fit1 (sqF (powerF (subC y rt))) ∧ fcmp .gtr .f64 (wd (longF (subC y rt))) 4576918229304087675 = false
def RetGood (rt : C2) (w : World) (e : Ending) (w' : World) : Prop := ∃ a b, e = .returned (.tuple #[.complex .f32 a b, .bool true]) ∧ NearR rt (nc (a, b)) ∧ Below w.heap.size w w'
theorem RetXB.good {F : C2 × Bool} {rt y : C2} (hF : F = (y, true)) (hg : NearR rt y) {w : World} {e : Ending} {w' : World} (h : RetXB F w e w') : RetGood rt w e w' := by
  subst hF
  obtain ⟨a, b, rfl, ha, hb, hbel⟩ := h
  exact ⟨a, b, rfl, by rw [show nc (a, b) = y from Prod.ext ha hb]; exact hg, hbel⟩
theorem good_of {rt y : C2} (h : fC (subC y rt)) (hn : N (cv (subC y rt)) ≤ 19 / 2000) : NearR rt y := below_cent h hn
/-- The polynomial, its roots, in the world. -/
structure PR (pv : Value) (rs : List C2) (ls : List C2) (X : Nat → Int × Int) : Prop where
  h : DX ls X
  h1 : 1 ≤ ls.length
  h4 : ls.length ≤ 4
  e : rs.map nc = rootsL (ls.map nc) ls.length
section
variable {pv : Value} {rs ls : List C2} {X : Nat → Int × Int}
theorem PR.len (H : PR pv rs ls X) : rs.length = ls.length + 1 := by have := congrArg List.length H.e; rwa [List.length_map, rootsL_length] at this
theorem PR.rooted (H : PR pv rs ls X) : rootedF (rs.map nc) = true := by rw [H.e]; exact (H.h.poly H.h1 H.h4).2.2
theorem PR.valid (H : PR pv rs ls X) : validF (rs.map nc) = true := by
  have := H.rooted
  unfold rootedF at this
  rw [Bool.and_eq_true] at this
  exact this.1
theorem PR.rt (i : Nat) : nc (ls.getD i (0, 0)) = (ls.map nc).getD i (0, 0) := (getD_nc ls i).symm
/-- Whether the misses can be told. -/
theorem PR.miss (H : PR pv rs ls X) : ∃ (V : Nat → C2) (bs : Nat → Bool), ∀ i, i < ls.length → MsOk (rs.map nc) (nc (ls.getD i (0, 0))) (V i) ∧ missG (longF (V i)) (missS (rs.map nc) (nc (ls.getD i (0, 0))) rs.length) = (0, bs i) := by
  refine ⟨fun i => nestedF (rs.map nc) (nc (ls.getD i (0, 0))), fun i => (missG (longF (nestedF (rs.map nc) (nc (ls.getD i (0, 0))))) (missS (rs.map nc) (nc (ls.getD i (0, 0))) rs.length)).2, fun i hi => ?_⟩
  obtain ⟨a, b⟩ := H.h.root H.h1 H.h4 hi
  rw [← H.e, ← PR.rt i] at a b
  refine ⟨a, ?_⟩
  obtain ⟨c, hc⟩ := b (missS (rs.map nc) (nc (ls.getD i (0, 0))) rs.length)
  simp only [hc]
theorem PR.fin (H : PR pv rs ls X) : allFinC ls = true := (allFinC_true_iff ls).2 fun i hi => by
  have := finG (H.h.g i hi)
  rwa [← PR.rt i, show ls.getD i (0, 0) = ls[i] by simp [List.getD, hi]] at this
theorem PR.miss2 (H : PR pv rs ls X) : ∃ B : Bool, ∀ (u : Value) (w : World), RdV w pv (cx rs) → RdV w u (cx ls) → Calls Tryz.prog 8 #[.agg #[pv], u] w (RetFB (0, B) w) ∧ Calls Tryz.prog 9 #[.agg #[pv], u] w (RetFB (0, B) w) := by
  obtain ⟨V, bs, hm⟩ := H.miss
  have l := H.len
  have h1 := H.h1
  have h4 := H.h4
  exact ⟨allB bs ls.length, fun u w hp hl => ⟨missRoots_impl pv u rs ls V bs w hp hl (by omega) (by omega) h1 (by omega) H.rooted H.fin (Lib.hid hm), missRoots_spec pv u rs ls V bs w hp hl (by omega) (by omega) h1 (by omega) H.rooted H.fin (Lib.hid hm)⟩⟩
theorem PR.polish (H : PR pv rs ls X) {i : Nat} (hi : i < ls.length) (z : C2) (hz : nc z = nc (ls.getD i (0, 0))) (w : World) (hp : RdV w pv (cx rs)) :
    Calls Tryz.prog 11 #[.agg #[pv], .complex .f32 z.1 z.2, .int .i64 1] w (RetGood (nc (ls.getD i (0, 0))) w) ∧ Calls Tryz.prog 12 #[.agg #[pv], .complex .f32 z.1 z.2, .int .i64 1] w (RetGood (nc (ls.getD i (0, 0))) w) := by
  obtain ⟨s1, s2⟩ := H.h.stay H.h1 H.h4 hi
  rw [← H.e, ← PR.rt i] at s1 s2
  have g := H.h.g i hi
  rw [← PR.rt i] at g
  have l := H.len
  have h4 := H.h4
  have b := H.h.b i
  have hg : NearR (nc (ls.getD i (0, 0))) (nc (ls.getD i (0, 0))) := by
    have d := Gr.subB (u := X i) (v := X i) g g (by omega) (by decide)
    have e : zs (X i) (X i) = (0, 0) := by simp [zs]
    rw [e] at d
    refine good_of d.1 (gr_le d 0 (by decide) (by decide +kernel))
  refine ⟨(polish_impl pv rs z 1 w hp (by omega) (by omega) H.rooted (by rw [hz]; exact finG g) (by decide) (Lib.hid (by rw [hz]; exact s1))).mono fun e w' h => RetXB.good (by rw [hz]; exact s2) hg h,
    (polishRoot_spec pv rs z 1 w hp (by omega) (by omega) H.rooted (by rw [hz]; exact finG g) (by decide) (Lib.hid (by rw [hz]; exact s1))).mono fun e w' h => RetXB.good (by rw [hz]; exact s2) hg h⟩
/-- The steps from beside a root. -/
theorem PR.steps (H : PR pv rs ls X) {i : Nat} (hi : i < ls.length) (z : C2) (hz : nc z = addC (nc (ls.getD i (0, 0))) dw) (w : World) (hp : RdV w pv (cx rs)) :
    Calls Tryz.prog 13 #[.agg #[pv], .complex .f32 z.1 z.2] w (RetGood (nc (ls.getD i (0, 0))) w) ∧
    Calls Tryz.prog 14 #[.agg #[pv], .complex .f32 z.1 z.2] w (RetGood (nc (ls.getD i (0, 0))) w) ∧
    Calls Tryz.prog 15 #[.agg #[pv], .complex .f32 z.1 z.2] w (RetGood (nc (ls.getD i (0, 0))) w) ∧
    Calls Tryz.prog 16 #[.agg #[pv], .complex .f32 z.1 z.2] w (RetGood (nc (ls.getD i (0, 0))) w) := by
  obtain ⟨S, S2, K, P, m, g, th, st⟩ := H.h.st H.h1 H.h4 hi
  rw [← H.e, ← PR.rt i, ← hz] at st
  have l := H.len
  have h1 := H.h1
  have h4 := H.h4
  obtain ⟨n1, z', n2, n3, n4, n5⟩ := st.newton
  obtain ⟨k1, k2, k3, k4, k5⟩ := st.halley
  obtain ⟨a', L⟩ := lagX_ok st.nn st.fv st.fs st.ft h1 h4
  have LO : LagOk ls.length (nc z) (nestedF (rs.map nc) (nc z)) (nestedF S (nc z)) (nestedF S2 (nc z)) := L.ok h1 h4 st.fz st.nz st.fr st.er
  have hl : ∀ ph, PhOk ph → NearR (nc (ls.getD i (0, 0))) (subC (nc z) (lagQ ls.length (nestedF (rs.map nc) (nc z)) (nestedF S (nc z)) (nestedF S2 (nc z)) ph)) := by
    intro ph P
    obtain ⟨_, _, _, _, _, _, f1, f2, f3⟩ := lag_fin L P h1 h4 st.fz st.nz st.fr st.er
    exact below_cent2 f1 (Rat.le_trans f2 (by decide +kernel)) f3
  have lg : ∀ {e : Ending} {w' : World}, RetLag ls.length (nc z) (nestedF (rs.map nc) (nc z)) (nestedF S (nc z)) (nestedF S2 (nc z)) w e w' → RetGood (nc (ls.getD i (0, 0))) w e w' := by
    rintro e w' ⟨a, b, ph, rfl, P, hab, hbel⟩
    exact ⟨a, b, rfl, by rw [hab]; exact hl ph P, hbel⟩
  refine ⟨(step_impl pv rs z w hp (by omega) (by omega) (Lib.hid n1)).mono fun e w' h => RetXB.good n2 (good_of n4 n5) h,
    (halley_impl pv rs S S2 z _ _ _ w hp (by omega) (by omega) (Lib.hid st.valOk) st.v0 (Lib.hid k1) ((fC_iff _).1 k2) ((fC_iff _).1 k3)).mono fun e w' h => RetXB.good rfl (good_of k4 k5) h,
    (laguerre_impl pv rs S S2 z _ _ _ ls.length w hp l (Lib.hid st.valOk) st.v0 (Lib.hid LO)).mono fun e w' h => lg h,
    (laguerre_spec pv rs S S2 z _ _ _ ls.length w hp l (Lib.hid st.valOk) st.v0 (Lib.hid LO)).mono fun e w' h => lg h⟩
/-- The calls at a point in eighths. -/
theorem PR.ends (H : PR pv rs ls X) {z : C2} {Z : Int × Int} (hz : Gr (nc z) Z.1 Z.2 3) (hZ : nz Z ≤ 24) :
    ∃ (v : C2) (B : Nat × Bool), Gr v (ez X ls.length Z ls.length).1 (ez X ls.length Z ls.length).2 (3 * ls.length) ∧ N (cv v) ≤ p2 40 ∧ ∀ (w : World), RdV w pv (cx rs) →
    Calls Tryz.prog 18 #[.agg #[pv], .complex .f32 z.1 z.2] w (fun e w' => ∃ vq a b qs, e = .returned (.tuple #[.agg #[vq], .complex .f32 a b, .bool true]) ∧ qs.length = ls.length ∧ Gr (nc (a, b)) (ez X ls.length Z ls.length).1 (ez X ls.length Z ls.length).2 (3 * ls.length) ∧ RdV w' vq (cx qs) ∧ Below w.heap.size w w') ∧
    Calls Tryz.prog 19 #[.agg #[pv], .complex .f32 z.1 z.2] w (RetXB (v, true) w) ∧
    Calls Tryz.prog 20 #[.agg #[pv], .complex .f32 z.1 z.2] w (RetFB B w) ∧ Calls Tryz.prog 21 #[.agg #[pv], .complex .f32 z.1 z.2] w (RetFB B w) := by
  have l := H.len
  have h1 := H.h1
  have h4 := H.h4
  obtain ⟨v1, v2, v3, v4⟩ := H.h.value h1 h4 hz hZ
  have ms := H.h.ms h1 h4 hz hZ
  obtain ⟨d1, d2, Q, r, q1, q2, q3, q4⟩ := leave_plain H.h.b h1 h4 H.h.g hz hZ
  rw [← H.e] at v1 v2 v3 v4 ms d2 q2 q3
  refine ⟨nestedF (rs.map nc) (nc z), missG (longF (nestedF (rs.map nc) (nc z))) (missS (rs.map nc) (nc z) rs.length), v2, v3, fun w hp => ⟨?_, ?_, ?_, ?_⟩⟩
  · refine (leave_impl pv rs z ls.length w hp h1 l (by omega) H.rooted H.valid (finG hz) d1 (Lib.hid d2) Q r (Lib.hid q2) (Lib.hid q3)).mono ?_
    rintro e w' ⟨vq, a, b, qs, rfl, hq, hr, hrd, hbel⟩
    refine ⟨vq, a, b, qs, rfl, ?_, by rw [hr]; exact q4, hrd, hbel⟩
    rw [← q1, ← hq, List.length_map]
  · have := polyAt_spec pv rs z w hp (by omega) (by omega) (Lib.hid fun _ _ => v1)
    rwa [v4] at this
  · exact missAt_impl pv rs z _ w hp (by omega) (by omega) (Lib.hid ms)
  · exact missAt_spec pv rs z _ w hp (by omega) (by omega) (Lib.hid ms) (finG hz)
end
/-- The last comparison. -/
theorem last_ok {r v : C2} {u : Int × Int} {j : Nat} (hr : Gr r u.1 u.2 j) (hv : Gr v u.1 u.2 j) (hu : nz u + nz u < 2 ^ 24) (hj : j ≤ 100) (hn : N (cv v) ≤ p2 40) :
    fit1 (sqF (powerF (subC r v))) ∧ fit1 (sqF (powerF v)) ∧ fcmp .lss .f64 (wd (longF (subC r v))) (fop .mul .f64 4562254508917369340 (fop .add .f64 4607182418800017408 (wd (longF v)))) = true := by
  have d := Gr.subB (u := u) (v := u) hr hv hu hj
  have e : zs u u = (0, 0) := by simp [zs]
  rw [e] at d
  have hN : N (cv (subC r v)) ≤ p2 40 := gr_le d 0 (by decide) (by rw [show ((0 : Nat) : Rat) = 0 from rfl]; have := p2_pos 40; grind)
  have hl : longF (subC r v) = 0 := by
    rw [long_congr d.1 fC0.1 (d.2.trans ((Gr.zero _).2).symm) (Rat.le_trans hN (p2_mono (by decide)))]
    exact long_zero
  obtain ⟨f1, f2, f3, f4⟩ := longF_le hv.1 hn (p2_mono (by decide)) (Rat.le_refl)
  refine ⟨fit_long d.1 hN, f1, ?_⟩
  rw [hl]
  have b1 : p2 40 * (1 + p2 (-20)) ≤ p2 41 := by decide +kernel
  have b2 : vN .f32 (longF v) ≤ p2 41 := Rat.le_trans f4 b1
  obtain ⟨w1, w2⟩ := wd_ok f2 (by rw [A_of_nonneg f3]; exact lt_of_p2 b2 (by decide))
  have o1 : fN .f64 4607182418800017408 = true := by decide +kernel
  have o2 : vN .f64 4607182418800017408 = 1 := by decide +kernel
  have c1 : fN .f64 4562254508917369340 = true := by decide +kernel
  have c2 : 1 / 1024 ≤ vN .f64 4562254508917369340 ∧ vN .f64 4562254508917369340 ≤ 1 := by decide +kernel
  have sb : A (vN .f64 4607182418800017408 + vN .f64 (wd (longF v))) ≤ p2 42 := by
    rw [o2, w2, A_of_nonneg (by grind)]
    have : 1 + p2 41 ≤ p2 42 := by decide +kernel
    grind
  have R1 := fop_add_res (k := .f64) o1 w1 (by show _ < p2 1023; exact lt_of_p2 sb (by decide))
  rw [o2, w2] at R1 sb
  have s0 : 0 ≤ 1 + vN .f32 (longF v) := by grind
  rw [A_of_nonneg s0] at sb
  have e1 := R1.2.1
  rw [A_of_nonneg s0] at e1
  generalize fop .add .f64 4607182418800017408 (wd (longF v)) = s at *
  have e2 := A_le.1 e1
  have m0 : p2 (-53) * (1 + vN .f32 (longF v)) ≤ p2 (-53) * p2 42 := Rat.mul_le_mul_of_nonneg_left sb (Rat.le_of_lt (p2_pos _))
  have m1 : p2 (-53) * p2 42 + p2 (-1075) ≤ 1 / 2 := by decide +kernel
  have e3 : A (vN .f64 s - (1 + vN .f32 (longF v))) ≤ p2 (-53) * (1 + vN .f32 (longF v)) + p2 (-1075) := e1
  obtain ⟨e4, e5⟩ := A_le.1 e3
  have s1 : 1 / 2 ≤ vN .f64 s := by grind
  have s2 : vN .f64 s ≤ p2 43 := by
    have : p2 42 + 1 / 2 ≤ p2 43 := by decide +kernel
    grind
  have t1 := mul_le c2.1 s1 (by decide +kernel) (by grind)
  have t2 := mul_le c2.2 s2 (by grind) (by decide +kernel)
  have R2 := fop_mul_res (k := .f64) c1 R1.1 (by
    show _ < p2 1023
    rw [A_of_nonneg (by grind)]
    exact lt_of_p2 (a := 43) (by grind) (by decide))
  have e6 := R2.2.1
  have q0 : 0 ≤ vN .f64 4562254508917369340 * vN .f64 s := by grind
  rw [A_of_nonneg q0] at e6
  have e7 : A (vN .f64 (fop .mul .f64 4562254508917369340 s) - vN .f64 4562254508917369340 * vN .f64 s) ≤ p2 (-53) * (vN .f64 4562254508917369340 * vN .f64 s) + p2 (-1075) := e6
  obtain ⟨_, e8⟩ := A_le.1 e7
  have p53 : p2 (-53) ≤ 1 / 4 := by decide +kernel
  have p1075 : p2 (-1075) ≤ 1 / 100000 := by decide +kernel
  have m3 := Rat.mul_le_mul_of_nonneg_right p53 q0
  have pos : 0 < vN .f64 (fop .mul .f64 4562254508917369340 s) := by grind
  have z1 : fN .f64 (wd 0) = true := by decide +kernel
  have z2 : vN .f64 (wd 0) = 0 := by decide +kernel
  rw [cmp_lss z1 R2.1, z2, decide_eq_true_eq]
  exact pos
end Go.Proofs.YtdnoilcfgicnnaaGreat

/- Operations of the law of FnSteps: guarded sums and widenings; quarters. Conditions: none. -/
namespace Go.Proofs.YtdnoilcfgicnnaaGreat
open Go Go.RowKit
set_option linter.unusedVariables false

section
variable {P : Program} {w : World} {ops : Array Oper} {rest : List Oper} {o : Oper} {a : Act} {Q : Exit → Act → World → Prop}
theorem wpList_caddg (op : BinOp) (hop : op = .add ∨ op = .sub) (t t' : TypeId) (X Y : Operand) (ho : o.op = .binOp op t X Y t') (x1 x2 y1 y2 : Nat) (hx : a.eval X = .complex .f32 x1 x2) (hy : a.eval Y = .complex .f32 y1 y2) (hgd : Region.wanted o (yielded ops a.tmps) = true)
    (h : ∀ r s n, nrm .f32 r = fop op .f32 (nrm .f32 x1) (nrm .f32 y1) → nrm .f32 s = fop op .f32 (nrm .f32 x2) (nrm .f32 y2) → wpList P ops Q rest (a.put o.dst (.complex .f32 r s)) (w.drewN n)) : wpList P ops Q (o :: rest) a w := by
  refine wpList_wanted hgd fun K hK => ?_
  obtain ⟨r, s, n, hrun, hr, hs⟩ := run_cadd (P := P) w op hop t x1 x2 y1 y2
  unfold Oper.wp
  rcases hop with rfl | rfl
  all_goals
    simp [execOp, ho, hx, hy, hrun, Result.andThen, eqGuard]
    exact hK _ _ (h r s n hr hs)
theorem wpList_widg (X : Operand) (ho : o.op = .convert 31 35 X) (x : Nat) (hx : a.eval X = .float .f32 x) (hgd : Region.wanted o (yielded ops a.tmps) = true)
    (h : ∀ r n, nrm .f64 r = wd (nrm .f32 x) → wpList Tryz.prog ops Q rest (a.put o.dst (.float .f64 r)) (w.drewN n)) : wpList Tryz.prog ops Q (o :: rest) a w :=
  wpList_fcvtg 31 35 X ho .f32 .f64 x (by rw [Tryz.underlying31]; rfl) Tryz.underlying35 hx (fits_widen _) hgd h
end
theorem upon_cadd {P : Program} {o : Oper} {a : Act} {next : Act → World → Prop} {Q : Exit → Act → World → Prop} {w : World} (op : BinOp) (hop : op = .add ∨ op = .sub) (t : TypeId) (x1 x2 y1 y2 : Nat)
    (h : ∀ r s n, nrm .f32 r = fop op .f32 (nrm .f32 x1) (nrm .f32 y1) → nrm .f32 s = fop op .f32 (nrm .f32 x2) (nrm .f32 y2) → next (a.put o.dst (.complex .f32 r s)) (w.drewN n)) :
    Oper.upon P o a next Q (((binOp op t (.complex .f32 x1 x2) (.complex .f32 y1 y2)).run P w).andThen fun v w' => .ok (.value v) w') := by
  obtain ⟨r, s, n, hrun, hr, hs⟩ := run_cadd (P := P) w op hop t x1 x2 y1 y2
  rw [hrun]
  exact h r s n hr hs
set_option maxRecDepth 10000 in
theorem upon_wid {o : Oper} {a : Act} {next : Act → World → Prop} {Q : Exit → Act → World → Prop} {w : World} (x : Nat)
    (h : ∀ r n, nrm .f64 r = wd (nrm .f32 x) → next (a.put o.dst (.float .f64 r)) (w.drewN n)) :
    Oper.upon Tryz.prog o a next Q (((convert 31 35 (.float .f32 x)).run Tryz.prog w).andThen fun v w' => .ok (.value v) w') := by
  obtain ⟨r, n, hrun, hr⟩ := run_fcvt (P := Tryz.prog) w 31 35 .f32 .f64 x (by rw [Tryz.underlying31]; rfl) Tryz.underlying35 (fits_widen _)
  rw [hrun]
  have hr2 : nrm .f64 r = wd (nrm .f32 x) := hr
  clear hr hrun
  exact h r n hr2
/-- A quarter of a small number, as it is drawn. -/
def qt (z : Int) : Nat := fop .quo .f32 (nrm .f32 (floatOfInt .f32 z)) (nrm .f32 1082130432)
theorem qt_ok : ∀ k : Nat, k < 9 → fN .f32 (qt ((k : Int) - 4)) = true ∧ vN .f32 (qt ((k : Int) - 4)) = ((2 * ((k : Int) - 4) : Int) : Rat) * p2 (-3) := by decide +kernel
theorem at_gr {z : C2} {x y : Int} (hx : 0 ≤ x ∧ x < 9) (hy : 0 ≤ y ∧ y < 9) (h : nc z = (qt (x - 4), qt (y - 4))) : Gr (nc z) (2 * (x - 4), 2 * (y - 4)).1 (2 * (x - 4), 2 * (y - 4)).2 3 ∧ nz (2 * (x - 4), 2 * (y - 4)) ≤ 24 := by
  obtain ⟨k, rfl⟩ := Int.eq_ofNat_of_zero_le hx.1
  obtain ⟨l, rfl⟩ := Int.eq_ofNat_of_zero_le hy.1
  obtain ⟨a, b⟩ := qt_ok k (by omega)
  obtain ⟨c, d⟩ := qt_ok l (by omega)
  rw [h]
  exact ⟨⟨⟨a, c⟩, q2e b d⟩, by unfold nz; simp only; omega⟩
theorem keep2 {w w' : World} {a b : Addr} {u v : Value} (hb : Below w.heap.size w w') (h : w.cell? a = some u ∧ w.cell? b = some v) : w'.cell? a = some u ∧ w'.cell? b = some v :=
  ⟨(hb.cell (World.block_lt_of_cell? _ _ h.1)).trans h.1, (hb.cell (World.block_lt_of_cell? _ _ h.2)).trans h.2⟩
theorem bel_drew {w w' : World} (h : Below w.drew.heap.size w.drew w') : Below w.heap.size w w' := (show Below w.heap.size w w.drew from Below.drew1 (Below.refl _ _)).trans h
theorem NearR.fit {rt y : C2} (h : NearR rt y) : fit1 (sqF (powerF (subC y rt))) := h.1
theorem NearR.gt {rt y : C2} (h : NearR rt y) : fcmp .gtr .f64 (wd (longF (subC y rt))) (nrm .f64 4576918229304087675) = false := by
  rw [show nrm .f64 4576918229304087675 = 4576918229304087675 by decide +kernel]; exact h.2
theorem sub_eq {g1 g2 a b c d : Nat} (h1 : nrm .f32 g1 = fop .sub .f32 (nrm .f32 a) (nrm .f32 c)) (h2 : nrm .f32 g2 = fop .sub .f32 (nrm .f32 b) (nrm .f32 d)) : nc (g1, g2) = subC (nc (a, b)) (nc (c, d)) := Prod.ext h1 h2
theorem near_eq {d1 d2 x1 x2 : Nat} (h1 : nrm .f32 d1 = fop .add .f32 (nrm .f32 x1) (nrm .f32 1015021568)) (h2 : nrm .f32 d2 = fop .add .f32 (nrm .f32 x2) (nrm .f32 0)) : nc (d1, d2) = addC (nc (x1, x2)) dw := by
  rw [show nrm .f32 1015021568 = 1015021568 by decide +kernel] at h1
  rw [nrm0] at h2
  exact Prod.ext h1 h2
theorem PR.small {pv : Value} {rs ls : List C2} {X : Nat → Int × Int} (H : PR pv rs ls X) {Z : Int × Int} (hZ : nz Z ≤ 24) : nz (ez X ls.length Z ls.length) + nz (ez X ls.length Z ls.length) < 2 ^ 24 := by
  have a := ez_bd X H.h.b ls.length Z hZ ls.length
  have b := eb_lt ls.length (by have := H.h4; omega) ls.length (by have := H.h4; omega) (Nat.le_refl _)
  omega
theorem k_one : nrm .f64 4607182418800017408 = 4607182418800017408 := by decide +kernel
theorem k_mil : nrm .f64 4562254508917369340 = 4562254508917369340 := by decide +kernel
end Go.Proofs.YtdnoilcfgicnnaaGreat
