/- The value of a polynomial by nested products, of the program and of the reference. Conditions: lists of 1 to 17 numbers; what is narrowed fits float32. -/
import Derived.Test.YtklonahkacikbaaU3
namespace Go.Proofs.Ytklonahkacikbaa
set_option linter.unusedSimpArgs false
set_option linter.unusedVariables false
open Go Go.RowKit

/-- A sum or difference of complex numbers. -/
theorem run_cadd {P : Program} (w : World) (op : BinOp) (hop : op = .add ∨ op = .sub) (t : TypeId) (a b c d : Nat) :
    ∃ r s n, (binOp op t (.complex .f32 a b) (.complex .f32 c d)).run P w = .ok (.complex .f32 r s) (w.drewN n) ∧ nrm .f32 r = fop op .f32 (nrm .f32 a) (nrm .f32 c) ∧ nrm .f32 s = fop op .f32 (nrm .f32 b) (nrm .f32 d) := by
  have key : ∀ (w : World) (x y : Nat), ∃ r n, (Op.Complex.arith op .f32 x y).run P w = .ok r (w.drewN n) ∧ nrm .f32 r = fop op .f32 (nrm .f32 x) (nrm .f32 y) := by
    intro w x y
    rw [fop_nrm]
    cases h : floatBits op .f32 x y with
    | some r => exact ⟨r, 0, by rw [World.drewN_zero]; exact run_carith w h, by simp [fop, h]⟩
    | none =>
      have hc := choose_nan_f32 .f32 x y (w.tape w.drawn (.nanBits .f32 x y))
      refine ⟨Question.cut (.nanBits .f32 x y) (w.tape w.drawn (.nanBits .f32 x y)), 1, ?_, ?_⟩
      · rcases hop with rfl | rfl <;> simp only [floatBits] at h <;> simp [Op.Complex.arith, Op.floatArith, h, Question.forced, World.drew_is_drewN]
      · simp [fop, h, nrm_qnan, nrm_of_nan hc]
  obtain ⟨r, n, h1, hr⟩ := key w a c
  obtain ⟨s, m, h2, hs⟩ := key (w.drewN n) b d
  rw [World.drewN_drewN] at h2
  refine ⟨r, s, n + m, ?_, hr, hs⟩
  rcases hop with rfl | rfl <;> simp [binOp, Op.complexOp, h1, h2]

section
variable {P : Program} {w : World} {ops : Array Oper} {rest : List Oper} {o : Oper} {a : Act} {Q : Exit → Act → World → Prop}
theorem wpList_cadd (hgd : o.guard = none) (op : BinOp) (hop : op = .add ∨ op = .sub) (t t' : TypeId) (X Y : Operand) (ho : o.op = .binOp op t X Y t') (x1 x2 y1 y2 : Nat) (hx : a.eval X = .complex .f32 x1 x2) (hy : a.eval Y = .complex .f32 y1 y2)
    (h : ∀ r s n, nrm .f32 r = fop op .f32 (nrm .f32 x1) (nrm .f32 y1) → nrm .f32 s = fop op .f32 (nrm .f32 x2) (nrm .f32 y2) → wpList P ops Q rest (a.put o.dst (.complex .f32 r s)) (w.drewN n)) : wpList P ops Q (o :: rest) a w := by
  refine wpList_wanted (by simp [Region.wanted, hgd]) fun K hK => ?_
  obtain ⟨r, s, n, hrun, hr, hs⟩ := run_cadd (P := P) w op hop t x1 x2 y1 y2
  unfold Oper.wp
  rcases hop with rfl | rfl
  all_goals
    simp [execOp, ho, hx, hy, hrun, Result.andThen, eqGuard]
    exact hK _ _ (h r s n hr hs)
end
section
variable {P : Program} {ops : Array Oper} {G : FuncId → Array Value → Value → Prop} {Q : Act → Prop} {w : World} {a : Act} {o : Oper} {rest : List Oper}
theorem wpV_cadd (op : BinOp) (hop : op = .add ∨ op = .sub) (t t' : TypeId) (X Y : Operand) (ho : o.op = .binOp op t X Y t') (x1 x2 y1 y2 : Nat)
    (hx : a.eval X = .complex .f32 x1 x2) (hy : a.eval Y = .complex .f32 y1 y2) (hgd : Region.wanted o (yielded ops a.tmps) = true)
    (h : ∀ r s, nrm .f32 r = fop op .f32 (nrm .f32 x1) (nrm .f32 y1) → nrm .f32 s = fop op .f32 (nrm .f32 x2) (nrm .f32 y2) → ∀ K, Rest P ops w G Q rest K → K (a.put o.dst (.complex .f32 r s))) : wpV P ops (fun w' => ∃ m, w' = w.drewN m) G Q (o :: rest) a := by
  refine wpV_some hgd (fun v => ∃ r s, v = .complex .f32 r s ∧ nrm .f32 r = fop op .f32 (nrm .f32 x1) (nrm .f32 y1) ∧ nrm .f32 s = fop op .f32 (nrm .f32 x2) (nrm .f32 y2)) (fun m => ?_) (fun v ⟨r, s, hv, hr, hs⟩ => by subst hv; exact h r s hr hs)
  obtain ⟨r, s, n, hrun, hr, hs⟩ := run_cadd (P := P) (w.drewN m) op hop t x1 x2 y1 y2
  rw [World.drewN_drewN] at hrun
  refine ⟨.complex .f32 r s, m + n, ?_, r, s, rfl, hr, hs⟩
  rcases hop with rfl | rfl <;> simp [execOp, ho, hx, hy, hrun, Result.andThen, eqGuard]
end

theorem wrap_ok {x : Int} (h1 : -1000000 ≤ x) (h2 : x ≤ 1000000) : IntKind.i64.wrap x = x := by
  unfold IntKind.wrap
  simp [IntKind.signed, IntKind.bits]
  omega
/-- k steps of Horner's rule. -/
def horner (F : List C2) (z : C2) : Nat → C2 → C2
  | 0, v => v
  | k + 1, v => horner F z k (addC (mulC v z) (F.getD k (0, 0)))
def safeH (F : List C2) (z : C2) : Nat → C2 → Prop
  | 0, _ => True
  | k + 1, v => fit2 (timesF v z) ∧ safeH F z k (addC (mulC v z) (F.getD k (0, 0)))
def nestedF (F : List C2) (z : C2) : C2 := horner F z (F.length - 1) (F.getD (F.length - 1) (0, 0))
def safeN (F : List C2) (z : C2) : Prop := safeH F z (F.length - 1) (F.getD (F.length - 1) (0, 0))

/-- A call's result in a drawn region: a complex number, told by the function. -/
def GX (f1 f2 : FuncId) (A B : C2) (f : FuncId) (_ : Array Value) (u : Value) : Prop := ∃ a b, u = .complex .f32 a b ∧ ((f = f1 ∧ nrm .f32 a = A.1 ∧ nrm .f32 b = A.2) ∨ (f = f2 ∧ nrm .f32 a = B.1 ∧ nrm .f32 b = B.2))

set_option maxRecDepth 100000 in
set_option maxHeartbeats 1000000 in
theorem nested_impl (v : Value) (rs : List C2) (z : C2) (w : World) (hv : RdV w v (cx rs)) (h1 : 1 ≤ rs.length) (h2 : rs.length ≤ 17) (Hs : RowKit.Hid (safeN (rs.map nc) (nc z))) :
    Calls Try.prog 53 #[v, .complex .f32 z.1 z.2] w (RetX (nestedF (rs.map nc) (nc z)) w) := by
  rcases hv.openC with ⟨rfl, _⟩ | ⟨b, off, cap, rfl, hb, hcp, hc⟩
  · simp at h1
  have Hc := Lib.hid hc
  have HN := Lib.hid (show nestedF (rs.map nc) (nc z) = horner (rs.map nc) (nc z) (rs.length - 1) (nc (rs[rs.length - 1]'(by omega))) by
    unfold nestedF; rw [List.length_map, getD_nc]; simp [List.getD, show rs.length - 1 < rs.length by omega])
  have HS := Lib.hid (show safeH (rs.map nc) (nc z) (rs.length - 1) (nc (rs[rs.length - 1]'(by omega))) by
    have := Hs.out; unfold safeN at this; rw [List.length_map, getD_nc] at this; simpa [List.getD, show rs.length - 1 < rs.length by omega] using this)
  have c0 := hc (rs.length - 1) (by omega)
  rw [HN.out]
  clear hc hv HN Hs
  generalize hq : rs[rs.length - 1]'(by omega) = q at *
  obtain ⟨q1, q2⟩ := q
  clear hq
  go_enter Try.func53, Try.ntmps53
  go_wp2
  go_loopw [6, 7] (fun u i wr => ∃ (k m : Nat) (x y : Nat), k ≤ rs.length - 1 ∧ i = .int .i64 ((k : Int) - 1) ∧ u = .complex .f32 x y ∧ wr = w.drewN m ∧ horner (rs.map nc) (nc z) k (nc (x, y)) = horner (rs.map nc) (nc z) (rs.length - 1) (nc (q1, q2)) ∧ safeH (rs.map nc) (nc z) k (nc (x, y))) (fun _ i _ => (intOf i + 1).toNat)
  case atStart => exact ⟨rs.length - 1, 0, q1, q2, Nat.le_refl _, by first | rfl | go_num, rfl, rfl, rfl, HS.out⟩
  case round =>
    obtain ⟨k, m, x, y, hk, rfl, rfl, rfl, hh, hs⟩ := hrel
    by_cases h0 : k = 0
    · subst h0
      have Hh := Lib.hid hh
      clear hh hs c0 HS
      go_wp2
      go_ret
      rw [← Hh.out]
      exact ⟨x, y, _, rfl, rfl, rfl, rfl⟩
    · obtain ⟨j, rfl⟩ : ∃ j, k = j + 1 := ⟨k - 1, by omega⟩
      have e1 : ((j + 1 : Nat) : Int) - 1 = (j : Int) := by omega
      rw [e1]
      have hjl : j < rs.length := by omega
      have c1 := Hc.out j hjl
      have Hg := Lib.hid (show (rs.map nc).getD j (0, 0) = nc (rs[j]'hjl) by rw [getD_nc]; simp [List.getD, hjl])
      generalize (rs[j]'hjl) = cj at *
      obtain ⟨p1, p2⟩ := cj
      have Hh := Lib.hid (show horner (rs.map nc) (nc z) j (addC (mulC (nc (x, y)) (nc z)) (nc (p1, p2))) = horner (rs.map nc) (nc z) (rs.length - 1) (nc (q1, q2)) by rw [← Hg.out]; exact hh)
      have Hf := Lib.hid hs.1
      have Hs2 := Lib.hid (show safeH (rs.map nc) (nc z) j (addC (mulC (nc (x, y)) (nc z)) (nc (p1, p2))) by rw [← Hg.out]; exact hs.2)
      have j1 : (0 : Int) ≤ (j : Int) := by omega
      have j2 : (j : Int) < (rs.length : Int) := by omega
      clear hh hs c0 HS e1
      go_wp2
      refine wp_region_v 9 (GX 74 29 (mulC (nc (x, y)) (nc z)) (addC (mulC (nc (x, y)) (nc z)) (nc (p1, p2)))) (by kernel_rfl) (by kernel_rfl) ?_
      simp only [List.take_succ_cons, List.take_zero, List.drop_succ_cons, List.drop_zero]
      repeat (apply wpV_det; (exact rfl); (intro nq; go_simp; rfl); (intro K hK; go_simp; refine hK.use ?_; clear hK K))
      (apply wpV_call; (exact rfl); (intro nq; go_simp; exact ⟨rfl, rfl⟩); (intro nq; refine (mul_impl (x, y) z Hf _).mono ?_; rintro e w' ⟨a, b, mm, rfl, ha, hb, rfl⟩; exact ⟨_, rfl, ⟨a, b, rfl, .inl ⟨rfl, ha, hb⟩⟩, nq + mm, by simp [Nat.add_assoc]⟩); (rintro u ⟨a1, b1, rfl, h⟩); (obtain ⟨ha1, hb1⟩ : nrm .f32 a1 = _ ∧ nrm .f32 b1 = _ := by rcases h with ⟨_, h⟩ | ⟨h, _⟩; exact h; exact absurd h (by decide)); (intro K hK; go_simp; refine hK.use ?_; clear hK K))
      repeat (apply wpV_det; (exact rfl); (intro nq; go_simp; rfl); (intro K hK; go_simp; refine hK.use ?_; clear hK K))
      (apply wpV_call; (exact rfl); (intro nq; go_simp; exact ⟨rfl, rfl⟩); (intro nq; refine (plus_impl (a1, b1) (p1, p2) _).mono ?_; rintro e w' ⟨a, b, mm, rfl, ha, hb, rfl⟩; exact ⟨_, rfl, ⟨a, b, rfl, .inr ⟨rfl, by rw [ha]; simp only [addC, nc, ha1, hb1], by rw [hb]; simp only [addC, nc, ha1, hb1]⟩⟩, nq + mm, by simp [Nat.add_assoc]⟩); (rintro u ⟨a2, b2, rfl, h⟩); (obtain ⟨ha2, hb2⟩ : nrm .f32 a2 = _ ∧ nrm .f32 b2 = _ := by rcases h with ⟨h, _⟩ | ⟨_, h⟩; exact absurd h (by decide); exact h); (intro K hK; go_simp; refine hK.use ?_; clear hK K))
      repeat (apply wpV_det; (exact rfl); (intro nq; go_simp; rfl); (intro K hK; go_simp; refine hK.use ?_; clear hK K))
      refine wpV_nil (fun nq => ?_)
      refine wpList_nil ?_
      have He := Lib.hid (show nc (a2, b2) = addC (mulC (nc (x, y)) (nc z)) (nc (p1, p2)) by unfold nc at ha2 hb2 ⊢; rw [ha2, hb2])
      clear ha1 hb1 ha2 hb2
      go_wp2
      go_roundw
      case rel => exact ⟨j, _, a2, b2, by omega, by go_num, rfl, rfl, by rw [He.out]; exact Hh.out, by rw [He.out]; exact Hs2.out⟩
      case measure => first | (simp [intOf]; done) | (simp [intOf]; omega)

set_option maxRecDepth 100000 in
set_option maxHeartbeats 1000000 in
theorem at_spec (p : Nat) (v : Value) (rs : List C2) (z : C2) (w : World) (hp : w.cell? ⟨p, 0, none⟩ = some v) (hv : RdV w v (cx rs)) (h1 : 1 ≤ rs.length) (h2 : rs.length ≤ 17) (Hs : RowKit.Hid (safeN (rs.map nc) (nc z))) :
    Calls Try.prog 98 #[.pointer (some ⟨p, 0, none⟩), .complex .f32 z.1 z.2] w (RetX (nestedF (rs.map nc) (nc z)) w) := by
  obtain ⟨n, hn⟩ : ∃ n, rs.length = n + 1 := ⟨rs.length - 1, by omega⟩
  rcases hv.openC with ⟨rfl, _⟩ | ⟨b, off, cap, rfl, hb, hcp, hc⟩
  · simp at h1
  have Hc := Lib.hid (show ∀ i, i < n + 1 → w.cell? ⟨b, off + i, none⟩ = some (.complex .f32 (rs.getD i (0, 0)).1 (rs.getD i (0, 0)).2) from fun i hi => by
    rw [hc i (by omega)]; simp [List.getD, show i < rs.length by omega])
  have HN := Lib.hid (show nestedF (rs.map nc) (nc z) = horner (rs.map nc) (nc z) n (nc (rs.getD n (0, 0))) by
    unfold nestedF; rw [List.length_map, getD_nc, hn, Nat.add_sub_cancel])
  have HS := Lib.hid (show safeH (rs.map nc) (nc z) n (nc (rs.getD n (0, 0))) by
    have := Hs.out; unfold safeN at this; rwa [List.length_map, getD_nc, hn, Nat.add_sub_cancel] at this)
  have c0 := Hc.out n (by omega)
  rw [HN.out]
  rw [hn] at hcp hp
  have hn16 : n ≤ 16 := by omega
  clear hc hv HN Hs h1 h2 hn
  generalize hF : rs.map nc = F at *
  have HF := Lib.hid hF
  clear hF
  generalize hq : rs.getD n (0, 0) = q at *
  obtain ⟨q1, q2⟩ := q
  clear hq
  have j0 : (0 : Int) ≤ (n : Int) := by omega
  have q1' : IntKind.i64.wrap (n : Int) = n := IntWalk.i64_in _ ⟨by omega, by omega⟩
  have j3 : (n : Int) < (n : Int) + 1 := by omega
  go_enter Try.func98, Try.ntmps98
  go_wp2
  refine wp_region_v 13 (fun _ _ _ => False) (by kernel_rfl) (by kernel_rfl) ?_
  simp only [List.take_succ_cons, List.take_zero, List.drop_succ_cons, List.drop_zero]
  repeat (apply wpV_det; (exact rfl); (intro nq; go_simp; rfl); (intro K hK; go_simp; refine hK.use ?_; clear hK K))
  refine wpV_nil (fun nq => ?_)
  refine wpList_nil ?_
  go_wp2
  go_loopw [5, 6] (fun u i wr => ∃ (k m : Nat) (x y : Nat), k ≤ n ∧ i = .int .i64 ((k : Int) - 1) ∧ u = .complex .f32 x y ∧ wr = w.drewN m ∧ horner F (nc z) k (nc (x, y)) = horner F (nc z) n (nc (q1, q2)) ∧ safeH F (nc z) k (nc (x, y))) (fun _ i _ => (intOf i + 1).toNat)
  case atStart => exact ⟨n, _, q1, q2, Nat.le_refl _, by first | rfl | go_num | (simp; omega), rfl, by rfl, rfl, HS.out⟩
  case round =>
    obtain ⟨k, m, x, y, hk, rfl, rfl, rfl, hh, hs⟩ := hrel
    by_cases h0 : k = 0
    · subst h0
      have Hh := Lib.hid hh
      clear hh hs c0 HS
      go_wp2
      go_ret
      rw [← Hh.out]
      exact ⟨x, y, _, rfl, rfl, rfl, rfl⟩
    · obtain ⟨j, rfl⟩ : ∃ j, k = j + 1 := ⟨k - 1, by omega⟩
      have e1 : ((j + 1 : Nat) : Int) - 1 = (j : Int) := by omega
      rw [e1]
      have c1 := Hc.out j (by omega)
      have Hg := Lib.hid (show F.getD j (0, 0) = nc (rs.getD j (0, 0)) by rw [← HF.out, getD_nc])
      generalize rs.getD j (0, 0) = cj at *
      obtain ⟨p1, p2⟩ := cj
      have Hh := Lib.hid (show horner F (nc z) j (addC (mulC (nc (x, y)) (nc z)) (nc (p1, p2))) = horner F (nc z) n (nc (q1, q2)) by rw [← Hg.out]; exact hh)
      have Hf := Lib.hid hs.1
      have Hs2 := Lib.hid (show safeH F (nc z) j (addC (mulC (nc (x, y)) (nc z)) (nc (p1, p2))) by rw [← Hg.out]; exact hs.2)
      have j1 : (0 : Int) ≤ (j : Int) := by omega
      have j2 : (j : Int) < (n : Int) + 1 := by omega
      clear hh hs c0 HS e1
      go_wp2
      refine wp_region_v 12 (GX 47 47 (mulC (nc (x, y)) (nc z)) (mulC (nc (x, y)) (nc z))) (by kernel_rfl) (by kernel_rfl) ?_
      simp only [List.take_succ_cons, List.take_zero, List.drop_succ_cons, List.drop_zero]
      repeat (apply wpV_det; (exact rfl); (intro nq; go_simp; rfl); (intro K hK; go_simp; refine hK.use ?_; clear hK K))
      (apply wpV_call; (exact rfl); (intro nq; go_simp; exact ⟨rfl, rfl⟩); (intro nq; refine (mul_spec (x, y) z Hf _).mono ?_; rintro e w' ⟨a, b, mm, rfl, ha, hb, rfl⟩; exact ⟨_, rfl, ⟨a, b, rfl, .inl ⟨rfl, ha, hb⟩⟩, nq + mm, by simp [Nat.add_assoc]⟩); (rintro u ⟨a1, b1, rfl, h⟩); (obtain ⟨ha1, hb1⟩ : nrm .f32 a1 = _ ∧ nrm .f32 b1 = _ := by rcases h with ⟨_, h⟩ | ⟨_, h⟩; exact h; exact h); (intro K hK; go_simp; refine hK.use ?_; clear hK K))
      repeat (apply wpV_det; (exact rfl); (intro nq; go_simp; rfl); (intro K hK; go_simp; refine hK.use ?_; clear hK K))
      (refine wpV_cadd .add (.inl rfl) _ _ _ _ rfl _ _ _ _ rfl rfl rfl ?_; intro a2 b2 ha2 hb2; (intro K hK; go_simp; refine hK.use ?_; clear hK K))
      repeat (apply wpV_det; (exact rfl); (intro nq; go_simp; rfl); (intro K hK; go_simp; refine hK.use ?_; clear hK K))
      refine wpV_nil (fun nq => ?_)
      refine wpList_nil ?_
      have He := Lib.hid (show nc (a2, b2) = addC (mulC (nc (x, y)) (nc z)) (nc (p1, p2)) by unfold nc addC at *; simp only [ha2, hb2, ha1, hb1])
      clear ha1 hb1 ha2 hb2
      go_wp2
      go_roundw
      case rel => exact ⟨j, _, a2, b2, by omega, by go_num, rfl, rfl, by rw [He.out]; exact Hh.out, by rw [He.out]; exact Hs2.out⟩
      case measure => first | (simp [intOf]; done) | (simp [intOf]; omega)

end Go.Proofs.Ytklonahkacikbaa

/- Values of polynomials, of the program and of the reference. Conditions: polynomials of 1 to 17 terms; what is narrowed fits float32. -/
namespace Go.Proofs.Ytklonahkacikbaa
set_option linter.unusedSimpArgs false
set_option linter.unusedVariables false
open Go Go.RowKit

/-- A complex number, and whether it is there; memory may have been made. -/
def RetXB (F : C2 × Bool) (w : World) (e : Ending) (w' : World) : Prop := ∃ a b, e = .returned (.tuple #[.complex .f32 a b, .bool F.2]) ∧ nrm .f32 a = F.1.1 ∧ nrm .f32 b = F.1.2 ∧ Below w.heap.size w w'
def finiteX (z : C2) : C2 × Bool := if finC z = true then (z, true) else ((0, 0), false)
def polyAtF (F : List C2) (z : C2) : C2 × Bool := if validF F = true ∧ finC z = true then finiteX (nestedF F z) else ((0, 0), false)

set_option maxRecDepth 100000 in
theorem finite_impl (z : C2) (w : World) : Calls Try.prog 52 #[.complex .f32 z.1 z.2] w (RetXB (finiteX (nc z)) w) := by
  have n0 := nrm0
  cases h : finC (nc z)
  · have H := Lib.hid (show finiteX (nc z) = ((0, 0), false) by simp [finiteX, h])
    rw [H.out]
    go_enter Try.func52, Try.ntmps52
    go_wp2_with (go_at_call 73; go_must (refine (cfin1_impl z _).mono ?_); rintro e w' ⟨rfl, hb1⟩)
    go_ret2
    exact ⟨_, _, rfl, n0, n0, hb1⟩
  · have H := Lib.hid (show finiteX (nc z) = (nc z, true) by simp [finiteX, h])
    rw [H.out]
    go_enter Try.func52, Try.ntmps52
    go_wp2_with (go_at_call 73; go_must (refine (cfin1_impl z _).mono ?_); rintro e w' ⟨rfl, hb1⟩)
    go_ret2
    exact ⟨_, _, rfl, rfl, rfl, hb1⟩

theorem rd_c1 {w : World} {s : Nat} (hs : s = w.heap.size) (z : C2) : RdV (w.alloc (.cells #[.complex .f32 z.1 z.2] 31)) (.slice (some ⟨s, 0, none⟩) 1 1) (cx [z]) := by
  subst hs
  refine ⟨_, 1, rfl, ⟨Nat.le_refl _, by decide⟩, .inr ⟨w.heap.size, 0, rfl, fun i hi => ?_⟩⟩
  obtain rfl : i = 0 := by simp at hi; omega
  exact (World.cell?_alloc_new w #[.complex .f32 z.1 z.2] 31 0 : _)

set_option maxRecDepth 100000 in
set_option maxHeartbeats 1000000 in
theorem polyAt_impl (v : Value) (rs : List C2) (z : C2) (w : World) (hv : RdV w v (cx rs)) (h1 : 1 ≤ rs.length) (h2 : rs.length ≤ 17) (Hs : RowKit.Hid (validF (rs.map nc) = true → finC (nc z) = true → safeN (rs.map nc) (nc z))) :
    Calls Try.prog 28 #[.agg #[v], .complex .f32 z.1 z.2] w (RetXB (polyAtF (rs.map nc) (nc z)) w) := by
  have n0 := nrm0
  have Ha := Lib.hid (show allFinC [z] = finC (nc z) by simp [allFinC])
  obtain ⟨ao, cap, rfl, _⟩ := hv.shape
  rw [cx_length] at hv ⊢
  have Hv := Lib.hid hv
  clear hv
  cases hval : validF (rs.map nc)
  · have H := Lib.hid (show polyAtF (rs.map nc) (nc z) = ((0, 0), false) by simp [polyAtF, hval])
    rw [H.out]
    go_enter Try.func28, Try.ntmps28
    go_wp2_with (go_at_call 50; go_must (refine (valid_impl _ rs _ (Hv.out.alloc _) h1 h2).mono ?_); rintro e w' ⟨rfl, hb1⟩; obtain ⟨chb1, fhb1⟩ := bcell hb1; have zhb1 := hb1.size; (try simp only [World.size_alloc, World.size_setCell, World.size_drew] at zhb1); (try have lhb1 : w.heap.size < w'.heap.size := by omega))
    go_ret2
    exact ⟨_, _, rfl, n0, n0, by (repeat' (first | (with_reducible exact Below.refl _ _) | (with_reducible assumption) | (with_reducible refine Below.alloc ?_ ?_ _) | (with_reducible refine Below.setCell ?_ ?_ _) | (with_reducible refine Below.drew ?_) | (with_reducible refine Below.via (by assumption) ?_ ?_) | go_size))⟩
  · cases hfin : finC (nc z)
    · have H := Lib.hid (show polyAtF (rs.map nc) (nc z) = ((0, 0), false) by simp [polyAtF, hfin])
      rw [H.out]
      go_enter Try.func28, Try.ntmps28
      go_wp2_with (first | (go_at_call 50; go_must (refine (valid_impl _ rs _ (Hv.out.alloc _) h1 h2).mono ?_); rintro e w' ⟨rfl, hb1⟩; obtain ⟨chb1, fhb1⟩ := bcell hb1; have zhb1 := hb1.size; (try simp only [World.size_alloc, World.size_setCell, World.size_drew] at zhb1); (try have lhb1 : w.heap.size < w'.heap.size := by omega)) | (go_at_call 51; go_must (refine (allFinite_impl _ [z] _ (rd_c1 (by simp) z) (by simp)).mono ?_); rintro e w' ⟨rfl, hb2⟩; obtain ⟨chb2, fhb2⟩ := bcell hb2; have zhb2 := hb2.size; (try simp only [World.size_alloc, World.size_setCell, World.size_drew] at zhb2); (try have lhb2 : w.heap.size < w'.heap.size := by omega); rw [Ha.out]; rw [hfin]))
      go_ret2
      exact ⟨_, _, rfl, n0, n0, by (repeat' (first | (with_reducible exact Below.refl _ _) | (with_reducible assumption) | (with_reducible refine Below.alloc ?_ ?_ _) | (with_reducible refine Below.setCell ?_ ?_ _) | (with_reducible refine Below.drew ?_) | (with_reducible refine Below.via (by assumption) ?_ ?_) | go_size))⟩
    · have Hn := Lib.hid (Hs.out hval hfin)
      have H := Lib.hid (show polyAtF (rs.map nc) (nc z) = finiteX (nestedF (rs.map nc) (nc z)) by simp [polyAtF, hval, hfin])
      rw [H.out]
      go_enter Try.func28, Try.ntmps28
      go_wp2_with (first | (go_at_call 50; go_must (refine (valid_impl _ rs _ (Hv.out.alloc _) h1 h2).mono ?_); rintro e w' ⟨rfl, hb1⟩; obtain ⟨chb1, fhb1⟩ := bcell hb1; have zhb1 := hb1.size; (try simp only [World.size_alloc, World.size_setCell, World.size_drew] at zhb1); (try have lhb1 : w.heap.size < w'.heap.size := by omega)) | (go_at_call 51; go_must (refine (allFinite_impl _ [z] _ (rd_c1 (by simp) z) (by simp)).mono ?_); rintro e w' ⟨rfl, hb2⟩; obtain ⟨chb2, fhb2⟩ := bcell hb2; have zhb2 := hb2.size; (try simp only [World.size_alloc, World.size_setCell, World.size_drew] at zhb2); (try have lhb2 : w.heap.size < w'.heap.size := by omega); rw [Ha.out]; rw [hfin]))
      (go_at_call 53; ((with_reducible refine (nested_impl _ rs z _ (Hv.out.below (by (repeat' (first | (with_reducible exact Below.refl _ _) | (with_reducible assumption) | (with_reducible refine Below.alloc ?_ ?_ _) | (with_reducible refine Below.setCell ?_ ?_ _) | (with_reducible refine Below.drew ?_) | (with_reducible refine Below.via (by assumption) ?_ ?_) | go_size)))) h1 h2 Hn).mono ?_); rintro e w' ⟨a, b, m, rfl, ha, hb, rfl⟩))
      have Hab := Lib.hid (show nc (a, b) = nestedF (rs.map nc) (nc z) by unfold nc at ha hb ⊢; rw [ha, hb])
      clear ha hb
      go_wp2_with fail
      (go_at_call 52; ((with_reducible refine (finite_impl (a, b) _).mono ?_)))
      rw [Hab.out]
      rintro e w' ⟨a2, b2, rfl, ha2, hb2', hb3⟩
      generalize finiteX (nestedF (rs.map nc) (nc z)) = G at *
      have Ha2 := Lib.hid ha2
      have Hb2 := Lib.hid hb2'
      clear ha2 hb2'
      go_wp2_with fail
      go_ret2
      exact ⟨_, _, rfl, Ha2.out, Hb2.out, by (repeat' (first | (with_reducible exact Below.refl _ _) | (with_reducible assumption) | (with_reducible refine Below.alloc ?_ ?_ _) | (with_reducible refine Below.setCell ?_ ?_ _) | (with_reducible refine below_drewN ?_ _) | (with_reducible refine Below.via (by assumption) ?_ ?_) | go_size))⟩

set_option maxRecDepth 100000 in
set_option maxHeartbeats 1000000 in
theorem polyAt_spec (v : Value) (rs : List C2) (z : C2) (w : World) (hv : RdV w v (cx rs)) (h1 : 1 ≤ rs.length) (h2 : rs.length ≤ 17) (Hs : RowKit.Hid (validF (rs.map nc) = true → finC (nc z) = true → safeN (rs.map nc) (nc z))) :
    Calls Try.prog 90 #[.agg #[v], .complex .f32 z.1 z.2] w (RetXB (polyAtF (rs.map nc) (nc z)) w) := by
  have n0 := nrm0
  obtain ⟨ao, cap, rfl, _⟩ := hv.shape
  rw [cx_length] at hv ⊢
  have Hv := Lib.hid hv
  clear hv
  have P := Lib.hid (World.cell?_alloc_new w #[.slice ao rs.length cap] 28 0 : (w.alloc (.cells #[.slice ao rs.length cap] 28)).cell? ⟨w.heap.size, 0, none⟩ = some (.slice ao rs.length cap))
  have At := Lib.hid (fun m Hn => at_spec w.heap.size (.slice ao rs.length cap) rs z ((w.alloc (.cells #[.slice ao rs.length cap] 28)).drewN m) P.out (Hv.out.alloc _) h1 h2 Hn)
  cases hval : validF (rs.map nc)
  · have H := Lib.hid (show polyAtF (rs.map nc) (nc z) = ((0, 0), false) by simp [polyAtF, hval])
    rw [H.out]
    go_enter Try.func90, Try.ntmps90
    go_wp2_with (go_at_call 45; go_must (refine (is_spec _ _ rs _ P.out (Hv.out.alloc _) h1 h2).mono ?_); rintro e w' ⟨m, rfl, rfl⟩)
    go_ret2
    exact ⟨_, _, rfl, n0, n0, by (repeat' (first | (with_reducible exact Below.refl _ _) | (with_reducible assumption) | (with_reducible refine Below.alloc ?_ ?_ _) | (with_reducible refine Below.setCell ?_ ?_ _) | (with_reducible refine below_drewN ?_ _) | (with_reducible refine Below.via (by assumption) ?_ ?_) | go_size))⟩
  · cases hfin : finC (nc z)
    · have H := Lib.hid (show polyAtF (rs.map nc) (nc z) = ((0, 0), false) by simp [polyAtF, hfin])
      rw [H.out]
      go_enter Try.func90, Try.ntmps90
      go_wp2_with (first | (go_at_call 45; go_must (refine (is_spec _ _ rs _ P.out (Hv.out.alloc _) h1 h2).mono ?_); rintro e w' ⟨m, rfl, rfl⟩) | (go_at_call 43; go_must (refine (cfin1_spec z _).mono ?_); rintro e w' ⟨m, rfl, rfl⟩))
      go_ret2
      exact ⟨_, _, rfl, n0, n0, by (repeat' (first | (with_reducible exact Below.refl _ _) | (with_reducible assumption) | (with_reducible refine Below.alloc ?_ ?_ _) | (with_reducible refine Below.setCell ?_ ?_ _) | (with_reducible refine below_drewN ?_ _) | (with_reducible refine Below.via (by assumption) ?_ ?_) | go_size))⟩
    · have Hn := Lib.hid (Hs.out hval hfin)
      have H := Lib.hid (show polyAtF (rs.map nc) (nc z) = finiteX (nestedF (rs.map nc) (nc z)) by simp [polyAtF, hval, hfin])
      rw [H.out]
      go_enter Try.func90, Try.ntmps90
      go_wp2_with (first | (go_at_call 45; go_must (refine (is_spec _ _ rs _ P.out (Hv.out.alloc _) h1 h2).mono ?_); rintro e w' ⟨m, rfl, rfl⟩) | (go_at_call 43; go_must (refine (cfin1_spec z _).mono ?_); rintro e w' ⟨m, rfl, rfl⟩))
      (go_at_call 98; ((with_reducible refine (At.out _ Hn).mono ?_); rintro e w' ⟨a, b, m, rfl, ha, hb, rfl⟩))
      have Hab := Lib.hid (show nc (a, b) = nestedF (rs.map nc) (nc z) by unfold nc at ha hb ⊢; rw [ha, hb])
      have Ha := Lib.hid ha
      have Hb := Lib.hid hb
      clear ha hb
      generalize nestedF (rs.map nc) (nc z) = G at *
      cases hg : finC G
      · have HG := Lib.hid (show finiteX G = ((0, 0), false) by simp [finiteX, hg])
        go_wp2_with (go_at_call 43; go_must (refine (cfin1_spec (a, b) _).mono ?_); rw [Hab.out, hg]; rintro e w' ⟨m, rfl, rfl⟩)
        go_ret2
        rw [HG.out]
        exact ⟨_, _, rfl, n0, n0, by (repeat' (first | (with_reducible exact Below.refl _ _) | (with_reducible assumption) | (with_reducible refine Below.alloc ?_ ?_ _) | (with_reducible refine Below.setCell ?_ ?_ _) | (with_reducible refine below_drewN ?_ _) | (with_reducible refine Below.via (by assumption) ?_ ?_) | go_size))⟩
      · have HG := Lib.hid (show finiteX G = (G, true) by simp [finiteX, hg])
        go_wp2_with (go_at_call 43; go_must (refine (cfin1_spec (a, b) _).mono ?_); rw [Hab.out, hg]; rintro e w' ⟨m, rfl, rfl⟩)
        go_ret2
        rw [HG.out]
        exact ⟨_, _, rfl, Ha.out, Hb.out, by (repeat' (first | (with_reducible exact Below.refl _ _) | (with_reducible assumption) | (with_reducible refine Below.alloc ?_ ?_ _) | (with_reducible refine Below.setCell ?_ ?_ _) | (with_reducible refine below_drewN ?_ _) | (with_reducible refine Below.via (by assumption) ?_ ?_) | go_size))⟩

end Go.Proofs.Ytklonahkacikbaa

/- The slope of a polynomial: its terms, of the program. Conditions: lists of 1 to 17 numbers. -/
namespace Go.Proofs.Ytklonahkacikbaa
set_option linter.unusedSimpArgs false
set_option linter.unusedVariables false
open Go Go.RowKit

def slopeG (F : List C2) (k : Nat) : C2 := scaleC (F.getD (k + 1) (0, 0)) (nrm .f32 (floatOfInt .f32 ((k + 1 : Nat) : Int)))
def slopeF (F : List C2) : List C2 := if F.length = 1 then [(0, 0)] else (List.range (F.length - 1)).map (slopeG F)
def slopePolyF (F : List C2) : List C2 × Bool := if validF F = true then polyF (slopeF F) else ([], false)
theorem slopeF_length (F : List C2) (h : 1 ≤ F.length) : 1 ≤ (slopeF F).length ∧ (slopeF F).length ≤ F.length := by
  unfold slopeF
  split
  · simp; omega
  · simp; omega
theorem slope_succ (F : List C2) (k : Nat) : (List.range (k + 1)).map (slopeG F) = (List.range k).map (slopeG F) ++ [slopeG F k] := by simp [List.range_succ]

/-- A new list of complex numbers. -/
def RetCL (F : List C2) (w : World) (e : Ending) (w' : World) : Prop := ∃ v qs, e = .returned v ∧ qs.map nc = F ∧ OwV 31 w' w.heap.size v (cx qs) ∧ Below w.heap.size w w'

theorem row_nil {w : World} {B : Nat} (h : B ≤ w.heap.size) (e : TypeId) : RowV e (w.alloc (.cells #[] e)) B (.slice (some ⟨w.heap.size, 0, none⟩) 0 0) [] := World.ownsRow_lit w #[] 0 h (by decide) rfl
theorem row_one {w : World} {B s : Nat} (hs : s = w.heap.size) (h : B ≤ w.heap.size) (v : Value) (e : TypeId) : RowV e (w.alloc (.cells #[v] e)) B (.slice (some ⟨s, 0, none⟩) 1 1) [v] := hs ▸ World.ownsRow_lit w #[v] 1 h (by decide) rfl
theorem cx_push (qs : List C2) (a b : Nat) : cx qs ++ [.complex .f32 a b] = cx (qs ++ [(a, b)]) := by simp [cx, cxv]

end Go.Proofs.Ytklonahkacikbaa

/- The slope of a polynomial, of the program and of the reference. Conditions: polynomials of 1 to 17 terms. -/
namespace Go.Proofs.Ytklonahkacikbaa
set_option linter.unusedSimpArgs false
set_option linter.unusedVariables false
open Go Go.RowKit

theorem row_nilS {w : World} {B s : Nat} (hs : s = w.heap.size) (h : B ≤ w.heap.size) (e : TypeId) : RowV e (w.alloc (.cells #[] e)) B (.slice (some ⟨s, 0, none⟩) 0 0) [] := hs ▸ row_nil h e

end Go.Proofs.Ytklonahkacikbaa

/- Polynomials with roots, and one Newton step, of the program. Conditions: polynomials of 1 to 17 terms; what is narrowed fits float32. -/
namespace Go.Proofs.Ytklonahkacikbaa
set_option linter.unusedSimpArgs false
set_option linter.unusedVariables false
open Go Go.RowKit

def rootedF (F : List C2) : Bool := validF F && decide (2 ≤ F.length)

set_option maxRecDepth 100000 in
theorem rooted_impl (v : Value) (rs : List C2) (w : World) (hv : RdV w v (cx rs)) (h1 : 1 ≤ rs.length) (h2 : rs.length ≤ 17) :
    Calls Try.prog 24 #[.agg #[v]] w (RB (rootedF (rs.map nc)) w) := by
  obtain ⟨ao, cap, rfl, _⟩ := hv.shape
  rw [cx_length] at hv ⊢
  have Hv := Lib.hid hv
  clear hv
  cases hval : validF (rs.map nc)
  · have H := Lib.hid (show rootedF (rs.map nc) = false by simp [rootedF, hval])
    rw [H.out]
    go_enter Try.func24, Try.ntmps24
    go_wp2_with (go_at_call 50; go_must (refine (valid_impl _ rs _ (Hv.out.alloc _) h1 h2).mono ?_); rintro e w' ⟨rfl, hb1⟩; obtain ⟨chb1, fhb1⟩ := bcell hb1; have zhb1 := hb1.size; (try simp only [World.size_alloc, World.size_setCell, World.size_drew] at zhb1); (try have lhb1 : w.heap.size < w'.heap.size := by omega))
    go_ret
    exact ⟨by simp, by (repeat' (first | (with_reducible exact Below.refl _ _) | (with_reducible assumption) | (with_reducible refine Below.alloc ?_ ?_ _) | (with_reducible refine Below.setCell ?_ ?_ _) | (with_reducible refine Below.drew ?_) | (with_reducible refine Below.via (by assumption) ?_ ?_) | go_size))⟩
  · by_cases hl : 2 ≤ rs.length
    · have H := Lib.hid (show rootedF (rs.map nc) = true by simp [rootedF, hval, hl])
      rw [H.out]
      have hl3 : (1 : Int) < (rs.length : Int) := by omega
      go_enter Try.func24, Try.ntmps24
      go_wp2_with (go_at_call 50; go_must (refine (valid_impl _ rs _ (Hv.out.alloc _) h1 h2).mono ?_); rintro e w' ⟨rfl, hb1⟩; obtain ⟨chb1, fhb1⟩ := bcell hb1; have zhb1 := hb1.size; (try simp only [World.size_alloc, World.size_setCell, World.size_drew] at zhb1); (try have lhb1 : w.heap.size < w'.heap.size := by omega))
      go_ret
      exact ⟨by simp [hl3, hl]; try omega, by (repeat' (first | (with_reducible exact Below.refl _ _) | (with_reducible assumption) | (with_reducible refine Below.alloc ?_ ?_ _) | (with_reducible refine Below.setCell ?_ ?_ _) | (with_reducible refine Below.drew ?_) | (with_reducible refine Below.via (by assumption) ?_ ?_) | go_size))⟩
    · have H := Lib.hid (show rootedF (rs.map nc) = false by simp [rootedF, hl])
      rw [H.out]
      have hl3 : ¬ ((1 : Int) < (rs.length : Int)) := by omega
      go_enter Try.func24, Try.ntmps24
      go_wp2_with (go_at_call 50; go_must (refine (valid_impl _ rs _ (Hv.out.alloc _) h1 h2).mono ?_); rintro e w' ⟨rfl, hb1⟩; obtain ⟨chb1, fhb1⟩ := bcell hb1; have zhb1 := hb1.size; (try simp only [World.size_alloc, World.size_setCell, World.size_drew] at zhb1); (try have lhb1 : w.heap.size < w'.heap.size := by omega))
      go_ret
      exact ⟨by simp [hl3, hl]; try omega, by (repeat' (first | (with_reducible exact Below.refl _ _) | (with_reducible assumption) | (with_reducible refine Below.alloc ?_ ?_ _) | (with_reducible refine Below.setCell ?_ ?_ _) | (with_reducible refine Below.drew ?_) | (with_reducible refine Below.via (by assumption) ?_ ?_) | go_size))⟩

set_option maxRecDepth 100000 in
theorem rooted_spec (p : Nat) (v : Value) (rs : List C2) (w : World) (hp : w.cell? ⟨p, 0, none⟩ = some v) (hv : RdV w v (cx rs)) (h1 : 1 ≤ rs.length) (h2 : rs.length ≤ 17) :
    Calls Try.prog 59 #[.pointer (some ⟨p, 0, none⟩)] w (RetB (rootedF (rs.map nc)) w) := by
  obtain ⟨ao, cap, rfl, _⟩ := hv.shape
  rw [cx_length] at hv hp
  have P := Lib.hid (is_spec p (.slice ao rs.length cap) rs w hp hv h1 h2)
  clear hv
  cases hval : validF (rs.map nc)
  · have H := Lib.hid (show rootedF (rs.map nc) = false by simp [rootedF, hval])
    rw [H.out]
    go_enter Try.func59, Try.ntmps59
    go_wp2_with fail
    refine P.out.mono ?_
    rintro e w1 ⟨m, rfl, rfl⟩
    rw [hval]
    go_wp2_with fail
    go_ret
    exact ⟨_, by simp, rfl⟩
  · by_cases hl : 2 ≤ rs.length
    · have H := Lib.hid (show rootedF (rs.map nc) = true by simp [rootedF, hval, hl])
      rw [H.out]
      have hl3 : (2 : Int) ≤ (rs.length : Int) := by omega
      go_enter Try.func59, Try.ntmps59
      go_wp2_with fail
      refine P.out.mono ?_
      rintro e w1 ⟨m, rfl, rfl⟩
      rw [hval]
      go_wp2_with fail
      go_ret
      exact ⟨_, by simp [hl3, hl]; try omega, rfl⟩
    · have H := Lib.hid (show rootedF (rs.map nc) = false by simp [rootedF, hl])
      rw [H.out]
      have hl3 : ¬ ((2 : Int) ≤ (rs.length : Int)) := by omega
      go_enter Try.func59, Try.ntmps59
      go_wp2_with fail
      refine P.out.mono ?_
      rintro e w1 ⟨m, rfl, rfl⟩
      rw [hval]
      go_wp2_with fail
      go_ret
      exact ⟨_, by simp [hl3, hl]; try omega, rfl⟩

abbrev quoFit (x y : C2) : Prop := fit1 (fop .quo .f64 (timesF x (conjC y)).1 (powerF y)) ∧ fit1 (fop .quo .f64 (timesF x (conjC y)).2 (powerF y))
/-- One Newton step. -/
def stepF (F : List C2) (z : C2) : C2 × Bool :=
  if (rootedF F && finC z) = true then
    (if (polyAtF F z).2 = true then
      (if zeroC (polyAtF F z).1 = true then (z, true)
      else if (slopePolyF F).2 = true then
        (if ((polyAtF (slopePolyF F).1 z).2 && finC (quoC (polyAtF F z).1 (polyAtF (slopePolyF F).1 z).1)) = true then finiteX (subC z (quoC (polyAtF F z).1 (polyAtF (slopePolyF F).1 z).1)) else ((0, 0), false))
      else ((0, 0), false))
    else ((0, 0), false))
  else ((0, 0), false)
/-- Nothing is too great on the way. -/
def safeStep (F : List C2) (z : C2) : Prop := safeN F z ∧ safeN (slopePolyF F).1 z ∧ quoFit (polyAtF F z).1 (polyAtF (slopePolyF F).1 z).1

theorem polyF_pos {F : List C2} (h : 1 ≤ F.length) (h2 : (polyF F).2 = true) : 1 ≤ (polyF F).1.length := by
  unfold polyF at h2 ⊢
  split
  · have := trimN_pos F (n := F.length) (by omega)
    simp only [trimF_length]; omega
  · rename_i hh; simp [hh] at h2

end Go.Proofs.Ytklonahkacikbaa

/- One Newton step, of the program. Conditions: polynomials of 1 to 17 terms; what is narrowed fits float32. -/
namespace Go.Proofs.Ytklonahkacikbaa
set_option linter.unusedSimpArgs false
set_option linter.unusedVariables false
open Go Go.RowKit

end Go.Proofs.Ytklonahkacikbaa

/- The values of a polynomial and of its slope, of the reference. Conditions: polynomials of 1 to 17 terms; what is narrowed fits float32. -/
namespace Go.Proofs.Ytklonahkacikbaa
set_option linter.unusedSimpArgs false
set_option linter.unusedVariables false
open Go Go.RowKit

def valuesF (F : List C2) (z : C2) : (C2 × C2) × Bool :=
  if (polyAtF F z).2 = true then
    (if zeroC (polyAtF F z).1 = true then (((0, 0), (0, 0)), true)
    else if (slopePolyF F).2 = true then
      (if (polyAtF (slopePolyF F).1 z).2 = true then (((polyAtF F z).1, (polyAtF (slopePolyF F).1 z).1), true) else (((0, 0), (0, 0)), false))
    else (((0, 0), (0, 0)), false))
  else (((0, 0), (0, 0)), false)
def RetV (F : (C2 × C2) × Bool) (w : World) (e : Ending) (w' : World) : Prop :=
  ∃ a b c d, e = .returned (.tuple #[.complex .f32 a b, .complex .f32 c d, .complex .f32 0 0, .bool F.2]) ∧ nc (a, b) = F.1.1 ∧ nc (c, d) = F.1.2 ∧ Below w.heap.size w w'
theorem nc0 : nc (0, 0) = (0, 0) := by simp [nc, nrm0]

end Go.Proofs.Ytklonahkacikbaa

/- One Newton step, of the reference. Conditions: a polynomial with roots, a finite number; what is narrowed fits float32. -/
namespace Go.Proofs.Ytklonahkacikbaa
set_option linter.unusedSimpArgs false
set_option linter.unusedVariables false
open Go Go.RowKit

end Go.Proofs.Ytklonahkacikbaa

/- Newton steps one behind the other, of the reference. Conditions: a polynomial with roots, a finite number; what is narrowed fits float32. -/
namespace Go.Proofs.Ytklonahkacikbaa
set_option linter.unusedSimpArgs false
set_option linter.unusedVariables false
open Go Go.RowKit

def polishF (F : List C2) : Nat → C2 → C2 × Bool
  | 0, z => (z, true)
  | n + 1, z => if (stepF F z).2 = true then polishF F n (stepF F z).1 else ((0, 0), false)
def safePolish (F : List C2) : Nat → C2 → Prop
  | 0, _ => True
  | n + 1, z => safeStep F z ∧ ((stepF F z).2 = true → safePolish F n (stepF F z).1)
theorem finiteX_fin {z : C2} (h : (finiteX z).2 = true) : finC (finiteX z).1 = true := by
  unfold finiteX at h ⊢
  split
  · assumption
  · rename_i hh; rw [if_neg hh] at h; cases h
theorem stepF_fin {F : List C2} {z : C2} (h : (stepF F z).2 = true) : finC (stepF F z).1 = true := by
  unfold stepF at h ⊢
  split
  · rename_i h1
    rw [if_pos h1] at h
    split
    · rename_i h2
      rw [if_pos h2] at h
      split
      · simp only [Bool.and_eq_true] at h1; exact h1.2
      · rename_i h3
        rw [if_neg h3] at h
        split
        · rename_i h4
          rw [if_pos h4] at h
          split
          · rename_i h5; rw [if_pos h5] at h; exact finiteX_fin h
          · rename_i h5; rw [if_neg h5] at h; cases h
        · rename_i h4; rw [if_neg h4] at h; cases h
    · rename_i h2; rw [if_neg h2] at h; cases h
  · rename_i h1; rw [if_neg h1] at h; cases h

end Go.Proofs.Ytklonahkacikbaa

/- Ranges, lists of roots, and Newton steps one behind the other, of the program. Conditions: those of the statements. -/
namespace Go.Proofs.Ytklonahkacikbaa
set_option linter.unusedSimpArgs false
set_option linter.unusedVariables false
open Go Go.RowKit

def inB (lo n hi : Int) : Bool := decide (lo ≤ n ∧ n ≤ hi)
theorem in_spec (n lo hi : Int) (w : World) : Calls Try.prog 37 #[.int .i64 n, .int .i64 lo, .int .i64 hi] w fun e w' => e = .returned (.bool (inB lo n hi)) ∧ w = w' := by
  by_cases h1 : lo ≤ n
  · by_cases h2 : n ≤ hi
    · have hd : inB lo n hi = true := by simp [inB, h1, h2]
      rw [hd]; clear hd
      go_enter Try.func37, Try.ntmps37
      go_wp2
      go_ret
      exact ⟨rfl, rfl⟩
    · have hd : inB lo n hi = false := by simp [inB, h2]
      rw [hd]; clear hd
      go_enter Try.func37, Try.ntmps37
      go_wp2
      go_ret
      exact ⟨rfl, rfl⟩
  · have hd : inB lo n hi = false := by simp [inB, h1]
    rw [hd]; clear hd
    go_enter Try.func37, Try.ntmps37
    go_wp2
    go_ret
    exact ⟨rfl, rfl⟩

theorem within_impl (n lo hi : Int) (w : World) : Calls Try.prog 26 #[.int .i64 n, .int .i64 lo, .int .i64 hi] w fun e w' => e = .returned (.bool (inB lo n hi)) ∧ w = w' := by
  by_cases h1 : lo ≤ n
  · by_cases h2 : n ≤ hi
    · have hd : inB lo n hi = true := by simp [inB, h1, h2]
      rw [hd]; clear hd
      go_enter Try.func26, Try.ntmps26
      go_wp2
      go_ret
      exact ⟨rfl, rfl⟩
    · have hd : inB lo n hi = false := by simp [inB, h2]
      rw [hd]; clear hd
      go_enter Try.func26, Try.ntmps26
      go_wp2
      go_ret
      exact ⟨rfl, rfl⟩
  · have hd : inB lo n hi = false := by simp [inB, h1]
    rw [hd]; clear hd
    go_enter Try.func26, Try.ntmps26
    go_wp2
    go_ret
    exact ⟨rfl, rfl⟩



end Go.Proofs.Ytklonahkacikbaa

/- The number that a start comes to, of the reference. Conditions: a polynomial with roots, a finite number, 1 to 16 roots; what is narrowed fits float32. -/
namespace Go.Proofs.Ytklonahkacikbaa
set_option linter.unusedSimpArgs false
set_option linter.unusedVariables false
open Go Go.RowKit

/-- The first of the least. -/
def bestD (D : Nat → Nat) : Nat → Nat
  | 0 => 0
  | k + 1 => if fcmp .lss .f32 (D k) (D (bestD D k)) = true then k else bestD D k
theorem bestD_lt (D : Nat → Nat) {n : Nat} (h : 0 < n) : bestD D n < n := by
  induction n with
  | zero => omega
  | succ n ih =>
    unfold bestD
    split
    · omega
    · by_cases h0 : n = 0
      · subst h0; exact Nat.one_pos
      · have := ih (by omega); omega
theorem bestD_le (D : Nat → Nat) (n m : Nat) (h : n ≤ m) (h0 : 0 < m) : bestD D n < m := by
  by_cases hn : n = 0
  · subst hn; exact h0
  · have := bestD_lt D (n := n) (by omega); omega
def distF (L : List C2) (x : C2) (k : Nat) : Nat := longF (subC (L.getD k (0, 0)) x)
def basinF (F L : List C2) (z : C2) (n : Nat) : Nat × Bool := if (polishF F n z).2 = true then (bestD (distF L (polishF F n z).1) L.length, true) else (0, false)
def RetIB (F : Nat × Bool) (w : World) (e : Ending) (w' : World) : Prop := e = .returned (.tuple #[.int .i64 F.1, .bool F.2]) ∧ Below w.heap.size w w'
def GL (_ : FuncId) (args : Array Value) (u : Value) : Prop := ∃ x y a, args = #[.complex .f32 x y] ∧ u = .float .f32 a ∧ nrm .f32 a = longF (nc (x, y))

end Go.Proofs.Ytklonahkacikbaa

/- The number that a start comes to, of the program. Conditions: a polynomial with roots, a finite number, 1 to 16 finite roots; what is narrowed fits float32. -/
namespace Go.Proofs.Ytklonahkacikbaa
set_option linter.unusedSimpArgs false
set_option linter.unusedVariables false
open Go Go.RowKit

def distI (L : List C2) (x : C2) (k : Nat) : Nat := longF (subC x (L.getD k (0, 0)))
def basinI (F L : List C2) (z : C2) (n : Nat) : Nat × Bool := if (polishF F n z).2 = true then (bestD (distI L (polishF F n z).1) L.length, true) else (0, false)

end Go.Proofs.Ytklonahkacikbaa
