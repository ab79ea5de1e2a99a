/- Floors of 64-bit words, and whole words as integers. Conditions: numbers of at most 1000. -/
import Derived.Test.YtklonahkacikbaaU11
import Derived.Test.YtklonahkacikbaaU5
import Derived.Test.YtklonahkacikbaaU13
import Derived.Deep.RegionHeld3
import Derived.Deep.DeepCutAuto
namespace Go.Proofs.Ytklonahkacikbaa
open Go Go.RowKit
set_option linter.unusedSimpArgs false
set_option linter.unusedVariables false

theorem cutD_dn (s : Bool) (n drop : Nat) : Ieee.Toward.down.cut s n drop = n / 2 ^ drop + (s && n % 2 ^ drop != 0).toNat := by
  have h2 : n < 2 ^ (n.log2 + 2) := Nat.lt_of_lt_of_le Nat.lt_log2_self (Nat.pow_le_pow_right (by decide) (by omega))
  unfold Ieee.Toward.cut
  dsimp only
  rw [Nat.one_shiftLeft]
  rcases Nat.le_total drop (n.log2 + 2) with hh | hh
  · rw [Nat.min_eq_left hh]
  · rw [Nat.min_eq_right hh]
    have h3 : n < 2 ^ drop := Nat.lt_of_lt_of_le h2 (Nat.pow_le_pow_right (by decide) hh)
    rw [Nat.div_eq_of_lt h2, Nat.div_eq_of_lt h3, Nat.mod_eq_of_lt h2, Nat.mod_eq_of_lt h3]
theorem cutZ_dn (s : Bool) (n drop : Nat) : Ieee.Toward.zero.cut s n drop = n / 2 ^ drop := by
  have h2 : n < 2 ^ (n.log2 + 2) := Nat.lt_of_lt_of_le Nat.lt_log2_self (Nat.pow_le_pow_right (by decide) (by omega))
  unfold Ieee.Toward.cut
  dsimp only
  rw [Nat.one_shiftLeft]
  rcases Nat.le_total drop (n.log2 + 2) with hh | hh
  · rw [Nat.min_eq_left hh]; rfl
  · rw [Nat.min_eq_right hh]
    have h3 : n < 2 ^ drop := Nat.lt_of_lt_of_le h2 (Nat.pow_le_pow_right (by decide) hh)
    rw [Nat.div_eq_of_lt h2, Nat.div_eq_of_lt h3]; rfl
/-- A number's digits over a power of 2. -/
theorem dig_val (m : Nat) (e : Int) : (m : Rat) * p2 e * ((2 ^ (-e).toNat : Nat) : Rat) = ((m <<< e.toNat : Nat) : Rat) := by
  rw [Nat.shiftLeft_eq]
  rcases Int.le_total 0 e with he | he
  · have : (-e).toNat = 0 := by omega
    rw [this, Rat.natCast_mul, ← p2_toNat he]
    show _ * ((1 : Nat) : Rat) = _
    rw [show ((1 : Nat) : Rat) = 1 from rfl, Rat.mul_one]
  · have e1 : e.toNat = 0 := by omega
    rw [e1, ← p2_toNat (by omega), Rat.mul_assoc, p2_neg, Rat.mul_one]
    show _ = ((m * 1 : Nat) : Rat)
    rw [Nat.mul_one]
theorem sg_true (x : Rat) : sg true x = -x := rfl
theorem sg_false (x : Rat) : sg false x = x := rfl
theorem div_facts (n drop : Nat) {q : Rat} (hq : q * ((2 ^ drop : Nat) : Rat) = (n : Rat)) : ((n / 2 ^ drop : Nat) : Rat) ≤ q ∧ q < ((n / 2 ^ drop : Nat) : Rat) + 1 ∧ (n % 2 ^ drop = 0 → q = ((n / 2 ^ drop : Nat) : Rat)) ∧ (n % 2 ^ drop ≠ 0 → ((n / 2 ^ drop : Nat) : Rat) < q) := by
  have hp : 0 < 2 ^ drop := Nat.two_pow_pos drop
  have hd := Nat.div_add_mod n (2 ^ drop)
  have hm := Nat.mod_lt n hp
  have hpr : (0 : Rat) < ((2 ^ drop : Nat) : Rat) := by exact_mod_cast hp
  have hn : ((2 ^ drop : Nat) : Rat) * ((n / 2 ^ drop : Nat) : Rat) + ((n % 2 ^ drop : Nat) : Rat) = (n : Rat) := by
    rw [← Rat.natCast_mul, ← Rat.natCast_add, hd]
  have hmr : ((n % 2 ^ drop : Nat) : Rat) < ((2 ^ drop : Nat) : Rat) := by exact_mod_cast hm
  have hm0 : (0 : Rat) ≤ ((n % 2 ^ drop : Nat) : Rat) := by exact_mod_cast Nat.zero_le _
  generalize hD : ((2 ^ drop : Nat) : Rat) = D at *
  generalize hM : ((n / 2 ^ drop : Nat) : Rat) = M at *
  refine ⟨lcancel_le hpr (by grind), ?_, fun h => ?_, fun h => ?_⟩
  · refine Rat.not_le.1 (fun h => ?_)
    have := Rat.mul_le_mul_of_nonneg_right h (Rat.le_of_lt hpr)
    grind
  · have e : ((n % 2 ^ drop : Nat) : Rat) = 0 := by rw [h]; rfl
    have a := lcancel_le (a := q) (b := M) hpr (by grind)
    have b := lcancel_le (a := M) (b := q) hpr (by grind)
    exact Rat.le_antisymm a b
  · refine Rat.not_le.1 (fun h' => ?_)
    have := Rat.mul_le_mul_of_nonneg_right h' (Rat.le_of_lt hpr)
    have e : (0 : Rat) < ((n % 2 ^ drop : Nat) : Rat) := by exact_mod_cast Nat.pos_of_ne_zero h
    grind
def floorI (x : Nat) : Nat := FloatKind.f64.encode ((FloatKind.f64.decode x).integral .down)
theorem signed_rat (s : Bool) (M : Nat) : ((Ieee.signed s M 0 : Int) : Rat) = sg s (M : Rat) := by
  have := signed_val s M 0 0 (Int.le_refl _)
  rw [show (0 - 0 : Int).toNat = 0 from rfl, p2_zero, Rat.mul_one] at this
  rw [this]
  show sg s ((M : Rat) * p2 0) = _
  rw [p2_zero, Rat.mul_one]
/-- A whole word as an integer. -/
theorem toInt_whole {y : Nat} {Z : Int} (h : fN .f64 y = true) (hv : vN .f64 y = (Z : Rat)) (hZ : Z.natAbs ≤ 100000) : floatToIntVal .f64 y .i64 = some Z := by
  obtain ⟨s, m, e, hd⟩ := isNum_ex h
  have hv2 : sg s ((m : Rat) * p2 e) = (Z : Rat) := by rw [← hv]; unfold vN; rw [hd]; rfl
  have key : ((Ieee.signed s ((m <<< e.toNat) / 2 ^ (-e).toNat) 0 : Int) : Rat) = (Z : Rat) := by
    rw [signed_rat]
    have dv := dig_val m e
    have q : ∃ k : Nat, (m : Rat) * p2 e = (k : Rat) := by
      refine ⟨Z.natAbs, ?_⟩
      have a := congrArg A hv2
      rw [A_sg, A_of_nonneg (Rat.mul_nonneg (by exact_mod_cast Nat.zero_le m) (Rat.le_of_lt (p2_pos e)))] at a
      rw [a]
      unfold A
      rcases Int.le_total 0 Z with hz | hz
      · rw [if_pos (by exact_mod_cast hz), ← Rat.intCast_natCast, show ((Z.natAbs : Nat) : Int) = Z by omega]
      · by_cases h0 : (0 : Rat) ≤ (Z : Rat)
        · have : 0 ≤ Z := by exact_mod_cast h0
          obtain rfl : Z = 0 := by omega
          rfl
        · rw [if_neg h0, ← Rat.intCast_natCast, show ((Z.natAbs : Nat) : Int) = -Z by omega, Rat.intCast_neg]
    obtain ⟨k, hk⟩ := q
    rw [← hv2, hk]
    congr 1
    rw [hk] at dv
    have dv2 : k * 2 ^ (-e).toNat = m <<< e.toNat := by
      rw [← Rat.natCast_mul] at dv
      exact_mod_cast dv
    rw [← dv2, Nat.mul_div_cancel _ (Nat.two_pow_pos _)]
  have key2 : Ieee.signed s ((m <<< e.toNat) / 2 ^ (-e).toNat) 0 = Z := by exact_mod_cast key
  unfold floatToIntVal
  rw [hd]
  unfold Ieee.Datum.toInt Ieee.Datum.integral
  dsimp only
  rw [cutZ_dn, key2]
  have l1 : IntKind.i64.min ≤ Z := by rw [show IntKind.i64.min = -9223372036854775808 from by decide]; omega
  have l2 : Z ≤ IntKind.i64.max := by rw [show IntKind.i64.max = 9223372036854775807 from by decide]; omega
  rw [if_pos ⟨l1, l2⟩]
/-- The floor. -/
theorem floor_ok {x : Nat} (h : fN .f64 x = true) (hA : A (vN .f64 x) ≤ 1000) : ∃ Z : Int, fN .f64 (floorI x) = true ∧ vN .f64 (floorI x) = (Z : Rat) ∧ (Z : Rat) ≤ vN .f64 x ∧ vN .f64 x < (Z : Rat) + 1 ∧ Z.natAbs ≤ 1001 ∧ floatToIntVal .f64 (floorI x) .i64 = some Z := by
  obtain ⟨s, m, e, hd⟩ := isNum_ex h
  have hv : vN .f64 x = sg s ((m : Rat) * p2 e) := by unfold vN; rw [hd]; rfl
  obtain ⟨d1, d2, d3, d4⟩ := div_facts (m <<< e.toNat) (-e).toNat (dig_val m e)
  have hfl : floorI x = FloatKind.f64.encode (.number s ((m <<< e.toNat) / 2 ^ (-e).toNat + (s && (m <<< e.toNat) % 2 ^ (-e).toNat != 0).toNat) 0) := by
    unfold floorI; rw [hd]; unfold Ieee.Datum.integral; dsimp only; rw [cutD_dn]
  have q0 : 0 ≤ (m : Rat) * p2 e := Rat.mul_nonneg (by exact_mod_cast Nat.zero_le m) (Rat.le_of_lt (p2_pos e))
  have hq : (m : Rat) * p2 e ≤ 1000 := by rw [hv, A_sg, A_of_nonneg q0] at hA; exact hA
  generalize hM0 : (m <<< e.toNat) / 2 ^ (-e).toNat = M0 at *
  generalize hR : (m <<< e.toNat) % 2 ^ (-e).toNat = R at *
  have m0 : (M0 : Rat) ≤ ((1000 : Nat) : Rat) := Rat.le_trans d1 hq
  have m1 : M0 ≤ 1000 := by exact_mod_cast m0
  have hb : M0 + (s && R != 0).toNat ≤ 1001 := by
    have : (s && R != 0).toNat ≤ 1 := Bool.toNat_le _
    omega
  generalize hM : M0 + (s && R != 0).toNat = M at *
  have zr := signed_rat s M
  have zn : (Ieee.signed s M 0).natAbs ≤ 1001 := by
    unfold Ieee.signed
    rw [Nat.shiftLeft_zero]
    cases s
    · simp; omega
    · simp; omega
  have hAv : A (valD (.number s M 0)) = (M : Rat) * p2 0 := A_val s M 0
  have w := write_ok .f64 (.number s M 0) rfl (by
    rw [hAv, p2_zero, Rat.mul_one]
    have : (M : Rat) ≤ ((1001 : Nat) : Rat) := by exact_mod_cast hb
    have t : ((1001 : Nat) : Rat) < tK .f64 := by decide +kernel
    grind)
  have w3 := w.2.2.1 M 0 hAv (Nat.lt_of_le_of_lt hb (by decide)) (by decide)
  have vz : vN .f64 (floorI x) = ((Ieee.signed s M 0 : Int) : Rat) := by
    rw [hfl, w3, zr]
    show sg s ((M : Rat) * p2 0) = _
    rw [p2_zero, Rat.mul_one]
  have fz : fN .f64 (floorI x) = true := by rw [hfl]; exact w.1
  refine ⟨Ieee.signed s M 0, fz, vz, ?_, ?_, zn, toInt_whole fz vz (by omega)⟩
  · rw [zr, hv]
    cases s
    · rw [sg_false, sg_false, ← hM]; simp; exact d1
    · rw [sg_true, sg_true, ← hM]
      by_cases hr : R = 0
      · subst hr; simp; have := d3 rfl; grind
      · have e1 : (true && R != 0).toNat = 1 := by simp [hr]
        rw [e1, Rat.natCast_add]
        have : ((1 : Nat) : Rat) = 1 := rfl
        grind
  · rw [zr, hv]
    cases s
    · rw [sg_false, sg_false, ← hM]; simp; exact d2
    · rw [sg_true, sg_true, ← hM]
      by_cases hr : R = 0
      · subst hr; simp; have := d3 rfl; grind
      · have e1 : (true && R != 0).toNat = 1 := by simp [hr]
        rw [e1, Rat.natCast_add]
        have : ((1 : Nat) : Rat) = 1 := rfl
        have := d4 hr
        grind
end Go.Proofs.Ytklonahkacikbaa

/- The walk around a box as pure functions: corners, points, values, the sum of the angles; lists of integers. Conditions: none. -/
namespace Go.Proofs.Ytklonahkacikbaa
open Go Go.RowKit
set_option linter.unusedSimpArgs false
set_option linter.unusedVariables false

theorem upon_fop {P : Program} {o : Oper} {a : Act} {next : Act → World → Prop} {Q : Exit → Act → World → Prop} {w : World} (op : BinOp) (hop : isArith op = true) (t : TypeId) (k : FloatKind) (x y : Nat)
    (h : ∀ r n, nrm k r = fop op k (nrm k x) (nrm k y) → next (a.put o.dst (.float k r)) (w.drewN n)) :
    Oper.upon P o a next Q (((binOp op t (.float k x) (.float k y)).run P w).andThen fun v w' => .ok (.value v) w') := by
  obtain ⟨r, n, hrun, hr⟩ := run_fop (P := P) w op hop t k x y
  rw [hrun]
  exact h r n hr
theorem upon_cadd {P : Program} {o : Oper} {a : Act} {next : Act → World → Prop} {Q : Exit → Act → World → Prop} {w : World} (op : BinOp) (hop : op = .add ∨ op = .sub) (t : TypeId) (x1 x2 y1 y2 : Nat)
    (h : ∀ r s n, nrm .f32 r = fop op .f32 (nrm .f32 x1) (nrm .f32 y1) → nrm .f32 s = fop op .f32 (nrm .f32 x2) (nrm .f32 y2) → next (a.put o.dst (.complex .f32 r s)) (w.drewN n)) :
    Oper.upon P o a next Q (((binOp op t (.complex .f32 x1 x2) (.complex .f32 y1 y2)).run P w).andThen fun v w' => .ok (.value v) w') := by
  obtain ⟨r, s, n, hrun, hr, hs⟩ := run_cadd (P := P) w op hop t x1 x2 y1 y2
  rw [hrun]
  exact h r s n hr hs
set_option maxRecDepth 100000 in
set_option maxHeartbeats 400000 in
theorem times3_spec (x : C2) (b : Nat) (w : World) : Calls Try.prog 62 #[.complex .f32 x.1 x.2, .float .f32 b] w (RetX (scaleC (nc x) (nrm .f32 b)) w) := by
  go_enter Try.func62, Try.ntmps62
  go_wp2_with (with_reducible refine wpList_fop rfl _ _ _ _ _ rfl rfl .f32 _ _ rfl rfl ?_; intro r mr hr)
  go_ret
  exact ⟨_, _, _, rfl, by simp only [scaleC, nc, *], by simp only [scaleC, nc, *], by first | rfl | (simp; rfl)⟩
def RetFB (F : Nat × Bool) (w : World) (e : Ending) (w' : World) : Prop := ∃ a, e = .returned (.tuple #[.float .f32 a, .bool F.2]) ∧ nrm .f32 a = F.1 ∧ Below w.heap.size w w'
def finiteN (x : Nat) : Nat × Bool := if finF x = true then (x, true) else (0, false)
set_option maxRecDepth 100000 in
theorem checked_impl (x : Nat) (w : World) : Calls Try.prog 33 #[.float .f32 x] w (RetFB (finiteN (nrm .f32 x)) w) := by
  have n0 := nrm0
  cases hf : finF (nrm .f32 x)
  · have H := Lib.hid (show finiteN (nrm .f32 x) = (0, false) by simp [finiteN, hf])
    rw [H.out]
    go_enter Try.func33, Try.ntmps33
    go_wp2_with (go_at_call 58; go_must (refine (isFinite_impl x _).mono ?_); rintro e w' ⟨m, rfl, rfl⟩)
    go_ret2
    exact ⟨_, rfl, n0, below_drewN (Below.refl _ _) _⟩
  · have H := Lib.hid (show finiteN (nrm .f32 x) = (nrm .f32 x, true) by simp [finiteN, hf])
    rw [H.out]
    go_enter Try.func33, Try.ntmps33
    go_wp2_with (go_at_call 58; go_must (refine (isFinite_impl x _).mono ?_); rintro e w' ⟨m, rfl, rfl⟩)
    go_ret2
    exact ⟨_, rfl, rfl, below_drewN (Below.refl _ _) _⟩
set_option maxRecDepth 100000 in
theorem number1_spec (x : Nat) (w : World) : Calls Try.prog 93 #[.float .f32 x] w (RetFB (finiteN (nrm .f32 x)) w) := by
  have n0 := nrm0
  cases hf : finF (nrm .f32 x)
  · have H := Lib.hid (show finiteN (nrm .f32 x) = (0, false) by simp [finiteN, hf])
    rw [H.out]
    go_enter Try.func93, Try.ntmps93
    go_wp2_with (go_at_call 64; go_must (refine (isFinite_spec x _).mono ?_); rintro e w' ⟨m, rfl, rfl⟩)
    go_ret2
    exact ⟨_, rfl, n0, below_drewN (Below.refl _ _) _⟩
  · have H := Lib.hid (show finiteN (nrm .f32 x) = (nrm .f32 x, true) by simp [finiteN, hf])
    rw [H.out]
    go_enter Try.func93, Try.ntmps93
    go_wp2_with (go_at_call 64; go_must (refine (isFinite_spec x _).mono ?_); rintro e w' ⟨m, rfl, rfl⟩)
    go_ret2
    exact ⟨_, rfl, rfl, below_drewN (Below.refl _ _) _⟩
def gi (zs : List Int) : List Value := zs.map (Value.int .i64)
@[simp] theorem gi_length (zs : List Int) : (gi zs).length = zs.length := by simp [gi]
theorem infoI : (Try.prog.info? 2).map (fun i => (i.zero, i.size, i.bytes)) = some (some (.int .i64 0), 1, 8) := by kernel_rfl
theorem grid_succ (G : Nat → Int) (k : Nat) : gi ((List.range k).map G) ++ [.int .i64 (G k)] = gi ((List.range (k + 1)).map G) := by simp [gi, List.range_succ]
/-- A new list of integers, which is there. -/
def RetIL (zs : List Int) (w : World) (e : Ending) (w' : World) : Prop := ∃ v, e = .returned (.tuple #[v, .bool true]) ∧ OwV 2 w' w.heap.size v (gi zs) ∧ Below w.heap.size w w'
section
variable {ops : Array Oper} {o : Oper} {a : Act} {K : Act → World → Prop} {Q : Exit → Act → World → Prop} {E : Prop}
/-- One number more, as a step of a region that draws. -/
theorem step_pushC {t : TypeId} {w : World} {B : Nat} {v : Value} {xs : List Value} {y : Value} (hgd : o.guard = none) (s x : Operand) (ho : o.op = .call { callee := .builtin .append, args := #[s, x], argTypes := #[t, t] })
    (ht : Try.prog.underlying t = some (.slice 31)) (hown : RowV 31 w B v xs) (hl : xs.length ≤ 1099511627776) (hB : B ≤ w.heap.size)
    (hs : a.eval s = v) (g : Nat) (hx : a.eval x = .slice (some ⟨g, 0, none⟩) 1 1) (hc : w.cell? ⟨g, 0, none⟩ = some y) (hy : y.oneCell' = true)
    (h : ∀ v' w', RowV 31 w' B v' (xs ++ [y]) → Below B w w' → K (a.put o.dst v') w') :
    if Region.wanted o (yielded ops a.tmps) = true then Oper.wp Try.prog o a w K Q else E := by
  have hi2 := infoC
  cases hi : Try.prog.info? 31 with
  | none => rw [hi] at hi2; cases hi2
  | some i =>
  rw [hi] at hi2
  simp only [Option.map_some, Option.some.injEq, Prod.mk.injEq] at hi2
  refine step_append_lies w hgd s x t ho B 31 i (.complex .f32 0 0) 1 8 ht hi hi2.1 hi2.2.1 hi2.2.2 rfl (by decide) v xs.length xs hs hown ⟨g, 0, none⟩ 1 1 [y] hx (by simp) ?_ ?_ (by decide) (by unfold maxLen; omega) (by omega) hB w.heap.size rfl ?_
  · intro j u hj
    cases j with
    | zero => simp only [List.getElem?_cons_zero, Option.some.injEq] at hj; subst hj; simpa [Addr.add] using hc
    | succ j => simp at hj
  · intro u hu; simp only [List.mem_singleton] at hu; subst hu; exact hy
  · intro g' cap w1 hown1 hgrow hat hlt
    refine h _ w1 (by unfold RowV; simpa using hown1) ?_
    exact (Below.refl B w).grown hgrow hB (fun k hk => (World.ownsRow.lt hown k hk).1)
end
/-- The corners. -/
def corner (lo hi : C2) : Nat → C2 | 0 => lo | 1 => (hi.1, lo.2) | 2 => hi | 3 => (lo.1, hi.2) | _ => lo
theorem corner_nc (lo hi : C2) (s : Nat) : nc (corner lo hi s) = corner (nc lo) (nc hi) s := by
  rcases s with _ | _ | _ | _ | s <;> rfl
def sideF (lo hi : C2) (s : Nat) : C2 := subC (corner lo hi (s + 1)) (corner lo hi s)
def fracF (k st : Nat) : Nat := fop .quo .f32 (kf k) (kf st)
/-- The points, side by side. -/
def bpt (lo hi : C2) (st s k : Nat) : C2 := addC (corner lo hi s) (scaleC (sideF lo hi s) (fracF k st))
def bval (F : List C2) (lo hi : C2) (st i : Nat) : C2 := nestedF F (bpt lo hi st (i / st) (i % st))
/-- The values, the first one again at the end. -/
def bvs (F : List C2) (lo hi : C2) (st i : Nat) : C2 := if i < 4 * st then bval F lo hi st i else bval F lo hi st 0
def bqt (F : List C2) (lo hi : C2) (st i : Nat) : C2 := quoC (bvs F lo hi st (i + 1)) (bvs F lo hi st i)
/-- The sum of the first i angles. -/
def turnS (F : List C2) (lo hi : C2) (st : Nat) : Nat → Nat | 0 => 0 | i + 1 => fop .add .f32 (turnS F lo hi st i) (angF (bqt F lo hi st i).2 (bqt F lo hi st i).1)
/-- Nothing is too great, and no value is 0, around a box. -/
structure BoxOk (F : List C2) (lo hi : C2) (st : Nat) : Prop where
  val : validF F = true
  root : rootedF F = true
  box : boxF lo hi = true
  s4 : 4 ≤ st
  s60 : st ≤ 60
  first : bpt lo hi st 0 0 = lo
  pt : ∀ s k, s < 4 → k < st → fC (bpt lo hi st s k) ∧ safeN F (bpt lo hi st s k) ∧ fC (nestedF F (bpt lo hi st s k)) ∧ zeroC (nestedF F (bpt lo hi st s k)) = false
  quo : ∀ i, i < 4 * st → quoFit (bvs F lo hi st (i + 1)) (bvs F lo hi st i) ∧ fC (bqt F lo hi st i) ∧ A (cv (bqt F lo hi st i)).re < p2 1023 ∧ A (cv (bqt F lo hi st i)).im < p2 1023
  sum : ∀ i, i ≤ 4 * st → fN .f32 (turnS F lo hi st i) = true ∧ A (vN .f32 (turnS F lo hi st i)) ≤ 130
theorem BoxOk.at {F : List C2} {lo hi : C2} {st : Nat} (h : BoxOk F lo hi st) {s k : Nat} (hs : s < 4) (hk : k < st) : polyAtF F (bpt lo hi st s k) = (nestedF F (bpt lo hi st s k), true) := by
  obtain ⟨a, b, c, d⟩ := h.pt s k hs hk
  unfold polyAtF finiteX
  rw [if_pos ⟨h.val, (fC_iff _).1 a⟩, if_pos ((fC_iff _).1 c)]
theorem bvs_at (F : List C2) (lo hi : C2) {st s k : Nat} (hs : s < 4) (hk : k < st) : bvs F lo hi st (st * s + k) = nestedF F (bpt lo hi st s k) := by
  have h1 : st * s + k < 4 * st := by
    have : st * s ≤ st * 3 := Nat.mul_le_mul_left _ (by omega)
    omega
  have h2 : (st * s + k) / st = s := by rw [Nat.mul_add_div (by omega), Nat.div_eq_of_lt hk, Nat.add_zero]
  have h3 : (st * s + k) % st = k := by rw [Nat.mul_add_mod, Nat.mod_eq_of_lt hk]
  unfold bvs bval
  rw [if_pos h1, h2, h3]
theorem BoxOk.fin {F : List C2} {lo hi : C2} {st : Nat} (h : BoxOk F lo hi st) (i : Nat) : fC (bvs F lo hi st i) := by
  have h4 := h.s4
  unfold bvs bval
  split
  · rename_i hi
    exact (h.pt (i / st) (i % st) (Nat.div_lt_of_lt_mul (by rw [Nat.mul_comm]; exact hi)) (Nat.mod_lt _ (by omega))).2.2.1
  · exact (h.pt (0 / st) (0 % st) (by rw [Nat.zero_div]; decide) (Nat.mod_lt _ (by omega))).2.2.1
theorem nc_fin {z : C2} (h : fC z) : nc z = z := Prod.ext (fN_nrm h.1) (fN_nrm h.2)
theorem bvs_last (F : List C2) (lo hi : C2) (st : Nat) (h : 0 < st) : bvs F lo hi st (4 * st) = bvs F lo hi st 0 := by
  unfold bvs
  rw [if_neg (by omega), if_pos (by omega)]
theorem bvs_succ (F : List C2) (lo hi : C2) (st m : Nat) : (List.range (m + 1)).map (bvs F lo hi st) = (List.range m).map (bvs F lo hi st) ++ [bvs F lo hi st m] := by simp [List.range_succ]
/-- The points, the first one again at the end. -/
def bps (lo hi : C2) (st i : Nat) : C2 := if i < 4 * st then bpt lo hi st (i / st) (i % st) else lo
theorem bps_at (lo hi : C2) {st s k : Nat} (hs : s < 4) (hk : k < st) : bps lo hi st (st * s + k) = bpt lo hi st s k := by
  have h1 : st * s + k < 4 * st := by
    have : st * s ≤ st * 3 := Nat.mul_le_mul_left _ (by omega)
    omega
  have h2 : (st * s + k) / st = s := by rw [Nat.mul_add_div (by omega), Nat.div_eq_of_lt hk, Nat.add_zero]
  have h3 : (st * s + k) % st = k := by rw [Nat.mul_add_mod, Nat.mod_eq_of_lt hk]
  unfold bps
  rw [if_pos h1, h2, h3]
theorem bps_last (lo hi : C2) (st : Nat) : bps lo hi st (4 * st) = lo := by unfold bps; rw [if_neg (by omega)]
theorem bps_succ (lo hi : C2) (st m : Nat) : (List.range (m + 1)).map (bps lo hi st) = (List.range m).map (bps lo hi st) ++ [bps lo hi st m] := by simp [List.range_succ]
/-- At each point the value is told. -/
theorem BoxOk.atp {F : List C2} {lo hi : C2} {st : Nat} (h : BoxOk F lo hi st) (i : Nat) : polyAtF F (bps lo hi st i) = (bvs F lo hi st i, true) ∧ fC (bps lo hi st i) ∧ safeN F (bps lo hi st i) ∧ zeroC (bvs F lo hi st i) = false := by
  have h4 := h.s4
  unfold bps bvs bval
  by_cases hi4 : i < 4 * st
  · have h1 : i / st < 4 := Nat.div_lt_of_lt_mul (by rw [Nat.mul_comm]; exact hi4)
    have h2 : i % st < st := Nat.mod_lt _ (by omega)
    obtain ⟨a, b, _, d⟩ := h.pt _ _ h1 h2
    rw [if_pos hi4, if_pos hi4]
    exact ⟨h.at h1 h2, a, b, d⟩
  · have h1 : 0 / st < 4 := by rw [Nat.zero_div]; decide
    have h2 : 0 % st < st := Nat.mod_lt _ (by omega)
    obtain ⟨a, b, _, d⟩ := h.pt _ _ h1 h2
    have e : bpt lo hi st (0 / st) (0 % st) = lo := by rw [Nat.zero_div, Nat.zero_mod]; exact h.first
    have at0 := h.at h1 h2
    rw [if_neg hi4, if_neg hi4, e]
    rw [e] at a b d at0
    exact ⟨at0, a, b, d⟩
/-- A finite number's parts are its canonical ones. -/
theorem raw_c {z y : C2} (h : nc z = y) (hf : fC y) : z = y := by
  obtain ⟨a, b⟩ := z
  exact Prod.ext (raw_of (show nrm .f32 a = y.1 from congrArg Prod.fst h) hf.1) (raw_of (show nrm .f32 b = y.2 from congrArg Prod.snd h) hf.2)
end Go.Proofs.Ytklonahkacikbaa
