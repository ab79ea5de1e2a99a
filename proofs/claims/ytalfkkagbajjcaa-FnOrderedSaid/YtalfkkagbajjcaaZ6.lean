/- The length of a difference does not depend on its order. Conditions: none. -/
import Derived.Test.YtalfkkagbajjcaaZ5
namespace Go.Proofs.Ytalfkkagbajjcaa
set_option linter.unusedSimpArgs false
set_option linter.unusedVariables false
open Go Go.RowKit

/-- A datum without its sign. -/
def absD : Ieee.Datum → Ieee.Datum
  | .number _ m e => .number false m e
  | .infinity _ => .infinity false
  | .nan _ t => .nan false t
def readR (f : Ieee.Format) (s : Bool) (r : Nat) : Ieee.Datum :=
  if r < f.binade then .number s r f.leastPlace
  else if r < f.infRung then .number s (f.binade + r % f.binade) (f.leastPlace + (r / f.binade - 1 : Nat))
  else if r = f.infRung then .infinity s
  else .nan s (r - f.infRung)
theorem read_word (f : Ieee.Format) (s : Bool) (r : Nat) (h : r ≤ f.infRung) : f.read (f.word s r) = readR f s r := by
  have hsw := f.infRung_lt
  have h1 : f.word s r % f.signWeight = r := by
    unfold Ieee.Format.word
    split
    · rw [Nat.add_mod_left, Nat.mod_eq_of_lt (by omega)]
    · rw [Nat.mod_eq_of_lt (by omega)]
  have h2 : (f.word s r / f.signWeight % 2 == 1) = s := by
    unfold Ieee.Format.word
    cases s
    · rw [if_neg (by simp), Nat.div_eq_of_lt (by omega)]; rfl
    · rw [if_pos rfl, Nat.add_div_left _ (by omega), Nat.div_eq_of_lt (by omega)]; rfl
  unfold Ieee.Format.read readR
  simp only [h1, h2]
theorem absD_readR (f : Ieee.Format) (s t : Bool) (r : Nat) : absD (readR f s r) = absD (readR f t r) := by
  unfold readR
  split
  · rfl
  · split
    · rfl
    · split <;> rfl
theorem nearest_sign (f : Ieee.Format) (m : Nat) (e : Int) : ∃ r, r ≤ f.infRung ∧ ∀ s, f.nearest s m e = f.word s r := by
  unfold Ieee.Format.nearest
  by_cases hm : m = 0
  · exact ⟨0, Nat.zero_le _, fun s => by rw [if_pos hm]⟩
  · refine ⟨min ((max (e + m.log2 - f.fractionBits) f.leastPlace - f.leastPlace).toNat * f.binade + Ieee.Toward.even.cut false (m <<< (e - max (e + m.log2 - f.fractionBits) f.leastPlace).toNat) (max (e + m.log2 - f.fractionBits) f.leastPlace - e).toNat) f.infRung, Nat.min_le_right .., fun s => ?_⟩
    rw [if_neg hm]
    rfl
theorem absD_write (f : Ieee.Format) {x y : Ieee.Datum} (hx : x.isNaN = false) (h : absD x = absD y) : absD (f.read (f.write x)) = absD (f.read (f.write y)) := by
  cases x with
  | nan s t => simp [Ieee.Datum.isNaN] at hx
  | infinity s =>
    cases y with
    | infinity t =>
      show absD (f.read (f.word s f.infRung)) = absD (f.read (f.word t f.infRung))
      rw [read_word _ _ _ (Nat.le_refl _), read_word _ _ _ (Nat.le_refl _)]
      exact absD_readR _ _ _ _
    | number t n j => simp [absD] at h
    | nan t u => simp [absD] at h
  | number s m e =>
    cases y with
    | infinity t => simp [absD] at h
    | nan t u => simp [absD] at h
    | number t n j =>
      simp only [absD, Ieee.Datum.number.injEq, true_and] at h
      obtain ⟨rfl, rfl⟩ := h
      obtain ⟨r, hr, hs⟩ := nearest_sign f m e
      show absD (f.read (f.nearest s m e)) = absD (f.read (f.nearest t m e))
      rw [hs, hs, read_word _ _ _ hr, read_word _ _ _ hr]
      exact absD_readR _ _ _ _

theorem sum_swap (x y : Ieee.Datum) : (x.sum y.opposite).map absD = (y.sum x.opposite).map absD := by
  cases x with
  | nan s t => cases y <;> rfl
  | infinity s =>
    cases y with
    | nan t u => rfl
    | infinity t => cases s <;> cases t <;> rfl
    | number t n j => rfl
  | number s m i =>
    cases y with
    | nan t u => rfl
    | infinity t => rfl
    | number t n j =>
      have key : ∀ a b : Nat, Ieee.signed s m a + Ieee.signed (!t) n b = -(Ieee.signed t n b + Ieee.signed (!s) m a) := by
        intro a b
        cases s <;> cases t <;> simp [Ieee.signed] <;> omega
      simp only [Ieee.Datum.opposite, Ieee.Datum.sum, Option.map_some, absD]
      rw [Int.min_comm j i, key, Int.natAbs_neg]

/-- Words that differ in the sign alone. -/
def AbsEq (k : FloatKind) (x y : Nat) : Prop := absD (k.decode x) = absD (k.decode y)
theorem sum_notNaN {x y z : Ieee.Datum} (h : x.sum y = some z) : z.isNaN = false := by
  cases x <;> cases y <;> simp only [Ieee.Datum.sum] at h <;> first | (cases h; rfl) | (split at h <;> cases h; rfl) | cases h
theorem fop_sub_abs (a b : Nat) : AbsEq .f32 (fop .sub .f32 a b) (fop .sub .f32 b a) := by
  have h1 : floatBits .sub .f32 a b = ((Ieee.single.read a).sum (Ieee.single.read b).opposite).map Ieee.single.write := rfl
  have h2 : floatBits .sub .f32 b a = ((Ieee.single.read b).sum (Ieee.single.read a).opposite).map Ieee.single.write := rfl
  have hs := sum_swap (Ieee.single.read a) (Ieee.single.read b)
  cases e1 : (Ieee.single.read a).sum (Ieee.single.read b).opposite with
  | none =>
    rw [e1] at hs h1
    cases e2 : (Ieee.single.read b).sum (Ieee.single.read a).opposite with
    | none => rw [e2] at h2; unfold AbsEq fop; rw [h1, h2]
    | some y => rw [e2] at hs; cases hs
  | some x =>
    rw [e1] at hs h1
    cases e2 : (Ieee.single.read b).sum (Ieee.single.read a).opposite with
    | none => rw [e2] at hs; cases hs
    | some y =>
      rw [e2] at hs h2
      have hxy : absD x = absD y := by simpa using hs
      have hx := sum_notNaN e1
      have hy := sum_notNaN e2
      have hw := absD_write Ieee.single hx hxy
      have nn : ∀ z : Ieee.Datum, z.isNaN = false → isN .f32 (Ieee.single.write z) = false := by
        intro z hz
        cases z with
        | nan s t => simp [Ieee.Datum.isNaN] at hz
        | infinity s =>
          show (Ieee.single.read (Ieee.single.word s Ieee.single.infRung)).isNaN = false
          rw [read_word _ _ _ (Nat.le_refl _)]
          cases s <;> decide +kernel
        | number s m e =>
          obtain ⟨r, hr, hs⟩ := nearest_sign Ieee.single m e
          show (Ieee.single.read (Ieee.single.nearest s m e)).isNaN = false
          rw [hs, read_word _ _ _ hr]
          unfold readR
          split
          · rfl
          · split
            · rfl
            · split
              · rfl
              · omega
      unfold AbsEq fop
      rw [h1, h2]
      simp only [Option.map_some, Option.getD_some]
      rw [nrm_of_not (nn x hx), nrm_of_not (nn y hy)]
      exact hw
theorem isN_write {k : FloatKind} {z : Ieee.Datum} (hz : z.isNaN = false) : isN k (k.encode z) = false := by
  cases z with
  | nan s t => simp [Ieee.Datum.isNaN] at hz
  | infinity s =>
    show (k.format.read (k.format.word s k.format.infRung)).isNaN = false
    rw [read_word _ _ _ (Nat.le_refl _)]
    cases k <;> cases s <;> decide +kernel
  | number s m e =>
    obtain ⟨r, hr, hs⟩ := nearest_sign k.format m e
    show (k.format.read (k.format.nearest s m e)).isNaN = false
    rw [hs, read_word _ _ _ hr]
    unfold readR
    split
    · rfl
    · split
      · rfl
      · split
        · rfl
        · omega
theorem absD_inf {x y : Ieee.Datum} (h : absD x = absD y) : x.isInfinity = y.isInfinity := by
  cases x <;> cases y <;> simp [absD] at h <;> rfl
theorem absEq_wd {x y : Nat} (h : AbsEq .f32 x y) : AbsEq .f64 (wd x) (wd y) := by
  unfold AbsEq at h
  have hne : ¬ (FloatKind.f32 = FloatKind.f64) := by decide
  unfold wd fcvt floatToFloatBits
  rw [if_neg hne, if_neg hne]
  cases hx : FloatKind.f32.decode x with
  | nan s t =>
    rw [hx] at h
    cases hy : FloatKind.f32.decode y with
    | nan s' t' => rfl
    | infinity s' => rw [hy] at h; simp [absD] at h
    | number s' m e => rw [hy] at h; simp [absD] at h
  | infinity s =>
    rw [hx] at h
    cases hy : FloatKind.f32.decode y with
    | nan s' t' => rw [hy] at h; simp [absD] at h
    | number s' m e => rw [hy] at h; simp [absD] at h
    | infinity s' =>
      unfold AbsEq
      simp only [Option.getD_some]
      rw [nrm_of_not (isN_write (k := .f64) (z := .infinity s) rfl), nrm_of_not (isN_write (k := .f64) (z := .infinity s') rfl)]
      exact absD_write Ieee.double (x := .infinity s) (y := .infinity s') rfl rfl
  | number s m e =>
    rw [hx] at h
    cases hy : FloatKind.f32.decode y with
    | nan s' t' => rw [hy] at h; simp [absD] at h
    | infinity s' => rw [hy] at h; simp [absD] at h
    | number s' n j =>
      rw [hy] at h
      have hw := absD_write Ieee.double (x := .number s m e) (y := .number s' n j) rfl h
      have hi : (FloatKind.f64.decode (FloatKind.f64.encode (.number s m e))).isInfinity = (FloatKind.f64.decode (FloatKind.f64.encode (.number s' n j))).isInfinity := absD_inf hw
      unfold AbsEq
      simp only
      rw [hi]
      split
      · rfl
      · simp only [Option.getD_some]
        rw [nrm_of_not (isN_write (k := .f64) (z := .number s m e) rfl), nrm_of_not (isN_write (k := .f64) (z := .number s' n j) rfl)]
        exact hw
theorem product_self {x y : Ieee.Datum} (h : absD x = absD y) : x.product x = y.product y := by
  cases x <;> cases y <;> simp [absD] at h
  · rename_i s m e t n j; obtain ⟨rfl, rfl⟩ := h; cases s <;> cases t <;> rfl
  · rename_i s t; cases s <;> cases t <;> rfl
  · rfl
theorem square_abs {x y : Nat} (h : AbsEq .f64 x y) : fop .mul .f64 x x = fop .mul .f64 y y := by
  have h1 : floatBits .mul .f64 x x = ((Ieee.double.read x).product (Ieee.double.read x)).map Ieee.double.write := rfl
  have h2 : floatBits .mul .f64 y y = ((Ieee.double.read y).product (Ieee.double.read y)).map Ieee.double.write := rfl
  unfold fop
  rw [h1, h2, show (Ieee.double.read x).product (Ieee.double.read x) = (Ieee.double.read y).product (Ieee.double.read y) from product_self h]
theorem power_swap (x y : C2) : powerF (subC x y) = powerF (subC y x) := by
  unfold powerF subC
  rw [square_abs (absEq_wd (fop_sub_abs x.1 y.1)), square_abs (absEq_wd (fop_sub_abs x.2 y.2))]
theorem dist_swap (L : List C2) (x : C2) : distI L x = distF L x := by
  funext k
  unfold distI distF longF
  rw [power_swap]
theorem basin_swap (F L : List C2) (z : C2) (n : Nat) : basinI F L z n = basinF F L z n := by
  unfold basinI basinF
  rw [dist_swap]

end Go.Proofs.Ytalfkkagbajjcaa

/- Grids of basins, of the reference. Conditions: side 4, six turns, one to eight workers; a polynomial with roots, a box; what is narrowed fits float32. -/
namespace Go.Proofs.Ytalfkkagbajjcaa
set_option linter.unusedSimpArgs false
set_option linter.unusedVariables false
open Go Go.RowKit

def gi (zs : List Int) : List Value := zs.map (Value.int .i64)
@[simp] theorem gi_length (zs : List Int) : (gi zs).length = zs.length := by simp [gi]
theorem infoI : (Try.prog.info? 2).map (fun i => (i.zero, i.size, i.bytes)) = some (some (.int .i64 0), 1, 8) := by kernel_rfl
/-- A point of the grid. -/
def ptF (lo sz : C2) (i k : Nat) : C2 :=
  (fop .add .f32 lo.1 (fop .mul .f32 sz.1 (fop .quo .f32 (nrm .f32 (floatOfInt .f32 (i : Int))) (nrm .f32 (floatOfInt .f32 3)))),
   fop .add .f32 lo.2 (fop .mul .f32 sz.2 (fop .quo .f32 (nrm .f32 (floatOfInt .f32 (k : Int))) (nrm .f32 (floatOfInt .f32 3)))))
def gridG (F L : List C2) (lo sz : C2) (j : Nat) : Int := if (basinF F L (ptF lo sz (j % 4) (j / 4)) 6).2 = true then ((basinF F L (ptF lo sz (j % 4) (j / 4)) 6).1 : Int) else -1
def gridF (F L : List C2) (lo sz : C2) : List Int := (List.range 16).map (gridG F L lo sz)
theorem grid_succ (G : Nat → Int) (k : Nat) : gi ((List.range k).map G) ++ [.int .i64 (G k)] = gi ((List.range (k + 1)).map G) := by simp [gi, List.range_succ]
/-- A new list of integers, which is there. -/
def RetIL (zs : List Int) (w : World) (e : Ending) (w' : World) : Prop := ∃ v, e = .returned (.tuple #[v, .bool true]) ∧ OwV 2 w' w.heap.size v (gi zs) ∧ Below w.heap.size w w'
/-- Nothing is too great from any point of the grid. -/
def safeGrid (F L : List C2) (lo sz : C2) : Prop := ∀ i k, i < 4 → k < 4 → finC (ptF lo sz i k) = true ∧ safePolish F 6 (ptF lo sz i k) ∧ ∀ j, j < L.length → fit1 (sqF (powerF (subC (L.getD j (0, 0)) (polishF F 6 (ptF lo sz i k)).1)))

set_option maxRecDepth 100000 in
set_option maxHeartbeats 4000000 in
theorem grid_spec (v lv : Value) (rs ls : List C2) (lo hi : C2) (wk : Int) (w : World) (hv : RdV w v (cx rs)) (h1 : 1 ≤ rs.length) (h2 : rs.length ≤ 17)
    (hl : RdV w lv (cx ls)) (hl1 : 1 ≤ ls.length) (hl2 : ls.length ≤ 16) (hlf : allFinC ls = true) (hroot : rootedF (rs.map nc) = true) (hbox : boxF (nc lo) (nc hi) = true) (hw1 : 1 ≤ wk) (hw2 : wk ≤ 8)
    (Hs : RowKit.Hid (safeGrid (rs.map nc) (ls.map nc) (nc lo) (subC (nc hi) (nc lo)))) :
    Calls Try.prog 12 #[.agg #[v], lv, .complex .f32 lo.1 lo.2, .complex .f32 hi.1 hi.2, .int .i64 4, .int .i64 6, .int .i64 wk] w (RetIL (gridF (rs.map nc) (ls.map nc) (nc lo) (subC (nc hi) (nc lo))) w) := by
  obtain ⟨ao, cap, rfl, _⟩ := hv.shape
  obtain ⟨ao2, cap2, rfl, _⟩ := hl.shape
  rw [cx_length] at hv hl ⊢
  have Xp := Lib.hid (World.cell?_alloc_new w #[.slice ao rs.length cap] 38 0 : (w.alloc (.cells #[.slice ao rs.length cap] 38)).cell? ⟨w.heap.size, 0, none⟩ = some (.slice ao rs.length cap))
  have I1 := Lib.hid (show inB 2 4 24 = true by decide)
  have I3 := Lib.hid (show inB 1 wk 8 = true by simp [inB]; omega)
  have Sz := Lib.hid (show (w.alloc (.cells #[.slice ao rs.length cap] 38)).heap.size = w.heap.size + 1 by simp)
  have B0 := Lib.hid (show Below w.heap.size w (w.alloc (.cells #[.slice ao rs.length cap] 38)) from (Below.refl _ _).alloc (Nat.le_refl _) _)
  have Hv := Lib.hid (hv.alloc (.cells #[.slice ao rs.length cap] 38))
  have Hl := Lib.hid (hl.alloc (.cells #[.slice ao rs.length cap] 38))
  have RI := Lib.hid (rooted_spec w.heap.size _ rs _ Xp.out Hv.out h1 h2)
  rw [hroot] at RI
  have BS := Lib.hid (fun w1 z (hb : Below (w.alloc (.cells #[.slice ao rs.length cap] 38)).heap.size (w.alloc (.cells #[.slice ao rs.length cap] 38)) w1) hf Hs Hd =>
    basin_spec w.heap.size _ (.slice ao2 ls.length cap2) rs ls z 6 w1 ((hb.cell (p := ⟨w.heap.size, 0, none⟩) (by simp)).trans Xp.out) (Hv.out.below hb) h1 h2 (Hl.out.below hb) hl1 hl2 hroot hf (by decide) Hs Hd)
  have LI := Lib.hid (fun m => list_spec (.slice ao2 ls.length cap2) ls ((w.alloc (.cells #[.slice ao rs.length cap] 38)).drewN m) Hl.out hl1 hl2)
  rw [hlf] at LI
  have BX := Lib.hid (fun m => box_spec lo hi hbox ((w.alloc (.cells #[.slice ao rs.length cap] 38)).drewN m))
  have LL := Lib.hid (show (ls.map nc).length = ls.length from List.length_map ..)
  clear hv hl h1 h2 hl1 hl2 hlf hroot hbox Hv Hl
  generalize rs.map nc = F at *
  generalize ls.map nc = L at *
  go_enter Try.func12, Try.ntmps12
  go_wp2_with fail
  refine RI.out.mono ?_
  rintro e w' ⟨m1, rfl, rfl⟩
  go_wp2_with fail
  refine (LI.out _).mono ?_
  rintro e w' ⟨m2, rfl, rfl⟩
  go_wp2_with fail
  refine (BX.out _).mono ?_
  rintro e w' ⟨m3, rfl, rfl⟩
  generalize w.alloc (.cells #[.slice ao rs.length cap] 38) = W at *
  have sz := Sz.out
  go_wp2_with (first | (go_at_call 34; go_must (refine (in_spec _ _ _ _).mono ?_); (first | rw [I1.out] | rw [I3.out]); rintro e w' ⟨rfl, rfl⟩) | (go_at_call 35; go_must (refine (times_spec 6 0 (by decide) (by decide) _).mono ?_); rintro e w' ⟨rfl, rfl⟩) | (with_reducible refine wpList_cadd rfl .sub (.inr rfl) _ _ _ _ rfl _ _ _ _ rfl rfl ?_; intro d1 d2 m5 hd1 hd2))
  have hd : nc (d1, d2) = subC (nc hi) (nc lo) := Prod.ext hd1 hd2
  clear hd1 hd2
  generalize subC (nc hi) (nc lo) = Z at *
  have hd1 : nrm .f32 d1 = Z.1 := congrArg Prod.fst hd
  have hd2 : nrm .f32 d2 = Z.2 := congrArg Prod.snd hd
  have Hd1 := Lib.hid hd1
  have Hd2 := Lib.hid hd2
  clear hd hd1 hd2 RI LI BX
  go_wp2_with fail
  go_loopw [17, 18] (fun ov kv wr => ∃ (k : Nat), k ≤ 4 ∧ kv = .int .i64 k ∧ RowV 2 wr W.heap.size ov (gi ((List.range (4 * k)).map (gridG F L (nc lo) Z))) ∧ Below W.heap.size W wr) (fun _ kv _ => 4 - (intOf kv).toNat)
  case atStart => exact ⟨0, by omega, rfl, row_nilS (w := W.drewN _) (by rw [← sz]; rfl) (Nat.le_refl _) _, (below_drewN (Below.refl _ _) _).alloc (Nat.le_refl _) _⟩
  case round =>
    obtain ⟨k, hk, rfl, hrow, hbel⟩ := hrel
    by_cases hk4 : k < 4
    · have j1 : (k : Int) < 4 := by omega
      go_wp2_with fail
      go_loopw [17, 19] (fun ov iv wi => ∃ (i : Nat), i ≤ 4 ∧ iv = .int .i64 i ∧ RowV 2 wi W.heap.size ov (gi ((List.range (4 * k + i)).map (gridG F L (nc lo) Z))) ∧ Below W.heap.size W wi) (fun _ iv _ => 4 - (intOf iv).toNat)
      case atStart => exact ⟨0, by omega, rfl, hrow, hbel⟩
      case round =>
        obtain ⟨i, hi4, rfl, hrow2, hbel2⟩ := hrel
        have hsz2 := hbel2.size
        by_cases hi : i < 4
        · have j2 : (i : Int) < 4 := by omega
          have KEY : ∀ n x y, nrm .f32 x = (ptF (nc lo) Z i k).1 → nrm .f32 y = (ptF (nc lo) Z i k).2 →
              Calls Try.prog 36 #[.pointer (some ⟨w.heap.size, 0, none⟩), .slice ao2 ls.length cap2, .complex .f32 x y, .int .i64 6] (wr.drewN n) (RetIB (basinF F L (ptF (nc lo) Z i k) 6) (wr.drewN n)) := by
            intro n x y hx hy
            have e : nc (x, y) = ptF (nc lo) Z i k := Prod.ext hx hy
            have h3 := Hs.out i k hi hk4
            have := BS.out (wr.drewN n) (x, y) (below_drewN hbel2 n) (by rw [e]; exact h3.1) (Lib.hid (by rw [e]; exact h3.2.1)) (Lib.hid (fun j hj => by rw [e]; exact h3.2.2 j (by rw [LL.out]; exact hj)))
            rw [e] at this
            exact this
          have Hkey := Lib.hid KEY
          have Hg := Lib.hid (show gridG F L (nc lo) Z (4 * k + i) = if (basinF F L (ptF (nc lo) Z i k) 6).2 = true then ((basinF F L (ptF (nc lo) Z i k) 6).1 : Int) else -1 by
            unfold gridG
            rw [show (4 * k + i) % 4 = i by omega, show (4 * k + i) / 4 = k by omega])
          have Hl := Lib.hid (show (gi ((List.range (4 * k + i)).map (gridG F L (nc lo) Z))).length ≤ 1099511627776 by simp; omega)
          have hd1 := Hd1.out
          have hd2 := Hd2.out
          have Hb2 := Lib.hid hbel2
          clear KEY hbel2 hrow hbel
          go_wp2_with (with_reducible refine wpList_fop rfl _ _ _ _ _ rfl rfl .f32 _ _ rfl rfl ?_; intro r m hr)
          refine (Hkey.out _ _ _ (by simp only [ptF, nc, *]) (by simp only [ptF, nc, *])).mono ?_
          generalize basinF F L (ptF (nc lo) Z i k) 6 = B at *
          obtain ⟨b0, ok⟩ := B
          rintro e w3 ⟨rfl, hb3⟩
          have Hb3 := Lib.hid (show Below W.heap.size W w3 from (below_drewN Hb2.out _).trans (hb3.mono (show W.heap.size ≤ wr.heap.size from hsz2)))
          have hrow := (show RowV 2 w3 W.heap.size _ _ from hrow2.below (w := wr) (w' := w3) ⟨hb3.os, hb3.tape, hb3.output, hb3.size, hb3.block⟩)
          have hsz3 := Hb3.out.size
          clear hb3 Hkey hd1 hd2 hrow2
          cases ok
          · have Hg2 := Lib.hid (show gridG F L (nc lo) Z (4 * k + i) = -1 from Hg.out)
            go_wp2_with (at_builtin; go_must (refine wpList_pushV (.int .i64 0) 8 hrow infoI rfl rfl (by decide) rfl _ _ rfl Try.underlying29 Hl.out (by omega) rfl rfl rfl rfl rfl rfl ?_); intro v1 w1 hr1 hb1 hg1 ho1)
            go_roundw
            case rel => exact ⟨i + 1, by omega, by go_num, by rw [show 4 * k + (i + 1) = (4 * k + i) + 1 by omega, ← grid_succ, Hg2.out]; exact hr1, Hb3.out.trans hb1⟩
            case measure => simp [intOf]; omega
          · have Hg2 := Lib.hid (show gridG F L (nc lo) Z (4 * k + i) = (b0 : Int) from Hg.out)
            go_wp2_with (at_builtin; go_must (refine wpList_pushV (.int .i64 0) 8 hrow infoI rfl rfl (by decide) rfl _ _ rfl Try.underlying29 Hl.out (by omega) rfl rfl rfl rfl rfl rfl ?_); intro v1 w1 hr1 hb1 hg1 ho1)
            go_roundw
            case rel => exact ⟨i + 1, by omega, by go_num, by rw [show 4 * k + (i + 1) = (4 * k + i) + 1 by omega, ← grid_succ, Hg2.out]; exact hr1, Hb3.out.trans hb1⟩
            case measure => simp [intOf]; omega
        · obtain rfl : i = 4 := by omega
          go_wp2_with fail
          go_roundw
          case rel => exact ⟨k + 1, by omega, by go_num, by rw [show 4 * (k + 1) = 4 * k + 4 by omega]; exact hrow2, hbel2⟩
          case measure => simp [intOf]; omega
    · obtain rfl : k = 4 := by omega
      go_wp2_with fail
      go_ret2
      exact ⟨_, rfl, (hrow.own.mono (by omega)), B0.out.trans (hbel.mono (by omega))⟩

end Go.Proofs.Ytalfkkagbajjcaa

/- Grids of basins, of the program. Conditions: side 4, six turns, one to eight workers; a polynomial with roots, a box; what is narrowed fits float32. -/
namespace Go.Proofs.Ytalfkkagbajjcaa
set_option linter.unusedSimpArgs false
set_option linter.unusedVariables false
open Go Go.RowKit

set_option maxRecDepth 100000 in
set_option maxHeartbeats 4000000 in
theorem grid_impl (v lv : Value) (rs ls : List C2) (lo hi : C2) (wk : Int) (w : World) (hv : RdV w v (cx rs)) (h1 : 1 ≤ rs.length) (h2 : rs.length ≤ 17)
    (hl : RdV w lv (cx ls)) (hl1 : 1 ≤ ls.length) (hl2 : ls.length ≤ 16) (hlf : allFinC ls = true) (hroot : rootedF (rs.map nc) = true) (hbox : boxF (nc lo) (nc hi) = true) (hw1 : 1 ≤ wk) (hw2 : wk ≤ 8)
    (Hs : RowKit.Hid (safeGrid (rs.map nc) (ls.map nc) (nc lo) (subC (nc hi) (nc lo)))) :
    Calls Try.prog 13 #[.agg #[v], lv, .complex .f32 lo.1 lo.2, .complex .f32 hi.1 hi.2, .int .i64 4, .int .i64 6, .int .i64 wk] w (RetIL (gridF (rs.map nc) (ls.map nc) (nc lo) (subC (nc hi) (nc lo))) w) := by
  obtain ⟨ao, cap, rfl, _⟩ := hv.shape
  obtain ⟨ao2, cap2, rfl, _⟩ := hl.shape
  rw [cx_length] at hv hl ⊢
  have I1 := Lib.hid (show inB 2 4 24 = true by decide)
  have I2 := Lib.hid (show inB 0 6 64 = true by decide)
  have Xp := Lib.hid (World.cell?_alloc_new w #[.slice ao rs.length cap] 38 0 : (w.alloc (.cells #[.slice ao rs.length cap] 38)).cell? ⟨w.heap.size, 0, none⟩ = some (.slice ao rs.length cap))
  have Hv := Lib.hid (hv.alloc (.cells #[.slice ao rs.length cap] 38))
  have Hl := Lib.hid (hl.alloc (.cells #[.slice ao rs.length cap] 38))
  have B0 := Lib.hid (show Below w.heap.size w (w.alloc (.cells #[.slice ao rs.length cap] 38)) from (Below.refl _ _).alloc (Nat.le_refl _) _)
  have RI := Lib.hid (fun w1 hv => rooted_impl (.slice ao rs.length cap) rs w1 hv h1 h2)
  rw [hroot] at RI
  have LI := Lib.hid (fun w1 hl => areRoots_impl (.slice ao2 ls.length cap2) ls w1 hl hl1 hl2)
  rw [hlf] at LI
  have BX := Lib.hid (fun w1 => box_impl lo hi hbox w1)
  have LL := Lib.hid (show (ls.map nc).length = ls.length from List.length_map ..)
  have BI := Lib.hid (fun w1 z hv hl hf Hs Hd => basin_impl (.slice ao rs.length cap) (.slice ao2 ls.length cap2) rs ls z 6 w1 hv h1 h2 hl hl1 hl2 hlf hroot hf (by decide) Hs Hd)
  clear hv hl h1 h2 hl1 hl2 hlf hroot hbox
  go_enter Try.func13, Try.ntmps13
  go_wp2_with fail
  refine (RI.out _ Hv.out).mono ?_
  rintro e w1 ⟨rfl, hb1⟩
  replace Xp := Lib.hid ((hb1.cell (p := ⟨w.heap.size, 0, none⟩) (by simp)).trans Xp.out)
  replace Hv := Lib.hid (Hv.out.below hb1)
  replace Hl := Lib.hid (Hl.out.below hb1)
  replace B0 := Lib.hid (B0.out.trans (hb1.mono B0.out.size))
  clear hb1
  go_wp2_with fail
  refine (LI.out _ Hl.out).mono ?_
  rintro e w2 ⟨rfl, hb2⟩
  replace Xp := Lib.hid ((hb2.cell (p := ⟨w.heap.size, 0, none⟩) (World.block_lt_of_cell? _ _ Xp.out)).trans Xp.out)
  replace Hv := Lib.hid (Hv.out.below hb2)
  replace Hl := Lib.hid (Hl.out.below hb2)
  replace B0 := Lib.hid (B0.out.trans (hb2.mono B0.out.size))
  clear hb2
  go_wp2_with fail
  refine (BX.out _).mono ?_
  rintro e W ⟨rfl, hb3⟩
  replace Xp := Lib.hid ((hb3.cell (p := ⟨w.heap.size, 0, none⟩) (World.block_lt_of_cell? _ _ Xp.out)).trans Xp.out)
  replace Hv := Lib.hid (Hv.out.below hb3)
  replace Hl := Lib.hid (Hl.out.below hb3)
  replace B0 := Lib.hid (B0.out.trans (hb3.mono B0.out.size))
  clear hb3
  have lp : w.heap.size < W.heap.size := World.block_lt_of_cell? _ _ Xp.out
  have BS := Lib.hid (fun w1 z (hb : Below W.heap.size W w1) hf Hs Hd => BI.out w1 z (Hv.out.below hb) (Hl.out.below hb) hf Hs Hd)
  have XX := Lib.hid (fun w1 (hb : Below W.heap.size W w1) => (hb.cell (p := ⟨w.heap.size, 0, none⟩) lp).trans Xp.out)
  clear BI Hv Hl
  generalize rs.map nc = F at *
  generalize ls.map nc = L at *
  go_wp2_with (first | (go_at_call 39; go_must (refine (within_impl _ _ _ _).mono ?_); (first | rw [I1.out] | rw [I2.out]); rintro e w' ⟨rfl, rfl⟩) | (go_at_call 40; go_must (refine (workers_impl wk hw1 hw2 _).mono ?_); rintro e w' ⟨rfl, rfl⟩))
  refine (minus_impl hi lo _).mono ?_
  rintro e w' ⟨d1, d2, m5, rfl, hd1, hd2, rfl⟩
  have hd : nc (d1, d2) = subC (nc hi) (nc lo) := Prod.ext hd1 hd2
  clear hd1 hd2
  generalize subC (nc hi) (nc lo) = Z at *
  have hd1 : nrm .f32 d1 = Z.1 := congrArg Prod.fst hd
  have hd2 : nrm .f32 d2 = Z.2 := congrArg Prod.snd hd
  have Hd1 := Lib.hid hd1
  have Hd2 := Lib.hid hd2
  clear hd hd1 hd2 RI LI BX Xp
  go_wp2_with fail
  go_loopw [17, 58] (fun ov kv wr => ∃ (k : Nat), k ≤ 4 ∧ kv = .int .i64 k ∧ RowV 2 wr W.heap.size ov (gi ((List.range (4 * k)).map (gridG F L (nc lo) Z))) ∧ Below W.heap.size W wr) (fun _ kv _ => 4 - (intOf kv).toNat)
  case atStart => exact ⟨0, by omega, rfl, row_nilS (w := W.drewN _) (by first | rfl | simp) (Nat.le_refl _) _, (below_drewN (Below.refl _ _) _).alloc (Nat.le_refl _) _⟩
  case round =>
    obtain ⟨k, hk, rfl, hrow, hbel⟩ := hrel
    by_cases hk4 : k < 4
    · have j1 : (k : Int) < 4 := by omega
      go_wp2_with fail
      go_loopw [17, 62] (fun ov iv wi => ∃ (i : Nat), i ≤ 4 ∧ iv = .int .i64 i ∧ RowV 2 wi W.heap.size ov (gi ((List.range (4 * k + i)).map (gridG F L (nc lo) Z))) ∧ Below W.heap.size W wi) (fun _ iv _ => 4 - (intOf iv).toNat)
      case atStart => exact ⟨0, by omega, rfl, hrow, hbel⟩
      case round =>
        obtain ⟨i, hi4, rfl, hrow2, hbel2⟩ := hrel
        have hsz2 := hbel2.size
        by_cases hi : i < 4
        · have j2 : (i : Int) < 4 := by omega
          have KEY : ∀ n x y, nrm .f32 x = (ptF (nc lo) Z i k).1 → nrm .f32 y = (ptF (nc lo) Z i k).2 →
              Calls Try.prog 14 #[.agg #[.slice ao rs.length cap], .slice ao2 ls.length cap2, .complex .f32 x y, .int .i64 6] (wr.drewN n) (RetIB (basinF F L (ptF (nc lo) Z i k) 6) (wr.drewN n)) := by
            intro n x y hx hy
            have e : nc (x, y) = ptF (nc lo) Z i k := Prod.ext hx hy
            have h3 := Hs.out i k hi hk4
            have := BS.out (wr.drewN n) (x, y) (below_drewN hbel2 n) (by rw [e]; exact h3.1) (Lib.hid (by rw [e]; exact h3.2.1)) (Lib.hid (fun j hj => by rw [e, power_swap]; exact h3.2.2 j (by rw [LL.out]; exact hj)))
            rw [e, basin_swap] at this
            exact this
          have Hkey := Lib.hid KEY
          have Hg := Lib.hid (show gridG F L (nc lo) Z (4 * k + i) = if (basinF F L (ptF (nc lo) Z i k) 6).2 = true then ((basinF F L (ptF (nc lo) Z i k) 6).1 : Int) else -1 by
            unfold gridG
            rw [show (4 * k + i) % 4 = i by omega, show (4 * k + i) / 4 = k by omega])
          have Hl := Lib.hid (show (gi ((List.range (4 * k + i)).map (gridG F L (nc lo) Z))).length ≤ 1099511627776 by simp; omega)
          have xp := XX.out wr hbel2
          have hd1 := Hd1.out
          have hd2 := Hd2.out
          have Hb2 := Lib.hid hbel2
          clear KEY hbel2 hrow hbel
          go_wp2_with (with_reducible refine wpList_fop rfl _ _ _ _ _ rfl rfl .f32 _ _ rfl rfl ?_; intro r m hr)
          refine (Hkey.out _ _ _ (by simp only [ptF, nc, *]) (by simp only [ptF, nc, *])).mono ?_
          generalize basinF F L (ptF (nc lo) Z i k) 6 = B at *
          obtain ⟨b0, ok⟩ := B
          rintro e w3 ⟨rfl, hb3⟩
          have Hb3 := Lib.hid (show Below W.heap.size W w3 from (below_drewN Hb2.out _).trans (hb3.mono (show W.heap.size ≤ wr.heap.size from hsz2)))
          have hrow := (show RowV 2 w3 W.heap.size _ _ from hrow2.below (w := wr) (w' := w3) ⟨hb3.os, hb3.tape, hb3.output, hb3.size, hb3.block⟩)
          have hsz3 := Hb3.out.size
          clear hb3 Hkey hd1 hd2 hrow2
          cases ok
          · have Hg2 := Lib.hid (show gridG F L (nc lo) Z (4 * k + i) = -1 from Hg.out)
            go_wp2_with (at_builtin; go_must (refine wpList_pushV (.int .i64 0) 8 hrow infoI rfl rfl (by decide) rfl _ _ rfl Try.underlying29 Hl.out (by omega) rfl rfl rfl rfl rfl rfl ?_); intro v1 w1 hr1 hb1 hg1 ho1)
            go_roundw
            case rel => exact ⟨i + 1, by omega, by go_num, by rw [show 4 * k + (i + 1) = (4 * k + i) + 1 by omega, ← grid_succ, Hg2.out]; exact hr1, Hb3.out.trans hb1⟩
            case measure => simp [intOf]; omega
          · have Hg2 := Lib.hid (show gridG F L (nc lo) Z (4 * k + i) = (b0 : Int) from Hg.out)
            go_wp2_with (at_builtin; go_must (refine wpList_pushV (.int .i64 0) 8 hrow infoI rfl rfl (by decide) rfl _ _ rfl Try.underlying29 Hl.out (by omega) rfl rfl rfl rfl rfl rfl ?_); intro v1 w1 hr1 hb1 hg1 ho1)
            go_roundw
            case rel => exact ⟨i + 1, by omega, by go_num, by rw [show 4 * k + (i + 1) = (4 * k + i) + 1 by omega, ← grid_succ, Hg2.out]; exact hr1, Hb3.out.trans hb1⟩
            case measure => simp [intOf]; omega
        · obtain rfl : i = 4 := by omega
          go_wp2_with fail
          go_roundw
          case rel => exact ⟨k + 1, by omega, by go_num, by rw [show 4 * (k + 1) = 4 * k + 4 by omega]; exact hrow2, hbel2⟩
          case measure => simp [intOf]; omega
    · obtain rfl : k = 4 := by omega
      go_wp2_with fail
      go_ret2
      exact ⟨_, rfl, (hrow.own.mono (by omega)), B0.out.trans (hbel.mono (by omega))⟩

end Go.Proofs.Ytalfkkagbajjcaa

/- BasinOf of the reference. Conditions: a polynomial with roots, a finite number, 1 to 16 finite roots; what is narrowed fits float32. -/
namespace Go.Proofs.Ytalfkkagbajjcaa
set_option linter.unusedSimpArgs false
set_option linter.unusedVariables false
open Go Go.RowKit

set_option maxRecDepth 100000 in
theorem can_spec (p : Nat) (v : Value) (rs : List C2) (z : C2) (w : World) (hp : w.cell? ⟨p, 0, none⟩ = some v) (hv : RdV w v (cx rs)) (h1 : 1 ≤ rs.length) (h2 : rs.length ≤ 17) (hroot : rootedF (rs.map nc) = true) (hfin : finC (nc z) = true) :
    Calls Try.prog 42 #[.pointer (some ⟨p, 0, none⟩), .complex .f32 z.1 z.2] w (RetB true w) := by
  have R := Lib.hid (rooted_spec p v rs w hp hv h1 h2)
  rw [hroot] at R
  clear hp hv
  go_enter Try.func42, Try.ntmps42
  go_wp2_with fail
  refine R.out.mono ?_
  rintro e w1 ⟨m, rfl, rfl⟩
  go_wp2_with fail
  refine (cfin1_spec z _).mono ?_
  rw [hfin]
  rintro e w1 ⟨m2, rfl, rfl⟩
  go_wp2_with fail
  go_ret
  exact ⟨_, by simp, rfl⟩

set_option maxRecDepth 100000 in
set_option maxHeartbeats 1000000 in
theorem basinOf_spec (v lv : Value) (rs ls : List C2) (z : C2) (w : World) (hv : RdV w v (cx rs)) (h1 : 1 ≤ rs.length) (h2 : rs.length ≤ 17)
    (hl : RdV w lv (cx ls)) (hl1 : 1 ≤ ls.length) (hl2 : ls.length ≤ 16) (hlf : allFinC ls = true) (hroot : rootedF (rs.map nc) = true) (hfin : finC (nc z) = true) (Hs : RowKit.Hid (safePolish (rs.map nc) 6 (nc z)))
    (Hd : RowKit.Hid (∀ k, k < ls.length → fit1 (sqF (powerF (subC ((ls.map nc).getD k (0, 0)) (polishF (rs.map nc) 6 (nc z)).1))))) :
    Calls Try.prog 15 #[.agg #[v], lv, .complex .f32 z.1 z.2, .int .i64 6] w (RetIB (basinF (rs.map nc) (ls.map nc) (nc z) 6) w) := by
  obtain ⟨ao, cap, rfl, _⟩ := hv.shape
  obtain ⟨ao2, cap2, rfl, _⟩ := hl.shape
  rw [cx_length] at hv hl ⊢
  have Xp := Lib.hid (World.cell?_alloc_new w #[.slice ao rs.length cap] 38 0 : (w.alloc (.cells #[.slice ao rs.length cap] 38)).cell? ⟨w.heap.size, 0, none⟩ = some (.slice ao rs.length cap))
  have Hv := Lib.hid (hv.alloc (.cells #[.slice ao rs.length cap] 38))
  have Hl := Lib.hid (hl.alloc (.cells #[.slice ao rs.length cap] 38))
  have B0 := Lib.hid (show Below w.heap.size w (w.alloc (.cells #[.slice ao rs.length cap] 38)) from (Below.refl _ _).alloc (Nat.le_refl _) _)
  have CS := Lib.hid (can_spec w.heap.size _ rs z _ Xp.out Hv.out h1 h2 hroot hfin)
  have BS := Lib.hid (fun m => basin_spec w.heap.size _ (.slice ao2 ls.length cap2) rs ls z 6 ((w.alloc (.cells #[.slice ao rs.length cap] 38)).drewN m) Xp.out Hv.out h1 h2 Hl.out hl1 hl2 hroot hfin (by decide) Hs Hd)
  have LI := Lib.hid (fun m => list_spec (.slice ao2 ls.length cap2) ls ((w.alloc (.cells #[.slice ao rs.length cap] 38)).drewN m) Hl.out hl1 hl2)
  rw [hlf] at LI
  clear hv hl h1 h2 hl1 hl2 hlf hroot hfin Hs Hd Hv Hl Xp
  generalize basinF (rs.map nc) (ls.map nc) (nc z) 6 = B at *
  obtain ⟨b0, ok⟩ := B
  go_enter Try.func15, Try.ntmps15
  go_wp2_with fail
  refine CS.out.mono ?_
  rintro e w1 ⟨m1, rfl, rfl⟩
  go_wp2_with fail
  refine (LI.out _).mono ?_
  rintro e w1 ⟨m2, rfl, rfl⟩
  go_wp2_with (go_at_call 35; go_must (refine (times_spec 6 0 (by decide) (by decide) _).mono ?_); rintro e w' ⟨rfl, rfl⟩)
  refine (BS.out _).mono ?_
  rintro e w1 ⟨rfl, hb⟩
  have BB := Lib.hid (show Below w.heap.size w w1 from (below_drewN B0.out _).trans (hb.mono (show w.heap.size ≤ _ from B0.out.size)))
  clear hb
  go_wp2_with fail
  go_ret2
  exact ⟨rfl, BB.out⟩

end Go.Proofs.Ytalfkkagbajjcaa

/- Terms of a list of complex numbers, 0 for one that is missing; of the reference. Conditions: lengths of at most 1000. -/
namespace Go.Proofs.Ytalfkkagbajjcaa
set_option linter.unusedSimpArgs false
set_option linter.unusedVariables false
open Go Go.RowKit

/-- A number of a list, 0 for one that is missing. -/
def catF (l : List C2) (k : Int) : C2 := if 0 ≤ k then l.getD k.toNat (0, 0) else (0, 0)
theorem catF_neg {l : List C2} {k : Int} (h : k < 0) : catF l k = (0, 0) := by rw [catF, if_neg (by omega)]
theorem catF_over {l : List C2} {k : Int} (h : (l.length : Int) ≤ k) : catF l k = (0, 0) := by
  unfold catF
  split
  · rw [List.getD, List.getElem?_eq_none (by omega)]; rfl
  · rfl
theorem catF_in {l : List C2} {k : Nat} : catF l k = l.getD k (0, 0) := by rw [catF, if_pos (by omega)]; simp
theorem catF_map (l : List C2) (k : Int) : catF (l.map nc) k = nc (catF l k) := by
  unfold catF
  split
  · exact getD_nc l _
  · exact nc0.symm

theorem term_spec (v : Value) (rs : List C2) (k : Int) (w : World) (hv : RdV w v (cx rs)) (hl : rs.length ≤ 1000) (h0 : -1000 ≤ k) (h1 : k ≤ 1000) :
    Calls Try.prog 53 #[v, .int .i64 k] w fun e w' => e = .returned (.complex .f32 (catF rs k).1 (catF rs k).2) ∧ w = w' := by
  by_cases k0 : k < 0
  · obtain ⟨ao, cap, rfl, _⟩ := hv.shape
    rw [cx_length]
    have H := Lib.hid (catF_neg (l := rs) k0)
    clear hv
    go_enter Try.func53, Try.ntmps53
    go_wp2
    go_ret
    rw [H.out]
    exact ⟨rfl, rfl⟩
  · by_cases k1 : (rs.length : Int) ≤ k
    · obtain ⟨ao, cap, rfl, _⟩ := hv.shape
      rw [cx_length]
      have H := Lib.hid (catF_over k1)
      clear hv
      go_enter Try.func53, Try.ntmps53
      go_wp2
      go_ret
      rw [H.out]
      exact ⟨rfl, rfl⟩
    · obtain ⟨n, rfl⟩ := Int.eq_ofNat_of_zero_le (show 0 ≤ k by omega)
      rcases hv.openC with ⟨rfl, _⟩ | ⟨b, off, cap, rfl, hb, hcp, hc⟩
      · exact absurd k1 (by simp)
      · have c1 := hc n (by omega)
        have H := Lib.hid (show catF rs n = rs[n]'(by omega) by rw [catF_in]; simp [List.getD, show n < rs.length by omega])
        clear hc hv
        generalize (rs[n]'(by omega)) = x at *
        obtain ⟨x1, x2⟩ := x
        go_enter Try.func53, Try.ntmps53
        go_wp2
        go_ret
        rw [H.out]
        exact ⟨rfl, rfl⟩

end Go.Proofs.Ytalfkkagbajjcaa

/- A drawn region whose operation 0 is a pure read that only the tail wants: it is taken first, the others then in the text's order. Conditions: none. -/
namespace Go.Proofs.Ytalfkkagbajjcaa
set_option linter.unusedSimpArgs false
set_option linter.unusedVariables false
open Go

section
variable {P : Program} {ops : Array Oper} {md : Region.Mode} {C : World → Prop} {G : FuncId → Array Value → Value → Prop}
structure HeadInv0 (md : Region.Mode) (ops : Array Oper) (n : Nat) (listed : Array Bool) : Prop where
  inv : HeadInv md ops n listed
  zero : listed.getD 0 true = true
theorem HeadInv0.set {n i : Nat} {listed : Array Bool} (h : HeadInv0 md ops n listed) (hi : i ∈ Region.ready md ops listed) (hin : i < n) : HeadInv0 md ops n (listed.setIfInBounds i true) := by
  refine ⟨h.inv.set hi hin, ?_⟩
  by_cases h0 : i = 0
  · subst h0
    rcases Nat.lt_or_ge 0 listed.size with h' | h'
    · simp [h']
    · simp [Array.getElem?_eq_none h']
  · rw [getD_set_ne true h0]; exact h.zero
def sink0 (md : Region.Mode) (ops : Array Oper) (n : Nat) : Bool :=
  (List.range n).all fun i => i == 0 || (List.range (n + 1)).any fun j => decide (i < j) && Region.waitsFor md ops j i
theorem tail_waits0 {n : Nat} {listed : Array Bool} (hs : sink0 md ops n = true) (hc : Region.chainB md ops n = true) (hn : n < ops.size) (inv0 : HeadInv0 md ops n listed) :
    ∀ (d i : Nat), n - i = d → i < n → listed.getD i true = false → ∀ t, n ≤ t → t ∉ Region.ready md ops listed := by
  have inv := inv0.inv
  intro d
  induction d using Nat.strongRecOn with
  | _ d ih =>
    intro i hd hi hun t ht hr
    obtain ⟨_, ot, hot, hall⟩ := mem_ready.1 hr
    have htlt : t < ops.size := (Array.getElem?_eq_some_iff.1 hot).1
    have hi0 : i ≠ 0 := by
      rintro rfl
      rw [inv0.zero] at hun
      cases hun
    by_cases htn : t = n
    · subst htn
      have h1 := List.all_eq_true.1 hs i (List.mem_range.2 hi)
      simp only [Bool.or_eq_true, beq_iff_eq, hi0, false_or] at h1
      obtain ⟨j, hj, hj2⟩ := List.any_eq_true.1 h1
      simp only [Bool.and_eq_true, decide_eq_true_eq] at hj2
      obtain ⟨oj, hoj, e, he, hb, hon⟩ := Region.waitsFor_spec hj2.2
      have hjle : j ≤ t := by have := List.mem_range.1 hj; omega
      by_cases hjt : j = t
      · subst hjt
        have : oj = ot := Option.some.inj (hoj.symm.trans hot)
        subst this
        have h2 := hall e he hb
        rw [hon, getD_both hun] at h2
        cases h2
      · cases hl : listed.getD j false with
        | true =>
          have h2 := inv.closed j oj hoj hl e he hb
          rw [hon, getD_both hun] at h2
          cases h2
        | false =>
          have hjs : j < listed.size := by rw [inv.size]; omega
          exact ih (t - j) (by omega) j rfl (by omega) (getD_in hjs hl) t (Nat.le_refl _) hr
    · have h1 := List.all_eq_true.1 hc t (List.mem_range.2 htlt)
      simp only [Bool.or_eq_true, decide_eq_true_eq] at h1
      rcases h1 with h1 | h1
      · omega
      · obtain ⟨o', ho', e, he, hb, hon⟩ := Region.waitsFor_spec h1
        have : o' = ot := Option.some.inj (ho'.symm.trans hot)
        subst this
        have h2 := hall e he hb
        rw [hon, getD_both (inv.tail (t - 1) (by omega) (by omega))] at h2
        cases h2

/-- An operation that may come up now may be taken first. -/
theorem wpAnyV_first0 {n i : Nat} {oi : Oper} {L : Array Bool → Act → Prop} (hi : ops[i]? = some oi) (hsel : ∀ (j : Nat) (o : Oper) cs b, ops[j]? = some o → o.op ≠ .select cs b) {w : World} (hw : C w) (hin : i < n)
    (hwait : ∀ listed, HeadInv0 md ops n listed → ∀ i, i < n → listed.getD i true = false → ∀ t, n ≤ t → t ∉ Region.ready md ops listed)
    (hdone : ∀ listed a, L listed a → ∀ j ∈ Region.ready md ops listed, n ≤ j) :
    ∀ (f : Nat) (listed : Array Bool) (a : Act), HeadInv0 md ops n listed →
      (∀ j oj, ops[j]? = some oj → j ≠ i → listed.getD j true = false → (∀ e ∈ oj.after, Region.binds md e = true → e.on ≠ i) → oi.apart ops oj = true) →
      i ∈ Region.ready md ops listed →
      vOne P ops C G oi (wpAnyV P md ops C G n L f (listed.setIfInBounds i true)) a → wpAnyV P md ops C G n L (f + 1) listed a := by
  have some_of : ∀ {K : Act → Prop} {a : Act}, vOne P ops C G oi K a → ∃ v, K (a.put oi.dst v) := by
    intro K a h
    cases hwi : Region.wanted oi (yielded ops a.tmps) with
    | true =>
      obtain ⟨g, ho⟩ := h.1 hwi
      obtain ⟨v, hv⟩ := g.outs hw
      exact ⟨v, ho v hv⟩
    | false => exact ⟨undef, h.2 hwi⟩
  intro f
  induction f with
  | zero =>
    intro listed a inv _ hr H
    have hun := (mem_ready.1 hr).1
    refine ⟨fun h => (by rw [h] at hr; cases hr), fun j hj => ?_⟩
    have hjn : j < n := by
      rcases Nat.lt_or_ge j n with h | h
      · exact h
      · exact absurd hj (hwait _ inv i hin hun j h)
    refine ⟨hjn, ?_⟩
    by_cases hji : j = i
    · subst hji; unfold vOp; simp only [hi]; exact H
    · obtain ⟨v, hv⟩ := some_of H
      have := hdone _ _ hv j (ready_mono hj hji)
      omega
  | succ f ih =>
    intro listed a inv hfree hr H
    have hun := (mem_ready.1 hr).1
    refine ⟨fun h => (by rw [h] at hr; cases hr), fun j hj => ?_⟩
    have hjn : j < n := by
      rcases Nat.lt_or_ge j n with h | h
      · exact h
      · exact absurd hj (hwait _ inv i hin hun j h)
    refine ⟨hjn, ?_⟩
    by_cases hji : j = i
    · subst hji; unfold vOp; simp only [hi]; exact H
    · obtain ⟨hjun, oj, hoj, hall⟩ := mem_ready.1 hj
      have hnot : ∀ e ∈ oj.after, Region.binds md e = true → e.on ≠ i := fun e he hb heq => by
        have h1 := hall e he hb
        rw [heq, getD_both hun] at h1
        cases h1
      have h1 : vOne P ops C G oi (vOne P ops C G oj (wpAnyV P md ops C G n L f ((listed.setIfInBounds i true).setIfInBounds j true))) a :=
        vOne_mono (fun a' h' => by
          have := (h'.2 j (ready_mono hj hji)).2
          unfold vOp at this
          simpa only [hoj] using this) H
      have h2 := vOne_swap (hfree j oj hoj hji hjun hnot) (fun cs b => hsel i oi cs b hi) (fun cs b => hsel j oj cs b hoj) hw h1
      have hfree' : ∀ k ok, ops[k]? = some ok → k ≠ i → (listed.setIfInBounds j true).getD k true = false →
          (∀ e ∈ ok.after, Region.binds md e = true → e.on ≠ i) → oi.apart ops ok = true := fun k ok hk hki hun' hno => by
        refine hfree k ok hk hki ?_ hno
        by_cases hjk : j = k
        · subst hjk; exact hjun
        · rw [getD_set_ne true hjk] at hun'; exact hun'
      unfold vOp
      simp only [hoj]
      refine vOne_mono (fun a' h3 => ih (listed.setIfInBounds j true) a' (inv.set hj hjn) hfree' (ready_mono hr (Ne.symm hji)) ?_) h2
      rw [Array.setIfInBounds_comm _ _ hji]
      exact h3

theorem wpAnyV_lex0 {n g : Nat} {Lq : Act → Prop} (hsel : Region.noSelect ops = true) {w : World} (hw : C w)
    (hwait : ∀ listed, HeadInv0 md ops n listed → ∀ i, i < n → listed.getD i true = false → ∀ t, n ≤ t → t ∉ Region.ready md ops listed) :
    ∀ (l : List Oper) (k : Nat) (listed : Array Bool) (a : Act), (∀ j, j < l.length → l[j]? = ops[k + j]?) → k + l.length = n → HeadInv0 md ops n listed →
    Region.lexHead md ops g l.length k listed = true → wpV P ops C G Lq l a →
    wpAnyV P md ops C G n (fun listed' a' => Region.seqB md ops g n listed' = true ∧ Lq a') l.length listed a
  | [], k, listed, a, _, hk, _, hB, h => by
    have : k = n := by simpa using hk
    subst this
    exact ⟨by simpa [Region.lexHead] using hB, h⟩
  | o :: l, k, listed, a, hl, hk, inv, hB, h => by
    have h0 : ops[k]? = some o := by simpa using (hl 0 (by simp)).symm
    simp only [List.length_cons, Region.lexHead, Bool.and_eq_true] at hB
    obtain ⟨⟨hr, hf⟩, hB'⟩ := hB
    have hkn : k < n := by simp only [List.length_cons] at hk; omega
    have hr' : k ∈ Region.ready md ops listed := by simpa using hr
    exact wpAnyV_first0 h0 (Region.noSelect_spec hsel) hw hkn hwait (fun listed' a' hL => seqB_ready hL.1) l.length listed a inv (Region.free_spec h0 hf) hr'
      (vOne_mono (fun a' h' => wpAnyV_lex0 hsel hw hwait l (k + 1) _ a' (fun j hj => by have := hl (j + 1) (by simp; omega); simpa [Nat.add_assoc, Nat.add_comm 1 j] using this) (by simp only [List.length_cons] at hk; omega) (inv.set hr' hkn) hB' h') h)


def lexV0 (md : Region.Mode) (ops : Array Oper) (n : Nat) : Bool :=
  Region.noSelect ops && decide (1 ≤ n) && decide (n < ops.size) && sink0 md ops n && Region.chainB md ops n && (Region.ready md ops (Array.replicate ops.size false)).contains 0 && Region.free md ops (Array.replicate ops.size false) 0 &&
    Region.lexHead md ops (ops.size - n) (n - 1) 1 ((Array.replicate ops.size false).setIfInBounds 0 true)

theorem wp_region_v0 {id : Nat} {Q : Exit → Act → World → Prop} {a : Act} {w : World} {l : List Oper} (n : Nat) (G : FuncId → Array Value → Value → Prop) (o0 : Oper) (v : Value) (hm : P.follows .mixedOrders = true) (h0 : l.toArray[0]? = some o0) (hB : lexV0 .any l.toArray n = true)
    (hQ : ∀ c a w, Q (.panic c) (a.put o0.dst v) w → Q (.panic c) a w) (hy : Yields P l.toArray o0 v a)
    (h : wpV P l.toArray (fun w' => ∃ m, w' = w.drewN m) G (fun a' => ∀ m, wpList P l.toArray Q (l.drop n) a' (w.drewN m)) ((l.drop 1).take (n - 1)) (a.put o0.dst v)) : (Code.region id l.toArray true).wp P Q a w := by
  simp only [lexV0, Bool.and_eq_true, decide_eq_true_eq] at hB
  obtain ⟨⟨⟨⟨⟨⟨⟨hsel, hn1⟩, hn⟩, hs⟩, hc⟩, hr0⟩, hf0⟩, hlex⟩ := hB
  have hnl : n < l.length := by simpa using hn
  have hwait : ∀ listed, HeadInv0 .any l.toArray n listed → ∀ i, i < n → listed.getD i true = false → ∀ t, n ≤ t → t ∉ Region.ready .any l.toArray listed :=
    fun listed inv i hi hun t ht => tail_waits0 hs hc hn inv _ i rfl hi hun t ht
  have htl : ((l.drop 1).take (n - 1)).length = n - 1 := by simp; omega
  have hdl : (l.drop n).length = l.toArray.size - n := by simp
  have inv0 : HeadInv .any l.toArray n (Array.replicate l.toArray.size false) :=
    ⟨by simp, fun j oj _ hl => (by rw [getD_replicate_false] at hl; cases hl), fun t _ ht => getD_in (by simpa using ht) (getD_replicate_false _ _)⟩
  have hr0' : 0 ∈ Region.ready .any l.toArray (Array.replicate l.toArray.size false) := by simpa using hr0
  have inv1 : HeadInv0 .any l.toArray n ((Array.replicate l.toArray.size false).setIfInBounds 0 true) :=
    ⟨inv0.set hr0' (by omega), by
      have : 0 < l.toArray.size := by simp; omega
      simp [this]⟩
  have hC : (fun w' : World => ∃ m, w' = w.drewN m) { w with drawn := w.drawn + 1 } := ⟨1, rfl⟩
  have H := wpAnyV_lex0 (md := .any) (g := l.toArray.size - n) hsel hC hwait ((l.drop 1).take (n - 1)) 1 _ _ (fun j hj => by
    rw [htl] at hj
    rw [List.getElem?_take, if_pos hj, List.getElem?_drop]
    simp) (by rw [htl]; omega) inv1 (by rw [htl]; exact hlex) h
  refine wp_region_any hm ?_
  have H2 := wpAny_of_v (Q' := Q) (g := l.toArray.size - n) (fun listed a' w' hw' hL => by
    obtain ⟨m, rfl⟩ := hw'
    have := wpAny_of_seq (md := .any) (Q' := Q) (l.drop n) n listed a' (w.drewN m) (fun j => by simp [List.getElem?_drop]) (by rw [hdl]; exact hL.1) (hL.2 m)
    rwa [hdl] at this) _ _ _ _ hC H
  rw [htl] at H2
  have key := wpAny_take h0 hsel hf0 hr0 hQ hy H2
  have e : n - 1 + (l.toArray.size - n) + 1 = l.toArray.size := by simp; omega
  rw [e] at key
  exact key

end
end Go.Proofs.Ytalfkkagbajjcaa

/- The terms of a polynomial of roots, of the reference. Conditions: at most 6 roots; what is narrowed fits float32. -/
namespace Go.Proofs.Ytalfkkagbajjcaa
set_option linter.unusedSimpArgs false
set_option linter.unusedVariables false
open Go Go.RowKit

def rootG (r : C2) (c : List C2) (k : Nat) : C2 := subC (catF c ((k : Int) - 1)) (mulC r (catF c k))
def rootsL (L : List C2) : Nat → List C2
  | 0 => [nc (1065353216, 0)]
  | i + 1 => (List.range ((rootsL L i).length + 1)).map (rootG (L.getD i (0, 0)) (rootsL L i))
theorem rootsL_length (L : List C2) (i : Nat) : (rootsL L i).length = i + 1 := by
  induction i with
  | zero => rfl
  | succ i ih => simp [rootsL, ih]
theorem rootsL_succ (L : List C2) (i : Nat) : rootsL L (i + 1) = (List.range ((rootsL L i).length + 1)).map (rootG (L.getD i (0, 0)) (rootsL L i)) := rfl
def safeRoots (L : List C2) : Prop := ∀ i, i < L.length → ∀ k, k < i + 2 → fit2 (timesF (L.getD i (0, 0)) (catF (rootsL L i) k))
theorem range_map_succ (g : Nat → C2) (k : Nat) : (List.range (k + 1)).map g = (List.range k).map g ++ [g k] := by simp [List.range_succ]

/-- The calls of the region: terms, and the product. -/
def GR (cs : List C2) (cv : Value) (M : C2) (f : FuncId) (args : Array Value) (u : Value) : Prop :=
  (f = 53 ∧ ∃ kk : Int, args = #[cv, .int .i64 kk] ∧ u = .complex .f32 (catF cs kk).1 (catF cs kk).2) ∨ (f = 54 ∧ ∃ a b, u = .complex .f32 a b ∧ nc (a, b) = M)

set_option maxRecDepth 100000 in
set_option maxHeartbeats 2000000 in
theorem rooted_terms (v : Value) (ls : List C2) (w : World) (hv : RdV w v (cx ls)) (h1 : 1 ≤ ls.length) (h2 : ls.length ≤ 6) (Hs : RowKit.Hid (safeRoots (ls.map nc))) :
    Calls Try.prog 30 #[v] w fun e w' => ∃ v' qs, e = .returned v' ∧ qs.map nc = rootsL (ls.map nc) ls.length ∧ RdV w' v' (cx qs) ∧ Below w.heap.size w w' := by
  rcases hv.openC with ⟨rfl, _⟩ | ⟨b, off, cap, rfl, hb, hcp, hc⟩
  · simp at h1
  have Hc := Lib.hid (show ∀ i, i < ls.length → w.cell? ⟨b, off + i, none⟩ = some (.complex .f32 (ls.getD i (0, 0)).1 (ls.getD i (0, 0)).2) from fun i hi => by
    rw [hc i hi]; simp [List.getD, hi])
  have Hg := Lib.hid (fun i => getD_nc ls i)
  have HL := Lib.hid (show (ls.map nc).length = ls.length from List.length_map ..)
  clear hc hv hcp
  generalize ls.map nc = L at *
  generalize ls.length = N at *
  go_enter Try.func30, Try.ntmps30
  go_wp2
  go_loopw [3, 4] (fun cv iv wr => ∃ (i : Nat) (cs : List C2), i ≤ N ∧ iv = .int .i64 i ∧ RdV wr cv (cx cs) ∧ cs.map nc = rootsL L i ∧ Below w.heap.size w wr) (fun _ iv _ => N - (intOf iv).toNat)
  case atStart => exact ⟨0, [(1065353216, 0)], Nat.zero_le _, rfl, rd_c1 rfl (1065353216, 0), rfl, (Below.refl _ _).alloc (Nat.le_refl _) _⟩
  case round =>
    obtain ⟨i, cs, hi, rfl, hcs, hmap, hbel⟩ := hrel
    have hsz := hbel.size
    have hcl : cs.length = i + 1 := by have := congrArg List.length hmap; simpa [rootsL_length] using this
    by_cases hlt : i < N
    · have c1 := (hbel.cell (p := ⟨b, off + i, none⟩) hb).trans (Hc.out i hlt)
      have HR := Lib.hid (show L.getD i (0, 0) = nc (ls.getD i (0, 0)) from Hg.out i)
      have HF := Lib.hid (Hs.out i (by rw [HL.out]; exact hlt))
      generalize ls.getD i (0, 0) = r at *
      obtain ⟨r1, r2⟩ := r
      obtain ⟨ao, cap2, rfl, _⟩ := hcs.shape
      rw [cx_length, hcl] at hcs ⊢
      have Hcs := Lib.hid hcs
      have Hmap := Lib.hid hmap
      have Hbel := Lib.hid hbel
      have Hcl := Lib.hid hcl
      clear hcs hmap hbel hcl
      have j0 : (0 : Int) ≤ (i : Int) := by omega
      have j1 : (i : Int) < (N : Int) := by omega
      go_wp2
      go_loopw [5, 6] (fun nv kv wi => ∃ (k : Nat) (ts : List C2), k ≤ i + 2 ∧ kv = .int .i64 k ∧ RowV 35 wi wr.heap.size nv (cx ts) ∧ ts.map nc = (List.range k).map (rootG (nc (r1, r2)) (rootsL L i)) ∧ Below wr.heap.size wr wi) (fun _ kv _ => i + 2 - (intOf kv).toNat)
      case atStart => exact ⟨0, [], Nat.zero_le _, rfl, row_nil (Nat.le_refl _) _, rfl, (Below.refl _ _).alloc (Nat.le_refl _) _⟩
      case round =>
        obtain ⟨k, ts, hk, rfl, hrow, hts, hbel2⟩ := hrel
        have hsz2 := hbel2.size
        have htl : ts.length = k := by have := congrArg List.length hts; simpa using this
        have hcl := Hcl.out
        by_cases hk2 : k < i + 2
        · have TS1 := Lib.hid (fun n => term_spec (.slice ao (i + 1) cap2) cs ((k : Int) - 1) (wr.drewN n) (Hcs.out.below (below_drewN hbel2 n)) (by omega) (by omega) (by omega))
          have TS2 := Lib.hid (fun n => term_spec (.slice ao (i + 1) cap2) cs (k : Int) (wr.drewN n) (Hcs.out.below (below_drewN hbel2 n)) (by omega) (by omega) (by omega))
          have c2 := (hbel2.cell (p := ⟨b, off + i, none⟩) (by simp only; omega)).trans c1
          have Hf := Lib.hid (show fit2 (timesF (nc (r1, r2)) (nc (catF cs k))) by
            have := HF.out k hk2
            rw [HR.out, ← Hmap.out, catF_map] at this
            exact this)
          have HG := Lib.hid (show rootG (nc (r1, r2)) (rootsL L i) k = subC (nc (catF cs ((k : Int) - 1))) (mulC (nc (r1, r2)) (nc (catF cs k))) by
            unfold rootG; rw [← Hmap.out, catF_map, catF_map])
          have q1 : IntKind.i64.wrap ((k : Int) - 1) = (k : Int) - 1 := IntWalk.i64_in _ ⟨by omega, by omega⟩
          have Hl := Lib.hid (show (cx ts).length ≤ 1099511627776 by simp; omega)
          have j2 : (0 : Int) ≤ (k : Int) := by omega
          have j3 : (k : Int) ≤ (i : Int) + 1 := by omega
          have Hts := Lib.hid hts
          have Hbel2 := Lib.hid hbel2
          clear hts hbel2 htl hcl
          go_wp2
          refine wp_region_v0 14 (GR cs (.slice ao (i + 1) cap2) (mulC (nc (r1, r2)) (nc (catF cs k)))) _ _ (by kernel_rfl) rfl (by kernel_rfl) (fun _ _ _ h => h) (Or.inl ⟨by rfl, fun w => by go_simp; try rfl⟩) ?_
          simp only [List.take_succ_cons, List.take_zero, List.drop_succ_cons, List.drop_zero]
          go_simp
          repeat (apply wpV_det; (exact rfl); (intro nq; go_simp; rfl); (intro K hK; go_simp; refine hK.use ?_; clear hK K))
          (apply wpV_call; (exact rfl); (intro nq; go_simp; first | exact ⟨rfl, rfl⟩ | rfl); (intro nq; refine (TS1.out _).mono ?_; rintro e w' ⟨rfl, rfl⟩; exact ⟨_, rfl, .inl ⟨rfl, _, rfl, rfl⟩, nq, rfl⟩); (rintro u h); (obtain rfl : u = Value.complex .f32 (catF cs ((k : Int) - 1)).1 (catF cs ((k : Int) - 1)).2 := by rcases h with ⟨_, kk, ha, hu⟩ | ⟨h, _⟩; (simp only [Array.mk.injEq, List.cons.injEq, Value.int.injEq, true_and, and_true] at ha; rw [hu, ← ha]); exact absurd h (by decide)); clear h; (intro K hK; go_simp; refine hK.use ?_; clear hK K))
          repeat (apply wpV_det; (exact rfl); (intro nq; go_simp; rfl); (intro K hK; go_simp; refine hK.use ?_; clear hK K))
          (apply wpV_call; (exact rfl); (intro nq; go_simp; first | exact ⟨rfl, rfl⟩ | rfl); (intro nq; refine (TS2.out _).mono ?_; rintro e w' ⟨rfl, rfl⟩; exact ⟨_, rfl, .inl ⟨rfl, _, rfl, rfl⟩, nq, rfl⟩); (rintro u h); (obtain rfl : u = Value.complex .f32 (catF cs (k : Int)).1 (catF cs (k : Int)).2 := by rcases h with ⟨_, kk, ha, hu⟩ | ⟨h, _⟩; (simp only [Array.mk.injEq, List.cons.injEq, Value.int.injEq, true_and, and_true] at ha; rw [hu, ← ha]); exact absurd h (by decide)); clear h; (intro K hK; go_simp; refine hK.use ?_; clear hK K))
          repeat (apply wpV_det; (exact rfl); (intro nq; go_simp; rfl); (intro K hK; go_simp; refine hK.use ?_; clear hK K))
          (apply wpV_call; (exact rfl); (intro nq; go_simp; exact ⟨rfl, rfl⟩); (intro nq; refine (mul_spec (r1, r2) (catF cs k) Hf _).mono ?_; rintro e w' ⟨a, b, mm, rfl, ha, hb, rfl⟩; exact ⟨_, rfl, .inr ⟨rfl, a, b, rfl, Prod.ext ha hb⟩, nq + mm, by simp [Nat.add_assoc]⟩); (rintro u h); (obtain ⟨a1, b1, rfl, hM⟩ : ∃ a b, u = Value.complex .f32 a b ∧ nc (a, b) = mulC (nc (r1, r2)) (nc (catF cs k)) := by rcases h with ⟨h, _⟩ | ⟨_, h⟩; exact absurd h (by decide); exact h); clear h; (intro K hK; go_simp; refine hK.use ?_; clear hK K))
          repeat (apply wpV_det; (exact rfl); (intro nq; go_simp; rfl); (intro K hK; go_simp; refine hK.use ?_; clear hK K))
          (refine wpV_cadd .sub (.inr rfl) _ _ _ _ rfl _ _ _ _ rfl rfl rfl ?_; intro g1 g2 hg1 hg2; (intro K hK; go_simp; refine hK.use ?_; clear hK K))
          have He := Lib.hid (show nc (g1, g2) = rootG (nc (r1, r2)) (rootsL L i) k by rw [HG.out, ← hM]; exact Prod.ext hg1 hg2)
          clear hg1 hg2 hM
          repeat (apply wpV_det; (exact rfl); (intro nq; go_simp; rfl); (intro K hK; go_simp; refine hK.use ?_; clear hK K))
          refine wpV_nil (fun nq => ?_)
          go_wp2_with (at_builtin; go_must (refine wpList_pushV (.complex .f32 0 0) 8 hrow infoC rfl rfl (by decide) rfl _ _ rfl Try.underlying25 Hl.out (by omega) rfl rfl rfl rfl rfl rfl ?_); intro v1 w1 hr1 hb1 hg1 ho1)
          go_roundw
          case rel => exact ⟨k + 1, ts ++ [(g1, g2)], by omega, by go_num, by rw [← cx_push]; exact hr1, by rw [List.map_append, Hts.out, range_map_succ, List.map_cons, List.map_nil, He.out], Hbel2.out.trans hb1⟩
          case measure => simp [intOf]; omega
        · obtain rfl : k = i + 2 := by omega
          have Hnext := Lib.hid (show ts.map nc = rootsL L (i + 1) by rw [hts, rootsL_succ, HR.out, rootsL_length])
          have Hrd := Lib.hid hrow.rd
          obtain ⟨ao3, cap3, rfl, _⟩ := hrow.rd.shape
          have Hb := Lib.hid (Hbel.out.trans (hbel2.mono hsz))
          clear hts hrow hbel2
          go_wp2
          go_roundw
          case rel => exact ⟨i + 1, ts, by omega, by go_num, Hrd.out, Hnext.out, Hb.out⟩
          case measure => simp [intOf]; omega
    · obtain rfl : i = N := by omega
      go_wp2
      go_ret
      exact ⟨_, cs, rfl, hmap, hcs, hbel⟩

end Go.Proofs.Ytalfkkagbajjcaa
