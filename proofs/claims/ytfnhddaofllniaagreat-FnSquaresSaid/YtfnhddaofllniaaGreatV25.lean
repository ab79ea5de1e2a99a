/- How much a polynomial misses 0 at a number, of the reference. Conditions: a polynomial with roots whose value is told; lengths fit float32. -/
import Derived.Test.YtfnhddaofllniaaGreatV16
import Derived.Test.YtfnhddaofllniaaGreatV21
import Derived.Test.YtfnhddaofllniaaGreatV24
import Derived.Test.YtfnhddaofllniaaGreatV23
namespace Go.Proofs.YtfnhddaofllniaaGreat
set_option linter.unusedSimpArgs false
set_option linter.unusedVariables false
open Go Go.RowKit

set_option maxRecDepth 100000 in
set_option maxHeartbeats 1000000 in
theorem miss_spec (p : Nat) (v : Value) (rs : List C2) (z V : C2) (w : World) (hp : w.cell? ⟨p, 0, none⟩ = some v) (hv : RdV w v (cx rs)) (h1 : 1 ≤ rs.length) (h2 : rs.length ≤ 17) (HM : RowKit.Hid (MsOk (rs.map nc) (nc z) V)) :
    Calls Tryz.prog 69 #[.pointer (some ⟨p, 0, none⟩), .complex .f32 z.1 z.2] w (RetFB (missG (longF V) (missS (rs.map nc) (nc z) rs.length)) w) := by
  have hpl : p < w.heap.size := World.block_lt_of_cell? _ _ hp
  have n0 := nrm0
  rcases hv.openC with ⟨rfl, _⟩ | ⟨b, off, cap, rfl, hb, hcp, hc⟩
  · simp at h1
  have Hc := Lib.hid (show ∀ i, i < rs.length → w.cell? ⟨b, off + i, none⟩ = some (.complex .f32 (rs.getD i (0, 0)).1 (rs.getD i (0, 0)).2) from fun i hi => by
    rw [hc i hi]; simp [List.getD, hi])
  have Hv := Lib.hid hv
  have Hp0 := Lib.hid hp
  have HR := Lib.hid HM.out.r
  have Hf := Lib.hid (show ∀ k, k < rs.length → fit1 (sqF (powerF (nc (rs.getD k (0, 0))))) from fun k hk => by
    have := HM.out.f k (by rw [List.length_map]; exact hk)
    rwa [getD_nc] at this)
  have HS := Lib.hid (fun k => show missS (rs.map nc) (nc z) (k + 1) = fop .add .f32 (missS (rs.map nc) (nc z) k) (powL (longF (nc (rs.getD k (0, 0)))) (longF (nc z)) k) by rw [missS, getD_nc])
  have HS0 := Lib.hid (show missS (rs.map nc) (nc z) 0 = nrm .f32 0 from rfl)
  have HV := Lib.hid HM.out.v
  have HN := Lib.hid HM.out.s
  have HZ := Lib.hid HM.out.z
  have HW := Lib.hid HM.out.w
  clear hc hv hcp HM
  go_enter Tryz.func69, Tryz.ntmps69
  go_wp2_with fail
  (go_at_call 10; ((with_reducible refine (polyAt_spec _ rs z _ Hv.out h1 h2 (Lib.hid fun _ _ => HN.out)).mono ?_); rintro e w' ⟨a1, a2, rfl, ha1, ha2, hb2⟩; obtain ⟨chhb2, fhhb2⟩ := bcell hb2; have zhhb2 := hb2.size; (try simp only [World.size_alloc, World.size_setCell, World.size_drew] at zhhb2); (try have lhhb2 : w.heap.size ≤ w'.heap.size := by omega)))
  rw [HV.out] at ha1 ha2 ⊢
  have HA := Lib.hid (show nc (a1, a2) = V from Prod.ext ha1 ha2)
  have Hb2 := Lib.hid hb2
  have cp := (hb2.cell (p := ⟨p, 0, none⟩) hpl).trans hp
  clear ha1 ha2 hb2
  go_wp2_with fail
  (go_at_call 45; ((with_reducible refine (long_spec z (Lib.hid HZ.out) _).mono ?_); rintro e w' ⟨l, ml, rfl, hl, rfl⟩))
  have Hl := Lib.hid hl
  clear hl
  go_wp2_with fail
  generalize hMS : missS (rs.map nc) (nc z) = MS at *
  clear hMS
  go_loopw [9, 30] (fun ov iv wr => ∃ (k r : Nat), k ≤ rs.length ∧ iv = .int .i64 k ∧ ov = .float .f32 r ∧ nrm .f32 r = MS k ∧ Below w.heap.size w wr) (fun _ iv _ => rs.length - (intOf iv).toNat)
  case atStart => exact ⟨0, _, Nat.zero_le _, rfl, rfl, HS0.out.symm, below_drewN Hb2.out _⟩
  case round =>
    obtain ⟨k, r, hk, rfl, rfl, hr, hbel⟩ := hrel
    have hsz := hbel.size
    have Hr := Lib.hid hr
    have Hbel := Lib.hid hbel
    by_cases hlt : k < rs.length
    · have c1 := (hbel.cell (p := ⟨b, off + k, none⟩) hb).trans (Hc.out k hlt)
      have cpr := (hbel.cell (p := ⟨p, 0, none⟩) hpl).trans Hp0.out
      have Hff := Lib.hid (Hf.out k hlt)
      have HSk := Lib.hid (HS.out k)
      have j0 : (0 : Int) ≤ (k : Int) := by omega
      have j1 : (k : Int) < (rs.length : Int) := by omega
      generalize rs.getD k (0, 0) = x at *
      obtain ⟨x1, x2⟩ := x
      clear hr hbel
      go_wp2_with fail
      (go_at_call 45; ((with_reducible refine (long_spec (x1, x2) (Lib.hid Hff.out) _).mono ?_); rintro e w' ⟨a, m0, rfl, ha, rfl⟩))
      have Ha := Lib.hid ha
      clear ha
      go_wp2_with fail
      go_loopw [11, 12] (fun pv jv wi => ∃ (j p m : Nat), j ≤ k ∧ jv = .int .i64 j ∧ pv = .float .f32 p ∧ nrm .f32 p = powL (longF (nc (x1, x2))) (longF (nc z)) j ∧ wi = wr.drewN m) (fun _ jv _ => k - (intOf jv).toNat)
      case atStart => exact ⟨0, a, m0, Nat.zero_le _, rfl, rfl, Ha.out, rfl⟩
      case round =>
        obtain ⟨j, p, m, hj, rfl, rfl, hp, rfl⟩ := hrel
        have Hp := Lib.hid hp
        clear hp
        by_cases hjl : j < k
        · have j2 : (j : Int) < (k : Int) := by omega
          have j3 : (0 : Int) ≤ (j : Int) := by omega
          go_wp2_with (with_reducible refine wpList_fop rfl _ _ _ _ _ rfl rfl .f32 _ _ rfl rfl ?_; intro r3 m3 hr3; have Hr3 := Lib.hid hr3; clear hr3)
          go_roundw
          case rel => exact ⟨j + 1, r3, _, by omega, by go_num, rfl, by rw [Hr3.out, powL, ← Hp.out, ← Hl.out], by first | rfl | (simp; rfl) | (simp; done)⟩
          case measure => simp [intOf]; omega
        · obtain rfl : j = k := by omega
          go_wp2_with (with_reducible refine wpList_fop rfl _ _ _ _ _ rfl rfl .f32 _ _ rfl rfl ?_; intro r3 m3 hr3; have Hr3 := Lib.hid hr3; clear hr3)
          go_roundw
          case rel => exact ⟨j + 1, r3, by omega, by go_num, rfl, by rw [Hr3.out, HSk.out, ← Hr.out, ← Hp.out], by first | exact below_drewN Hbel.out _ | exact below_drewN (below_drewN Hbel.out _) _⟩
          case measure => simp [intOf]; omega
    · obtain rfl : k = rs.length := by omega
      generalize hS : MS rs.length = S at *
      clear hr hbel hlt
      cases hab : aboveF S
      · have HG := Lib.hid (show missG (longF V) S = (0, false) by simp [missG, hab])
        go_wp2_with (go_at_call 54; go_must (refine (above_spec r _).mono ?_); rintro e w' ⟨m, rfl, rfl⟩; rw [Hr.out])
        go_ret2
        rw [HG.out]
        exact ⟨_, rfl, n0, below_drewN Hbel.out _⟩
      · have HG := Lib.hid (show missG (longF V) S = finiteN (fop .quo .f32 (longF V) S) by simp [missG, hab])
        go_wp2_with (go_at_call 54; go_must (refine (above_spec r _).mono ?_); rintro e w' ⟨m, rfl, rfl⟩; rw [Hr.out])
        (go_at_call 45; ((with_reducible refine (long_spec (a1, a2) (Lib.hid (by rw [HA.out]; exact HW.out)) _).mono ?_); rintro e w' ⟨a, m0, rfl, ha, rfl⟩))
        have Ha := Lib.hid ha
        clear ha
        go_wp2_with (with_reducible refine wpList_fop rfl _ _ _ _ _ rfl rfl .f32 _ _ rfl rfl ?_; intro r3 m3 hr3; have Hr3 := Lib.hid hr3; clear hr3)
        (go_at_call 103; ((with_reducible refine (number1_spec r3 _).mono ?_)))
        have He : nrm .f32 r3 = fop .quo .f32 (longF V) S := by rw [Hr3.out, Ha.out, HA.out, Hr.out]
        rw [He]
        rintro e w' ⟨a5, rfl, ha5, hb5⟩
        have Ha5 := Lib.hid ha5
        have Hb5 := Lib.hid hb5
        generalize finiteN (fop .quo .f32 (longF V) S) = G at *
        clear ha5 hb5 He
        go_wp2_with fail
        go_ret2
        rw [HG.out]
        exact ⟨_, rfl, Ha5.out, (below_drewN Hbel.out _).trans (Hb5.out.mono (by simpa using hsz))⟩
end Go.Proofs.YtfnhddaofllniaaGreat

/- The greatest miss of numbers, of both. Conditions: the misses can be reckoned. -/
namespace Go.Proofs.YtfnhddaofllniaaGreat
open Go Go.RowKit
set_option linter.unusedSimpArgs false
set_option linter.unusedVariables false

/-- The greater one, as the language has it. -/
def maxW (x y : Nat) : Nat := match FloatKind.f32.format.order x y with
  | some .lt => y
  | some .gt => x
  | some .eq => if (FloatKind.f32.decode x).neg then y else x
  | none => x
theorem run_maxf {P : Program} {x y : Nat} (hx : fN .f32 x = true) (hy : fN .f32 y = true) (ts : Array TypeId) (t : TypeId) (w : World) : (Builtin.max_ ts t #[.float .f32 x, .float .f32 y]).run P w = .ok (.float .f32 (maxW x y)) w := by
  obtain ⟨a, b, e, h1, h2, h3⟩ := order_num hx hy
  unfold maxW
  simp only [Builtin.max_, Builtin.max2, List.foldlM_cons, List.foldlM_nil, h3]
  cases compare a b <;> simp [h3]
theorem maxW_fin {x y : Nat} (hx : fN .f32 x = true) (hy : fN .f32 y = true) : fN .f32 (maxW x y) = true := by
  unfold maxW
  split
  · exact hy
  · exact hx
  · split
    · exact hy
    · exact hx
  · exact hx
def allB (bs : Nat → Bool) : Nat → Bool | 0 => true | k + 1 => bs k && allB bs k
theorem allB_false {bs : Nat → Bool} {n k : Nat} (h : k < n) (hb : bs k = false) : allB bs n = false := by
  induction n with
  | zero => omega
  | succ n ih =>
    rw [allB]
    by_cases hk : k = n
    · subst hk; rw [hb]; rfl
    · rw [ih (by omega)]; simp
theorem allB_get {bs : Nat → Bool} {n k : Nat} (h : allB bs n = true) (hk : k < n) : bs k = true := by
  cases hb : bs k with
  | true => rfl
  | false => rw [allB_false hk hb] at h; cases h
def mxF (M : Nat → Nat × Bool) : Nat → Nat | 0 => 0 | k + 1 => maxW (mxF M k) (M k).1
/-- The greatest miss, if all can be told. -/
def mxR (M : Nat → Nat × Bool) (n : Nat) : Nat × Bool := if allB (fun i => (M i).2) n = true then (mxF M n, true) else (0, false)
theorem mxR_true {M : Nat → Nat × Bool} {n : Nat} (h : allB (fun i => (M i).2) n = true) : mxR M n = (mxF M n, true) := if_pos h
theorem mxR_false {M : Nat → Nat × Bool} {n k : Nat} (h : k < n) (hb : (M k).2 = false) : mxR M n = (0, false) := by
  unfold mxR
  rw [allB_false (bs := fun i => (M i).2) h hb]
  rfl
theorem missG_fin {l s : Nat} {R : Nat × Bool} (h : missG l s = R) (hr : R.2 = true) : fN .f32 R.1 = true := by
  subst h
  unfold missG finiteN at hr ⊢
  split
  · rename_i h1
    rw [if_pos h1] at hr
    split
    · rename_i h2; rw [← finF_iff]; exact h2
    · rename_i h2; rw [if_neg h2] at hr; cases hr
  · rename_i h1; rw [if_neg h1] at hr; cases hr
theorem nrm_fin {a x : Nat} (h : nrm .f32 a = x) (hx : fN .f32 x = true) : a = x := by
  cases hn : isN .f32 a with
  | false => rwa [nrm_of_not hn] at h
  | true =>
    rw [nrm_of_nan hn] at h
    subst h
    exact absurd hx (by decide +kernel)
theorem mxF_fin {M : Nat → Nat × Bool} {ls : List C2} {V : Nat → C2} {s : Nat → Nat} {P : Nat → Prop} (H : ∀ i, i < ls.length → P i ∧ missG (longF (V i)) (s i) = M i) {k : Nat} (hk : k ≤ ls.length) (h : allB (fun i => (M i).2) k = true) : fN .f32 (mxF M k) = true := by
  induction k with
  | zero => exact fC0.1.1
  | succ k ih =>
    have h0 : allB (fun i => (M i).2) k = true := by
      rw [allB, Bool.and_eq_true] at h
      exact h.2
    exact maxW_fin (ih (by omega) h0) (missG_fin (H k (by omega)).2 (allB_get (bs := fun i => (M i).2) h (Nat.lt_succ_self k)))
set_option maxRecDepth 100000 in
set_option maxHeartbeats 1000000 in
theorem missR_impl (v u : Value) (rs ls : List C2) (V : Nat → C2) (M : Nat → Nat × Bool) (w : World) (hv : RdV w v (cx rs)) (hu : RdV w u (cx ls)) (h1 : 1 ≤ rs.length) (h2 : rs.length ≤ 17) (h3 : 1 ≤ ls.length) (h4 : ls.length ≤ 16)
    (hr : rootedF (rs.map nc) = true) (hl : allFinC ls = true) (HM : RowKit.Hid (∀ i, i < ls.length → MsOk (rs.map nc) (nc (ls.getD i (0, 0))) (V i) ∧ missG (longF (V i)) (missS (rs.map nc) (nc (ls.getD i (0, 0))) rs.length) = M i)) :
    Calls Tryz.prog 19 #[.agg #[v], u] w (RetFB (mxR M ls.length) w) := by
  obtain ⟨ao, cap, rfl, _⟩ := hv.shape
  rw [cx_length] at hv ⊢
  have n0 := nrm0
  have HU := Lib.hid hu
  rcases hu.openC with ⟨rfl, _⟩ | ⟨b, off, cap2, rfl, hb, hcp, hc⟩
  · simp at h3
  have Hc := Lib.hid (show ∀ i, i < ls.length → w.cell? ⟨b, off + i, none⟩ = some (.complex .f32 (ls.getD i (0, 0)).1 (ls.getD i (0, 0)).2) from fun i hi => by
    rw [hc i hi]; simp [List.getD, hi])
  have Hv := Lib.hid hv
  have HR := Lib.hid hr
  have HL := Lib.hid hl
  clear hc hv hcp hu hr hl
  have P := Lib.hid (show (w.alloc (.cells #[.slice ao rs.length cap] 28)).cell? ⟨w.heap.size, 0, none⟩ = some (.slice ao rs.length cap) from World.cell?_alloc_new w #[.slice ao rs.length cap] 28 0)
  go_enter Tryz.func19, Tryz.ntmps19
  go_wp2_with (first | (go_at_call 27; go_must (refine (rooted_impl _ rs _ (Hv.out.alloc _) h1 h2).mono ?_); rintro e w' ⟨rfl, hb1⟩; obtain ⟨chhb1, fhhb1⟩ := bcell hb1; have zhhb1 := hb1.size; (try simp only [World.size_alloc, World.size_setCell, World.size_drew] at zhhb1); (try have lhhb1 : w.heap.size < w'.heap.size := by omega); rw [HR.out]) | (go_at_call 66; go_must (refine (areRoots_impl _ ls _ (HU.out.below (by (repeat' (first | (with_reducible exact Below.refl _ _) | (with_reducible assumption) | (with_reducible refine Below.alloc ?_ ?_ _) | (with_reducible refine Below.setCell ?_ ?_ _) | (with_reducible refine Below.drew ?_) | (with_reducible refine Below.via (by assumption) ?_ ?_) | go_size)))) h3 h4).mono ?_); rintro e w' ⟨rfl, hb2⟩; obtain ⟨chhb2, fhhb2⟩ := bcell hb2; have zhhb2 := hb2.size; (try simp only [World.size_alloc, World.size_setCell, World.size_drew] at zhhb2); (try have lhhb2 : w.heap.size < w'.heap.size := by omega); rw [HL.out]))
  have HB0 := Lib.hid (show Below (w.alloc (.cells #[.slice ao rs.length cap] 28)).heap.size (w.alloc (.cells #[.slice ao rs.length cap] 28)) w' from by (repeat' (first | (with_reducible exact Below.refl _ _) | (with_reducible assumption) | (with_reducible refine Below.alloc ?_ ?_ _) | (with_reducible refine Below.setCell ?_ ?_ _) | (with_reducible refine below_drewN ?_ _) | (with_reducible refine Below.via (by assumption) ?_ ?_) | go_size)))
  clear chhb1 fhhb1 chhb2 fhhb2 hb1 hb2
  generalize hWA : (w.alloc (.cells #[.slice ao rs.length cap] 28)) = wa at *
  have Hwa := Lib.hid (show Below w.heap.size w wa from by rw [← hWA]; exact (Below.refl _ _).alloc (Nat.le_refl _) _)
  have hla : w.heap.size < wa.heap.size := by rw [← hWA]; simp
  have HvA := Lib.hid (show RdV wa _ _ from Hv.out.below Hwa.out)
  go_loopw [6, 21] (fun ov iv wr => ∃ (k : Nat), k ≤ ls.length ∧ iv = .int .i64 k ∧ ov = .float .f32 (mxF M k) ∧ allB (fun i => (M i).2) k = true ∧ Below wa.heap.size wa wr) (fun _ iv _ => ls.length - (intOf iv).toNat)
  case atStart => exact ⟨0, Nat.zero_le _, rfl, rfl, rfl, HB0.out⟩
  case round =>
    obtain ⟨k, hk, rfl, rfl, hall, hbel⟩ := hrel
    have hsz := hbel.size
    have HA := Lib.hid hall
    have Hbel := Lib.hid hbel
    have Hbw := Lib.hid (show Below w.heap.size w wr from Hwa.out.trans (hbel.mono (Nat.le_of_lt hla)))
    have cb : wr.cell? ⟨w.heap.size, 0, none⟩ = some (.slice ao rs.length cap) := (hbel.cell (p := ⟨w.heap.size, 0, none⟩) hla).trans P.out
    clear hall hbel
    by_cases hlt : k < ls.length
    · have c1 := (Hbw.out.cell (p := ⟨b, off + k, none⟩) hb).trans (Hc.out k hlt)
      obtain ⟨M1, M2⟩ := HM.out k hlt
      have HM1 := Lib.hid M1
      have HM2 := Lib.hid M2
      have j0 : (0 : Int) ≤ (k : Int) := by omega
      have j1 : (k : Int) < (ls.length : Int) := by omega
      clear M1 M2
      have FM := Lib.hid (show (M k).2 = true → fN .f32 (M k).1 = true from fun hm => missG_fin HM2.out hm)
      generalize ls.getD k (0, 0) = x at *
      obtain ⟨x1, x2⟩ := x
      have HQ := Lib.hid (missAt_impl (.slice ao rs.length cap) rs (x1, x2) (V k) wr (HvA.out.below Hbel.out) h1 h2 (Lib.hid HM1.out))
      go_wp2_with fail
      (go_at_call 67; ((with_reducible refine HQ.out.mono ?_)))
      rw [HM2.out]
      rintro e w' ⟨a, rfl, ha, hb5⟩
      have Hb5 := Lib.hid (show Below wa.heap.size wa w' from Hbel.out.trans (hb5.mono hsz))
      clear hb5
      cases hbk : (M k).2
      · have Hall := Lib.hid (show mxR M ls.length = (0, false) from mxR_false hlt hbk)
        go_wp2_with fail
        go_ret2
        rw [Hall.out]
        exact ⟨_, rfl, n0, Hwa.out.trans (Hb5.out.mono (Nat.le_of_lt hla))⟩
      · have fa := FM.out hbk
        obtain rfl : a = (M k).1 := nrm_fin ha fa
        have fm := mxF_fin HM.out (by omega : k ≤ ls.length) HA.out
        have RM := fun (P : Program) ts t w' => run_maxf (P := P) fm fa ts t w'
        have HMK := Lib.hid (show maxW (mxF M k) (M k).1 = mxF M (k + 1) from rfl)
        have HBK := Lib.hid hbk
        clear ha hbk
        go_wp2_with fail
        go_roundw
        case rel => exact ⟨k + 1, by omega, by go_num, by rw [← HMK.out], by rw [allB, HA.out]; show ((M k).2 && true) = true; rw [HBK.out]; rfl, Hb5.out⟩
        case measure => simp [intOf]; omega
    · obtain rfl : k = ls.length := by omega
      go_wp2_with fail
      go_ret2
      rw [mxR_true HA.out]
      exact ⟨_, rfl, fN_nrm (mxF_fin HM.out (Nat.le_refl _) HA.out), Hbw.out⟩
set_option maxRecDepth 100000 in
set_option maxHeartbeats 1000000 in
theorem missR_spec (v u : Value) (rs ls : List C2) (V : Nat → C2) (M : Nat → Nat × Bool) (w : World) (hv : RdV w v (cx rs)) (hu : RdV w u (cx ls)) (h1 : 1 ≤ rs.length) (h2 : rs.length ≤ 17) (h3 : 1 ≤ ls.length) (h4 : ls.length ≤ 16)
    (hr : rootedF (rs.map nc) = true) (hl : allFinC ls = true) (HM : RowKit.Hid (∀ i, i < ls.length → MsOk (rs.map nc) (nc (ls.getD i (0, 0))) (V i) ∧ missG (longF (V i)) (missS (rs.map nc) (nc (ls.getD i (0, 0))) rs.length) = M i)) :
    Calls Tryz.prog 20 #[.agg #[v], u] w (RetFB (mxR M ls.length) w) := by
  obtain ⟨ao, cap, rfl, _⟩ := hv.shape
  rw [cx_length] at hv ⊢
  have n0 := nrm0
  have HU := Lib.hid hu
  rcases hu.openC with ⟨rfl, _⟩ | ⟨b, off, cap2, rfl, hb, hcp, hc⟩
  · simp at h3
  have Hc := Lib.hid (show ∀ i, i < ls.length → w.cell? ⟨b, off + i, none⟩ = some (.complex .f32 (ls.getD i (0, 0)).1 (ls.getD i (0, 0)).2) from fun i hi => by
    rw [hc i hi]; simp [List.getD, hi])
  have Hv := Lib.hid hv
  have HR := Lib.hid hr
  have HL := Lib.hid hl
  clear hc hv hcp hu hr hl
  have P := Lib.hid (show (w.alloc (.cells #[.slice ao rs.length cap] 28)).cell? ⟨w.heap.size, 0, none⟩ = some (.slice ao rs.length cap) from World.cell?_alloc_new w #[.slice ao rs.length cap] 28 0)
  go_enter Tryz.func20, Tryz.ntmps20
  go_wp2_with (first | (go_at_call 35; go_must (refine (rooted_spec w.heap.size _ rs _ P.out (Hv.out.alloc _) h1 h2).mono ?_); rintro e w' ⟨m1, rfl, rfl⟩; rw [HR.out]) | (go_at_call 68; go_must (refine (list_spec _ ls _ (HU.out.below (by (repeat' (first | (with_reducible exact Below.refl _ _) | (with_reducible assumption) | (with_reducible refine Below.alloc ?_ ?_ _) | (with_reducible refine Below.setCell ?_ ?_ _) | (with_reducible refine below_drewN ?_ _) | (with_reducible refine Below.via (by assumption) ?_ ?_) | go_size)))) h3 h4).mono ?_); rintro e w' ⟨m2, rfl, rfl⟩; rw [HL.out]))
  have HB0 := Lib.hid (fun m => show Below (w.alloc (.cells #[.slice ao rs.length cap] 28)).heap.size (w.alloc (.cells #[.slice ao rs.length cap] 28)) ((w.alloc (.cells #[.slice ao rs.length cap] 28)).drewN m) from below_drewN (Below.refl _ _) m)
  generalize hWA : (w.alloc (.cells #[.slice ao rs.length cap] 28)) = wa at *
  have Hwa := Lib.hid (show Below w.heap.size w wa from by rw [← hWA]; exact (Below.refl _ _).alloc (Nat.le_refl _) _)
  have hla : w.heap.size < wa.heap.size := by rw [← hWA]; simp
  have HvA := Lib.hid (show RdV wa _ _ from Hv.out.below Hwa.out)
  go_loopw [6, 19] (fun ov iv wr => ∃ (k : Nat), k ≤ ls.length ∧ iv = .int .i64 k ∧ ov = .float .f32 (mxF M k) ∧ allB (fun i => (M i).2) k = true ∧ Below wa.heap.size wa wr) (fun _ iv _ => ls.length - (intOf iv).toNat)
  case atStart => exact ⟨0, Nat.zero_le _, rfl, rfl, rfl, HB0.out _⟩
  case round =>
    obtain ⟨k, hk, rfl, rfl, hall, hbel⟩ := hrel
    have hsz := hbel.size
    have HA := Lib.hid hall
    have Hbel := Lib.hid hbel
    have Hbw := Lib.hid (show Below w.heap.size w wr from Hwa.out.trans (hbel.mono (Nat.le_of_lt hla)))
    have cb : wr.cell? ⟨w.heap.size, 0, none⟩ = some (.slice ao rs.length cap) := (hbel.cell (p := ⟨w.heap.size, 0, none⟩) hla).trans P.out
    clear hall hbel
    by_cases hlt : k < ls.length
    · have c1 := (Hbw.out.cell (p := ⟨b, off + k, none⟩) hb).trans (Hc.out k hlt)
      obtain ⟨M1, M2⟩ := HM.out k hlt
      have HM1 := Lib.hid M1
      have HM2 := Lib.hid M2
      have j0 : (0 : Int) ≤ (k : Int) := by omega
      have j1 : (k : Int) < (ls.length : Int) := by omega
      clear M1 M2
      have FM := Lib.hid (show (M k).2 = true → fN .f32 (M k).1 = true from fun hm => missG_fin HM2.out hm)
      generalize ls.getD k (0, 0) = x at *
      obtain ⟨x1, x2⟩ := x
      have HQ := Lib.hid (miss_spec w.heap.size (.slice ao rs.length cap) rs (x1, x2) (V k) wr cb (HvA.out.below Hbel.out) h1 h2 (Lib.hid HM1.out))
      go_wp2_with fail
      (go_at_call 69; ((with_reducible refine HQ.out.mono ?_)))
      rw [HM2.out]
      rintro e w' ⟨a, rfl, ha, hb5⟩
      have Hb5 := Lib.hid (show Below wa.heap.size wa w' from Hbel.out.trans (hb5.mono hsz))
      clear hb5
      cases hbk : (M k).2
      · have Hall := Lib.hid (show mxR M ls.length = (0, false) from mxR_false hlt hbk)
        go_wp2_with fail
        go_ret2
        rw [Hall.out]
        exact ⟨_, rfl, n0, Hwa.out.trans (Hb5.out.mono (Nat.le_of_lt hla))⟩
      · have fa := FM.out hbk
        obtain rfl : a = (M k).1 := nrm_fin ha fa
        have fm := mxF_fin HM.out (by omega : k ≤ ls.length) HA.out
        have RM := fun (P : Program) ts t w' => run_maxf (P := P) fm fa ts t w'
        have HMK := Lib.hid (show maxW (mxF M k) (M k).1 = mxF M (k + 1) from rfl)
        have HBK := Lib.hid hbk
        clear ha hbk
        go_wp2_with fail
        go_roundw
        case rel => exact ⟨k + 1, by omega, by go_num, by rw [← HMK.out], by rw [allB, HA.out]; show ((M k).2 && true) = true; rw [HBK.out]; rfl, Hb5.out⟩
        case measure => simp [intOf]; omega
    · obtain rfl : k = ls.length := by omega
      go_wp2_with fail
      go_ret2
      rw [mxR_true HA.out]
      exact ⟨_, rfl, fN_nrm (mxF_fin HM.out (Nat.le_refl _) HA.out), Hbw.out⟩
end Go.Proofs.YtfnhddaofllniaaGreat

/- Radii of roots, plainly: squared roots, scaled by the greatest length, three times; quotients of lengths by logarithms. Conditions: none. -/
namespace Go.Proofs.YtfnhddaofllniaaGreat
open Go Go.RowKit
set_option linter.unusedSimpArgs false
set_option linter.unusedVariables false

def mostF (S : List C2) : Nat → Nat | 0 => 0 | k + 1 => maxW (mostF S k) (longF (S.getD k (0, 0)))
def divF (S : List C2) (m : Nat) : List C2 := S.map fun x => (fop .quo .f32 x.1 m, fop .quo .f32 x.2 m)
def radSt (P : List C2) : List C2 := divF (squareF P) (mostF (squareF P) (squareF P).length)
def radI (P : List C2) : Nat → List C2 | 0 => P | j + 1 => radSt (radI P j)
def lenF (P : List C2) (k : Nat) : Nat := longF ((radI P 3).getD k (0, 0))
def posF (P : List C2) (n : Nat) : Bool := ((List.range (n + 1)).map (lenF P)).all aboveF
def Jf (x : Nat) : Nat := (List.range 199).findIdx fun j => !fcmp .lss .f64 (upF (wd x) j) (nrm .f64 4604930618986332160)
def logG (x : Nat) : Nat := logN x (Jf x)
def argF (P : List C2) (n k : Nat) : Nat := fop .quo .f32 (fop .sub .f32 (logG (lenF P (n - 1 - k))) (logG (lenF P (n - k)))) (nrm .f32 1090519040)
def outF (P : List C2) (n k : Nat) : Nat := expN (argF P n k)
def radF (P : List C2) (n : Nat) : List Nat × Bool := if posF P n = true then ((List.range n).map (outF P n), true) else ([], false)
/-- What the radii need. -/
structure RadOk (P : List C2) (n : Nat) : Prop where
  len : ∀ j, j ≤ 3 → (radI P j).length = n + 1
  val : ∀ j, j ≤ 3 → rootedF (radI P j) = true ∧ validF (radI P j) = true
  sq : ∀ j, j < 3 → safeSquare (radI P j) ∧ polyF (squareF (radI P j)) = (squareF (radI P j), true) ∧ (squareF (radI P j)).length = n + 1
  fit : ∀ j, j < 3 → ∀ k, k < n + 1 → fit1 (sqF (powerF ((squareF (radI P j)).getD k (0, 0)))) ∧ fN .f32 (longF ((squareF (radI P j)).getD k (0, 0))) = true
  most : ∀ j, j < 3 → aboveF (mostF (squareF (radI P j)) (n + 1)) = true
  lng : ∀ k, k < n + 1 → fit1 (sqF (powerF ((radI P 3).getD k (0, 0))))
  log : ∀ k, k < n + 1 → aboveF (lenF P k) = true → LogOk (lenF P k) (Jf (lenF P k))
  out : ∀ k, k < n → aboveF (lenF P (n - 1 - k)) = true → aboveF (lenF P (n - k)) = true → ExpOk (argF P n k) ∧ finF (outF P n k) = true
theorem posF_get {P : List C2} {n k : Nat} (h : posF P n = true) (hk : k < n + 1) : aboveF (lenF P k) = true := by
  unfold posF at h
  rw [List.all_eq_true] at h
  exact h _ (List.mem_map.2 ⟨k, List.mem_range.2 hk, rfl⟩)
theorem posF_of {P : List C2} {n : Nat} (h : ∀ k, k < n + 1 → aboveF (lenF P k) = true) : posF P n = true := by
  unfold posF
  rw [List.all_eq_true]
  intro x hx
  obtain ⟨k, hk, rfl⟩ := List.mem_map.1 hx
  exact h k (List.mem_range.1 hk)
theorem mostF_fin {S : List C2} {m : Nat} (h : ∀ k, k < m → fN .f32 (longF (S.getD k (0, 0))) = true) {k : Nat} (hk : k ≤ m) : fN .f32 (mostF S k) = true := by
  induction k with
  | zero => exact fC0.1.1
  | succ k ih => exact maxW_fin (ih (by omega)) (h k (by omega))
theorem divF_len (S : List C2) (m : Nat) : (divF S m).length = S.length := by simp [divF]
theorem div_succ (S : List C2) (m k : Nat) (h : k < S.length) : (divF S m).take (k + 1) = (divF S m).take k ++ [(fop .quo .f32 (S.getD k (0, 0)).1 m, fop .quo .f32 (S.getD k (0, 0)).2 m)] := by
  rw [List.take_succ_eq_append_getElem (by rw [divF_len]; exact h)]
  simp [divF, List.getD, h]
/-- A list of numbers, and whether. -/
def RetNL (F : List Nat × Bool) (w : World) (e : Ending) (w' : World) : Prop := ∃ v rs, e = .returned (.tuple #[v, .bool F.2]) ∧ rs.map (nrm .f32) = F.1 ∧ RdV w' v (fl rs) ∧ Below w.heap.size w w'
theorem infoF : (Tryz.prog.info? 33).map (fun i => (i.zero, i.size, i.bytes)) = some (some (.float .f32 0), 1, 4) := by kernel_rfl
theorem fl_push (rs : List Nat) (x : Nat) : fl rs ++ [Value.float .f32 x] = fl (rs ++ [x]) := by simp [fl]
theorem getD_nrm (rs : List Nat) (i : Nat) : (rs.map (nrm .f32)).getD i 0 = nrm .f32 (rs.getD i 0) := by
  by_cases h : i < rs.length
  · simp [List.getD, h]
  · simp only [List.getD]
    rw [List.getElem?_eq_none (by simpa using h), List.getElem?_eq_none (by omega)]
    exact nrm0.symm
end Go.Proofs.YtfnhddaofllniaaGreat

/- Quotients of float32; lengths of small numbers. Conditions: what is divided by is not 0. -/
namespace Go.Proofs.YtfnhddaofllniaaGreat
open Go
set_option linter.unusedSimpArgs false
set_option linter.unusedVariables false

theorem quotient_val32 {a b : Ieee.Datum} (ha : isNum a = true) (hb : isNum b = true) (h0 : valD b ≠ 0) :
    ∃ d, Ieee.Datum.quotient 25 a b = some d ∧ isNum d = true ∧ A (valD d * valD b - valD a) ≤ p2 (-25) * A (valD a) := by
  obtain ⟨s, m, i, rfl⟩ := isNum_ex ha
  obtain ⟨t, n, j, rfl⟩ := isNum_ex hb
  have hn : n ≠ 0 := by rintro rfl; exact h0 (A_eq_zero (by rw [A_val, show ((0 : Nat) : Rat) = 0 from rfl]; grind))
  unfold Ieee.Datum.quotient
  dsimp only
  rw [if_neg hn]
  generalize hmore : 25 + n.log2 - m.log2 = more
  refine ⟨_, rfl, rfl, ?_⟩
  rw [A_val, Nat.shiftLeft_eq]
  have hn0 : 0 < n := Nat.pos_of_ne_zero hn
  have hdm := Nat.div_add_mod (m * 2 ^ more) n
  have hml := Nat.mod_lt (m * 2 ^ more) hn0
  have hbig : m ≠ 0 → 2 ^ 24 * n ≤ m * 2 ^ more := by
    intro hm
    have h1 : n < 2 ^ (n.log2 + 1) := Nat.lt_log2_self
    have h2 : 2 ^ m.log2 ≤ m := Nat.log2_self_le hm
    calc 2 ^ 24 * n ≤ 2 ^ 24 * 2 ^ (n.log2 + 1) := Nat.mul_le_mul_left _ (Nat.le_of_lt h1)
      _ = 2 ^ (25 + n.log2) := by rw [← Nat.pow_add]; congr 1; omega
      _ ≤ 2 ^ (m.log2 + more) := Nat.pow_le_pow_right (by decide) (by omega)
      _ = 2 ^ m.log2 * 2 ^ more := Nat.pow_add ..
      _ ≤ m * 2 ^ more := Nat.mul_le_mul_right _ h2
  -- the digits' error
  obtain ⟨M, hM, hMd⟩ : ∃ M, 2 * (m * 2 ^ more / n) + (m * 2 ^ more % n != 0).toNat = M ∧
      (M * n ≤ 2 * (m * 2 ^ more) + n ∧ 2 * (m * 2 ^ more) ≤ M * n + n) ∧ (m = 0 → M = 0) := by
    refine ⟨_, rfl, ?_, fun h => by subst h; simp⟩
    generalize m * 2 ^ more = D at *
    rw [Nat.add_mul, Nat.mul_assoc, Nat.mul_comm (D / n) n]
    generalize n * (D / n) = p at *
    by_cases hz : D % n = 0
    · simp [hz]; omega
    · have : (D % n != 0) = true := by simpa using hz
      rw [this, Bool.toNat_true, Nat.one_mul]; omega
  rw [hM]
  have hvd : valD (.number (s ^^ t) M (i - j - (more : Int) - 1)) * valD (.number t n j) = sg s (((M * n : Nat) : Rat) * p2 (i - (more : Int) - 1)) := by
    show sg _ _ * sg _ _ = _
    have : p2 (i - j - (more : Int) - 1) * p2 j = p2 (i - (more : Int) - 1) := by rw [← p2_add]; congr 1; omega
    rw [← this, Rat.natCast_mul]
    cases s <;> cases t <;> simp [sg] <;> grind
  have hva : valD (.number s m i) = sg s (((2 * (m * 2 ^ more) : Nat) : Rat) * p2 (i - (more : Int) - 1)) := by
    show sg s _ = _
    have : p2 i = ((2 * 2 ^ more : Nat) : Rat) * p2 (i - (more : Int) - 1) := by
      have e1 : (2 * 2 ^ more : Nat) = 2 ^ (more + 1) := by rw [Nat.pow_succ]; omega
      rw [e1, ← p2_nat, ← p2_add]; congr 1; omega
    rw [this, Rat.natCast_mul, Rat.natCast_mul, Rat.natCast_mul]
    congr 1; grind
  have hma : (m : Rat) * p2 i = ((2 * (m * 2 ^ more) : Nat) : Rat) * p2 (i - (more : Int) - 1) := by
    have := congrArg A hva
    rw [A_val, A_sg, A_of_nonneg (Rat.mul_nonneg (by exact_mod_cast Nat.zero_le _) (Rat.le_of_lt (p2_pos _)))] at this
    exact this
  rw [hvd, hva, hma]
  have hp := p2_pos (i - (more : Int) - 1)
  generalize p2 (i - (more : Int) - 1) = P at *
  have hdif : sg s (((M * n : Nat) : Rat) * P) - sg s (((2 * (m * 2 ^ more) : Nat) : Rat) * P) = sg s ((((M * n : Nat) : Rat) - ((2 * (m * 2 ^ more) : Nat) : Rat)) * P) := by
    cases s <;> simp [sg] <;> grind
  rw [hdif, A_sg, A_mul, A_of_nonneg (Rat.le_of_lt hp)]
  have key : A (((M * n : Nat) : Rat) - ((2 * (m * 2 ^ more) : Nat) : Rat)) ≤ p2 (-25) * ((2 * (m * 2 ^ more) : Nat) : Rat) := by
    by_cases hm : m = 0
    · rw [hMd.2 hm, hm, Nat.zero_mul, Nat.zero_mul, Nat.mul_zero, show ((0 : Nat) : Rat) = 0 from rfl, show (0 : Rat) - 0 = 0 by grind, A_zero]
      grind
    · have hb1 := hbig hm
      have h54 : p2 (-25) * p2 25 = 1 := by rw [← p2_add]; exact p2_zero
      have h54' : p2 25 = ((2 ^ 25 : Nat) : Rat) := p2_nat 25
      have c1 : ((M * n : Nat) : Rat) ≤ ((2 * (m * 2 ^ more) : Nat) : Rat) + (n : Rat) := by exact_mod_cast hMd.1.1
      have c2 : ((2 * (m * 2 ^ more) : Nat) : Rat) ≤ ((M * n : Nat) : Rat) + (n : Rat) := by exact_mod_cast hMd.1.2
      have c3 : p2 25 * (n : Rat) ≤ ((2 * (m * 2 ^ more) : Nat) : Rat) := by
        rw [h54', ← Rat.natCast_mul]
        have : 2 ^ 25 * n ≤ 2 * (m * 2 ^ more) := by
          have : (2 : Nat) ^ 25 = 2 * 2 ^ 24 := by decide
          rw [this, Nat.mul_assoc]; omega
        exact_mod_cast this
      have c4 := Rat.mul_le_mul_of_nonneg_left c3 (Rat.le_of_lt (p2_pos (-25)))
      rw [← Rat.mul_assoc, h54] at c4
      rw [A_le]
      grind
  have := Rat.mul_le_mul_of_nonneg_right key (Rat.le_of_lt hp)
  rw [Rat.mul_assoc] at this
  exact this

/-- A quotient of float32. -/
theorem fop_quo_ok32 {x y : Nat} (hx : fN .f32 x = true) (hy : fN .f32 y = true) (h0 : vN .f32 y ≠ 0) {q : Rat} (hq : q * vN .f32 y = vN .f32 x) (ht : A q < p2 100) :
    fN .f32 (fop .quo .f32 x y) = true ∧ A (vN .f32 (fop .quo .f32 x y) - q) ≤ p2 (-23) * A q + p2 (-150) := by
  obtain ⟨d, h1, h2, h3⟩ := quotient_val32 hx hy h0
  have hf : fop .quo .f32 x y = nrm .f32 (FloatKind.f32.encode d) := by
    unfold fop floatBits Ieee.Format.div
    dsimp only
    rw [show Ieee.Datum.quotient (FloatKind.f32.format.fractionBits + 2) (FloatKind.f32.format.read x) (FloatKind.f32.format.read y) = some d from h1]
    rfl
  have hb := A_pos h0
  have e1 : A (valD d - q) ≤ p2 (-25) * A q := by
    refine lcancel_le hb ?_
    rw [← A_mul]
    have e2 : (valD d - q) * vN .f32 y = valD d * vN .f32 y - vN .f32 x := by rw [← hq]; grind
    rw [e2, Rat.mul_assoc, ← A_mul, hq]
    exact h3
  have hq0 := A_nonneg q
  have hs54 : p2 (-25) ≤ 1 := by have := p2_mono (show (-25 : Int) ≤ 0 by decide); rw [p2_zero] at this; exact this
  have e3 : A (valD d) ≤ A q + p2 (-25) * A q := by
    have := A_add (valD d - q) q
    rw [show valD d - q + q = valD d by grind] at this
    grind
  have e4 : p2 (-25) * A q ≤ A q := by have := Rat.mul_le_mul_of_nonneg_right hs54 hq0; grind
  have hR : Res .f32 (nrm .f32 (FloatKind.f32.encode d)) (valD d) := res_write h2 (by
    have e5 : p2 100 + p2 100 = p2 101 := by rw [show (101 : Int) = 1 + 100 by rfl, p2_add, show p2 1 = 2 from rfl]; grind
    have e6 := p2_mono (show (101 : Int) ≤ 127 by decide)
    show A (valD d) < p2 127
    grind)
  rw [hf]
  refine ⟨hR.1, ?_⟩
  have e7 := A_add (vN .f32 (nrm .f32 (FloatKind.f32.encode d)) - valD d) (valD d - q)
  rw [show vN .f32 (nrm .f32 (FloatKind.f32.encode d)) - valD d + (valD d - q) = vN .f32 (nrm .f32 (FloatKind.f32.encode d)) - q by grind] at e7
  have e8 : A (vN .f32 (nrm .f32 (FloatKind.f32.encode d)) - valD d) ≤ p2 (-24) * A (valD d) + p2 (-150) := hR.2.1
  have e9 : p2 (-24) * A (valD d) ≤ p2 (-24) * (A q + p2 (-25) * A q) := Rat.mul_le_mul_of_nonneg_left e3 (Rat.le_of_lt (p2_pos _))
  have f1 : p2 (-24) = 2 * p2 (-25) := by rw [show (-24 : Int) = 1 + -25 by rfl, p2_add]; rfl
  have f2 : p2 (-23) = 4 * p2 (-25) := by rw [show (-23 : Int) = 2 + -25 by rfl, p2_add]; rfl
  have f3 : p2 (-25) * (p2 (-25) * A q) ≤ p2 (-25) * A q * (1 / 2) := by
    have g1 : p2 (-25) ≤ 1 / 2 := by
      have := p2_mono (show (-25 : Int) ≤ -1 by decide)
      have g2 : p2 (-1) = 1 / 2 := by decide +kernel
      rw [g2] at this; exact this
    have := Rat.mul_le_mul_of_nonneg_right g1 (show 0 ≤ p2 (-25) * A q from Rat.mul_nonneg (Rat.le_of_lt (p2_pos _)) hq0)
    grind
  rw [f1] at e8 e9
  rw [f2]
  have f4 : 2 * p2 (-25) * (A q + p2 (-25) * A q) = 2 * (p2 (-25) * A q) + 2 * (p2 (-25) * (p2 (-25) * A q)) := by grind
  grind
theorem longF_ge59 {d : C2} {B c : Rat} (hd : fC d) (hn : N (cv d) ≤ B) (h2 : B ≤ p2 40) (hc : p2 (-59) ≤ c) (hs : c * c ≤ sqN (cv d)) : c * (1 - p2 (-20)) ≤ vN .f32 (longF d) := by
  have hp := powerF_pos hd (Rat.le_trans hn (p44 h2))
  obtain ⟨w1, w2⟩ := powerF_ok hd (lt_of_p2 (Rat.le_trans hn h2) (by decide))
  have s0 := sqN_nonneg (cv d)
  have s1 := sqN_le (cv d)
  have c0 : 0 < c := by have := p2_pos (-59); grind
  have hcc : 0 ≤ c * c := Rat.le_of_lt (Rat.mul_pos c0 c0)
  have s2 : sqN (cv d) ≤ p2 80 := by
    have := mul_le (Rat.le_trans hn h2) (Rat.le_trans hn h2) (N_nonneg _) (Rat.le_of_lt (p2_pos 40))
    rw [← p2_add] at this; exact Rat.le_trans s1 this
  rw [A_of_nonneg s0] at w2
  have g := le_A (vN .f64 (powerF d) - sqN (cv d))
  have v1 : p2 (-53) ≤ 1 := p2_small (by decide)
  have k0 := Rat.mul_le_mul_of_nonneg_right hs (show 0 ≤ 1 - p2 (-53) by grind)
  have k2 : p2 (-1075) ≤ p2 (-53) * (c * c) := by
    have a1 : p2 (-59) * p2 (-59) ≤ c * c := mul_le hc hc (Rat.le_of_lt (p2_pos _)) (Rat.le_of_lt c0)
    have a2 := Rat.mul_le_mul_of_nonneg_left a1 (Rat.le_of_lt (p2_pos (-53)))
    have a3 : p2 (-1075) ≤ p2 (-53) * (p2 (-59) * p2 (-59)) := by rw [← p2_add, ← p2_add]; exact p2_mono (by decide)
    grind
  have k3 : (c * (1 - p2 (-45))) * (c * (1 - p2 (-45))) ≤ vN .f64 (powerF d) := by
    have e : (c * (1 - p2 (-45))) * (c * (1 - p2 (-45))) = c * c - (p2 (-45) + p2 (-45) - p2 (-45) * p2 (-45)) * (c * c) := by grind
    have a1 : p2 (-53) + p2 (-53) ≤ p2 (-45) + p2 (-45) - p2 (-45) * p2 (-45) := by decide +kernel
    have a2 := Rat.mul_le_mul_of_nonneg_right a1 hcc
    rw [e]
    have a3 : c * c * (1 - p2 (-53)) = c * c - p2 (-53) * (c * c) := by grind
    have a4 : (p2 (-53) + p2 (-53)) * (c * c) = p2 (-53) * (c * c) + p2 (-53) * (c * c) := by grind
    rw [a3] at k0
    rw [a4] at a2
    generalize (p2 (-45) + p2 (-45) - p2 (-45) * p2 (-45)) * (c * c) = t1 at *
    generalize p2 (-53) * (c * c) = t2 at *
    generalize p2 (-53) = v at *
    generalize p2 (-1075) = t at *
    clear e a1 a3 a4 hc hs hn h2
    grind
  have k4 : vN .f64 (powerF d) ≤ p2 90 := by
    have a1 : p2 (-53) * sqN (cv d) ≤ 1 * sqN (cv d) := Rat.mul_le_mul_of_nonneg_right v1 s0
    have a2 : p2 80 + p2 80 + 1 ≤ p2 90 := by decide +kernel
    have a3 : p2 (-1075) ≤ 1 := p2_small (by decide)
    generalize p2 (-53) = v at *
    generalize p2 (-1075) = t at *
    generalize p2 90 = w at *
    generalize p2 80 = w' at *
    clear k0 k2 k3 hc
    grind
  have c1 : p2 (-60) ≤ c * (1 - p2 (-45)) := by
    have a1 : p2 (-60) ≤ p2 (-59) * (1 - p2 (-45)) := by decide +kernel
    have a2 := Rat.mul_le_mul_of_nonneg_right hc (show 0 ≤ 1 - p2 (-45) by decide +kernel)
    grind
  have k5 := sq_ge hp.fN hp.nonneg k4 c1 k3
  obtain ⟨q1, q2, x, x0, x1, _, x3⟩ := sq_val hp.fN hp.nonneg k4
  have q4 : vN .f64 (sqF (powerF d)) ≤ p2 60 := by
    have a1 := le_A (vN .f64 (sqF (powerF d)) - x)
    have a2 : p2 (-53) * x ≤ 1 * x := Rat.mul_le_mul_of_nonneg_right v1 x0
    have a3 : p2 46 + p2 46 + 1 ≤ p2 60 := by decide +kernel
    have a4 : p2 (-1075) ≤ 1 := p2_small (by decide)
    generalize p2 (-53) = v at *
    generalize p2 (-1075) = t at *
    generalize p2 46 = w at *
    generalize p2 60 = w' at *
    clear k0 k2 k3 k4 k5 hc c1
    grind
  have c2 : p2 (-60) ≤ c * (1 - p2 (-45)) * (1 - p2 (-40)) := by
    have a1 : p2 (-60) ≤ p2 (-59) * ((1 - p2 (-45)) * (1 - p2 (-40))) := by decide +kernel
    have a2 := Rat.mul_le_mul_of_nonneg_right hc (show 0 ≤ (1 - p2 (-45)) * (1 - p2 (-40)) by decide +kernel)
    grind
  obtain ⟨_, _, z3, _⟩ := nw_near q1 c2 (Rat.le_refl (a := p2 60)) k5 q4
  refine Rat.le_trans ?_ z3
  have a1 : 1 - p2 (-20) ≤ (1 - p2 (-45)) * (1 - p2 (-40)) * (1 - p2 (-23)) := by decide +kernel
  have a2 := Rat.mul_le_mul_of_nonneg_left a1 (Rat.le_of_lt c0)
  grind
theorem maxW_ge {x y : Nat} (hx : fN .f32 x = true) (hy : fN .f32 y = true) : vN .f32 x ≤ vN .f32 (maxW x y) ∧ vN .f32 y ≤ vN .f32 (maxW x y) ∧ (maxW x y = x ∨ maxW x y = y) := by
  obtain ⟨a, b, e, h1, h2, h3⟩ := order_num hx hy
  have hp := Rat.le_of_lt (p2_pos e)
  unfold maxW
  rw [h3]
  cases hc : compare a b
  · have h := Int.compare_eq_lt.1 hc
    dsimp only
    refine ⟨?_, Rat.le_refl, .inr rfl⟩
    rw [h1, h2]
    exact Rat.mul_le_mul_of_nonneg_right (by exact_mod_cast Int.le_of_lt h) hp
  · have h := Int.compare_eq_eq.1 hc
    have e' : vN .f32 x = vN .f32 y := by rw [h1, h2, h]
    dsimp only
    generalize (FloatKind.f32.decode x).neg = bb
    cases bb
    · exact ⟨Rat.le_refl, show vN .f32 y ≤ vN .f32 x by rw [e']; exact Rat.le_refl, .inl rfl⟩
    · exact ⟨show vN .f32 x ≤ vN .f32 y by rw [e']; exact Rat.le_refl, Rat.le_refl, .inr rfl⟩
  · have h := Int.compare_eq_gt.1 hc
    dsimp only
    refine ⟨Rat.le_refl, ?_, .inl rfl⟩
    rw [h1, h2]
    exact Rat.mul_le_mul_of_nonneg_right (by exact_mod_cast Int.le_of_lt h) hp
theorem mostF_val {S : List C2} {m : Nat} {B : Rat} (h : ∀ k, k < m → fN .f32 (longF (S.getD k (0, 0))) = true ∧ 0 ≤ vN .f32 (longF (S.getD k (0, 0))) ∧ vN .f32 (longF (S.getD k (0, 0))) ≤ B) (hB : 0 ≤ B) {k : Nat} (hk : k ≤ m) :
    fN .f32 (mostF S k) = true ∧ 0 ≤ vN .f32 (mostF S k) ∧ vN .f32 (mostF S k) ≤ B ∧ ∀ i, i < k → vN .f32 (longF (S.getD i (0, 0))) ≤ vN .f32 (mostF S k) := by
  induction k with
  | zero =>
    have z : vN .f32 (mostF S 0) = 0 := vN0
    refine ⟨fC0.1.1, by rw [z]; exact Rat.le_refl, by rw [z]; exact hB, fun i hi => absurd hi (by omega)⟩
  | succ k ih =>
    obtain ⟨a1, a2, a3, a4⟩ := ih (by omega)
    obtain ⟨b1, b2, b3⟩ := h k (by omega)
    obtain ⟨c1, c2, c3⟩ := maxW_ge a1 b1
    have e : mostF S (k + 1) = maxW (mostF S k) (longF (S.getD k (0, 0))) := rfl
    rw [e]
    refine ⟨maxW_fin a1 b1, Rat.le_trans a2 c1, ?_, fun i hi => ?_⟩
    · rcases c3 with c | c
      · rw [c]; exact a3
      · rw [c]; exact b3
    · by_cases hi2 : i = k
      · subst hi2; exact c2
      · exact Rat.le_trans (a4 i (by omega)) c1
end Go.Proofs.YtfnhddaofllniaaGreat

/- Radii of roots, plainly: one squaring and scaling keeps the polynomials told. Conditions: bounded terms, a top term that is not too small. -/
namespace Go.Proofs.YtfnhddaofllniaaGreat
open Go
set_option linter.unusedSimpArgs false
set_option linter.unusedVariables false

/-- The top term of a product of a list with itself is the square of the top term. -/
theorem acc_none (F : List C2) (k i : Nat) (h : F.length + i ≤ k + 1) : accF F F k i = (0, 0) := by
  induction i with
  | zero => rfl
  | succ i ih =>
    have : accF F F k (i + 1) = accF F F k i := if_neg (fun hh => by omega)
    rw [this]; exact ih (by omega)
theorem acc_top (F : List C2) (l : Nat) (hl : F.length = l + 1) : accF F F (2 * l) (l + 1) = addC (0, 0) (mulC (F.getD l (0, 0)) (F.getD l (0, 0))) := by
  have e : accF F F (2 * l) (l + 1) = addC (accF F F (2 * l) l) (mulC (F.getD l (0, 0)) (F.getD (2 * l - l) (0, 0))) := if_pos ⟨by omega, by omega⟩
  rw [e, acc_none F (2 * l) l (by omega), show 2 * l - l = l by omega]
theorem prod_top (F : List C2) (l : Nat) (hl : F.length = l + 1) : (prodF F F).getD (2 * l) (0, 0) = addC (0, 0) (mulC (F.getD l (0, 0)) (F.getD l (0, 0))) := by
  rw [← acc_top F l hl]
  have : 2 * l < F.length + F.length - 1 := by omega
  unfold prodF
  rw [List.getD, List.getElem?_map, List.getElem?_range this]
  show accF F F (2 * l) F.length = _
  rw [hl]
/-- The top term of the squared polynomial. -/
theorem sq_top {P : List C2} {n : Nat} (hn : P.length = n + 1) (h1 : 1 ≤ n) (nz : zeroC (P.getD n (0, 0)) = false) :
    sqT P n = (if n % 2 = 1 then scaleC (subC (0, 0) (addC (0, 0) (mulC (P.getD n (0, 0)) (P.getD n (0, 0))))) (nrm .f32 3212836864) else subC (addC (0, 0) (mulC (P.getD n (0, 0)) (P.getD n (0, 0)))) (0, 0)) := by
  have e0 := evF_length P 0
  have e1' := evF_length P 1
  have b0 := trimN_le (evF P 0) (evF P 0).length
  have b1 := trimN_le (evF P 1) (evF P 1).length
  have c0 := trimN_pos (evF P 0) (n := (evF P 0).length) (by omega)
  have c1 := trimN_pos (evF P 1) (n := (evF P 1).length) (by omega)
  have full : ∀ a, a ≤ 1 → a % 2 = n % 2 → trimN (evF P a) (evF P a).length = (evF P a).length := by
    intro a ha hp
    have ea := evF_length P a
    have i : a + 2 * ((evF P a).length - 1) = n := by omega
    by_cases hs : (evF P a).length ≤ 1
    · exact trimN_small hs
    · exact trimN_stop (by omega) (by rw [ev_get P a _ ha, i]; exact nz)
  have l1 : (eeF P).length = 2 * trimN (evF P 0) (evF P 0).length - 1 := by unfold eeF; rw [prodF_length, trimF_length]; omega
  have l2 : (ooF P).length = 2 * trimN (evF P 1) (evF P 1).length := by unfold ooF; rw [List.length_cons, prodF_length, trimF_length]; omega
  have get : ∀ a, a ≤ 1 → a % 2 = n % 2 → ∀ l, a + 2 * l = n → (trimF (evF P a)).length = l + 1 ∧ (trimF (evF P a)).getD l (0, 0) = P.getD n (0, 0) := by
    intro a ha hp l hl
    have f := full a ha hp
    have ea := evF_length P a
    have tf : trimF (evF P a) = evF P a := by unfold trimF; rw [f]; simp
    rw [tf, ev_get P a l ha, hl]
    exact ⟨by omega, rfl⟩
  by_cases hp : n % 2 = 1
  · rw [if_pos hp]
    have e : sqT P n = scaleC (subC ((eeF P).getD n (0, 0)) ((ooF P).getD n (0, 0))) (nrm .f32 3212836864) := if_pos (by rw [hn]; omega)
    obtain ⟨g1, g2⟩ := get 1 (by omega) (by omega) ((n - 1) / 2) (by omega)
    have f := full 1 (by omega) (by omega)
    have z : (eeF P).getD n (0, 0) = (0, 0) := getD_over (by omega)
    have y : (ooF P).getD n (0, 0) = addC (0, 0) (mulC (P.getD n (0, 0)) (P.getD n (0, 0))) := by
      rw [← g2, ← prod_top _ _ g1, show 2 * ((n - 1) / 2) = n - 1 by omega]
      obtain ⟨m, rfl⟩ : ∃ m, n = m + 1 := ⟨n - 1, by omega⟩
      rfl
    rw [e, z, y]
  · rw [if_neg hp]
    have e : sqT P n = subC ((eeF P).getD n (0, 0)) ((ooF P).getD n (0, 0)) := if_neg (by rw [hn]; omega)
    obtain ⟨g1, g2⟩ := get 0 (by omega) (by omega) (n / 2) (by omega)
    have z : (ooF P).getD n (0, 0) = (0, 0) := getD_over (by omega)
    have y : (eeF P).getD n (0, 0) = addC (0, 0) (mulC (P.getD n (0, 0)) (P.getD n (0, 0))) := by
      rw [← g2, ← prod_top _ _ g1, show 2 * (n / 2) = n by omega]
      rfl
    rw [e, z, y]
theorem sq_low (x : Q2) : N x * N x ≤ 2 * N (x * x) := by
  have a := sqN_ge x
  have b := sqN_le (x * x)
  rw [sqN_mul] at b
  have c := sqN_nonneg x
  have d := N_nonneg (x * x)
  have e : sqN x ≤ N (x * x) := by
    rcases Rat.le_total (a := sqN x) (b := N (x * x)) with h | h
    · exact h
    · have := mul_le h h d c
      have h2 : sqN x * sqN x = N (x * x) * N (x * x) := Rat.le_antisymm b this
      by_cases hz : sqN x + N (x * x) = 0
      · grind
      · have h3 : (sqN x - N (x * x)) * (sqN x + N (x * x)) = 0 := by grind
        rcases Rat.mul_eq_zero.1 h3 with h4 | h4
        · grind
        · exact absurd h4 hz
  grind
/-- A rounding's share, of a number that is not too small. -/
theorem near_low {r : C2} {q : Q2} (h : Near r q) {L : Rat} (hL : p2 (-100) ≤ L) (hq : L ≤ N q) : (1 - 1 / 8388608) * N q ≤ N (cv r) ∧ N (cv r) ≤ (1 + 1 / 8388608) * N q := by
  have k : u1 ≤ 1 / 16777000 ∧ e1 ≤ 1 / 1000000000 * p2 (-100) ∧ 0 ≤ u1 := by decide +kernel
  obtain ⟨k1, k2, k3⟩ := k
  have t1 := N_tri (cv r) q
  have t2 := N_tri q (cv r)
  rw [N_comm q (cv r)] at t2
  have e := h.2
  have n0 := N_nonneg q
  have a := Rat.mul_le_mul_of_nonneg_right k1 n0
  generalize u1 = u at *
  generalize e1 = v at *
  generalize p2 (-100) = w at *
  exact ⟨by grind, by grind⟩
end Go.Proofs.YtfnhddaofllniaaGreat
