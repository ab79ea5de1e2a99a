/- How much a polynomial misses 0 at a number, of the program and of the reference. Conditions: a polynomial with roots whose value is told; lengths fit float32. -/
import Derived.Test.YtfnhddaofllniaaGreatV7
import Derived.Test.YtfnhddaofllniaaGreatV12
import Derived.Test.YtfnhddaofllniaaGreatV15
namespace Go.Proofs.YtfnhddaofllniaaGreat
set_option linter.unusedSimpArgs false
set_option linter.unusedVariables false
open Go Go.RowKit

def RetFB (F : Nat × Bool) (w : World) (e : Ending) (w' : World) : Prop := ∃ a, e = .returned (.tuple #[.float .f32 a, .bool F.2]) ∧ nrm .f32 a = F.1 ∧ Below w.heap.size w w'
def powL (p l : Nat) : Nat → Nat | 0 => p | k + 1 => fop .mul .f32 (powL p l k) l
def missS (F : List C2) (z : C2) : Nat → Nat | 0 => nrm .f32 0 | k + 1 => fop .add .f32 (missS F z k) (powL (longF (F.getD k (0, 0))) (longF z) k)
def aboveF (x : Nat) : Bool := finF x && fcmp .gtr .f32 x (nrm .f32 0)
def finiteN (x : Nat) : Nat × Bool := if finF x = true then (x, true) else (0, false)
def missG (l s : Nat) : Nat × Bool := if aboveF s = true then finiteN (fop .quo .f32 l s) else (0, false)

theorem leq_gtr {x : Nat} (h : finF x = true) : fcmp .leq .f32 x (nrm .f32 0) = !fcmp .gtr .f32 x (nrm .f32 0) := by
  rw [finF] at h
  unfold fcmp at h ⊢
  have key : ∃ o, Ieee.Format.order FloatKind.f32.format x (nrm .f32 0) = some o := by
    rw [nrm0] at *
    unfold Ieee.Format.order at *
    have h0 : FloatKind.f32.format.read 0 = .number false 0 (-149) := by decide +kernel
    rw [h0] at *
    cases hd : FloatKind.f32.format.read x with
    | number s m e => exact ⟨_, rfl⟩
    | infinity s => cases s <;> exact ⟨_, rfl⟩
    | nan s f =>
      exfalso
      have hf : fop .sub .f32 x x = qnan .f32 := by
        unfold fop floatBits Ieee.Format.sub
        dsimp only
        rw [hd]
        show _ = _
        have : ∀ b, (Ieee.Datum.nan s f).sum b = none := fun b => by cases b <;> rfl
        rw [this]
        decide +kernel
      rw [hf] at h
      revert h
      decide +kernel
  obtain ⟨o, ho⟩ := key
  rw [ho]
  cases o <;> rfl

set_option maxRecDepth 100000 in
theorem checked_impl (x : Nat) (w : World) : Calls Tryz.prog 102 #[.float .f32 x] w (RetFB (finiteN (nrm .f32 x)) w) := by
  have n0 := nrm0
  cases hf : finF (nrm .f32 x)
  · have H := Lib.hid (show finiteN (nrm .f32 x) = (0, false) by simp [finiteN, hf])
    rw [H.out]
    go_enter Tryz.func102, Tryz.ntmps102
    go_wp2_with (go_at_call 51; go_must (refine (isFinite_impl x _).mono ?_); rintro e w' ⟨m, rfl, rfl⟩)
    go_ret2
    exact ⟨_, rfl, n0, below_drewN (Below.refl _ _) _⟩
  · have H := Lib.hid (show finiteN (nrm .f32 x) = (nrm .f32 x, true) by simp [finiteN, hf])
    rw [H.out]
    go_enter Tryz.func102, Tryz.ntmps102
    go_wp2_with (go_at_call 51; go_must (refine (isFinite_impl x _).mono ?_); rintro e w' ⟨m, rfl, rfl⟩)
    go_ret2
    exact ⟨_, rfl, rfl, below_drewN (Below.refl _ _) _⟩
set_option maxRecDepth 100000 in
theorem number1_spec (x : Nat) (w : World) : Calls Tryz.prog 103 #[.float .f32 x] w (RetFB (finiteN (nrm .f32 x)) w) := by
  have n0 := nrm0
  cases hf : finF (nrm .f32 x)
  · have H := Lib.hid (show finiteN (nrm .f32 x) = (0, false) by simp [finiteN, hf])
    rw [H.out]
    go_enter Tryz.func103, Tryz.ntmps103
    go_wp2_with (go_at_call 80; go_must (refine (isFinite_spec x _).mono ?_); rintro e w' ⟨m, rfl, rfl⟩)
    go_ret2
    exact ⟨_, rfl, n0, below_drewN (Below.refl _ _) _⟩
  · have H := Lib.hid (show finiteN (nrm .f32 x) = (nrm .f32 x, true) by simp [finiteN, hf])
    rw [H.out]
    go_enter Tryz.func103, Tryz.ntmps103
    go_wp2_with (go_at_call 80; go_must (refine (isFinite_spec x _).mono ?_); rintro e w' ⟨m, rfl, rfl⟩)
    go_ret2
    exact ⟨_, rfl, rfl, below_drewN (Below.refl _ _) _⟩
set_option maxRecDepth 100000 in
theorem above_spec (x : Nat) (w : World) : Calls Tryz.prog 54 #[.float .f32 x] w (RetB (aboveF (nrm .f32 x)) w) := by
  cases hf : finF (nrm .f32 x)
  · have H := Lib.hid (show aboveF (nrm .f32 x) = false by simp [aboveF, hf])
    rw [H.out]
    go_enter Tryz.func54, Tryz.ntmps54
    go_wp2_with (go_at_call 80; go_must (refine (isFinite_spec x _).mono ?_); rintro e w' ⟨m, rfl, rfl⟩)
    go_ret
    exact ⟨_, rfl, rfl⟩
  · have H := Lib.hid (show aboveF (nrm .f32 x) = fcmp .gtr .f32 (nrm .f32 x) (nrm .f32 0) by simp [aboveF, hf])
    rw [H.out]
    go_enter Tryz.func54, Tryz.ntmps54
    go_wp2_with (first | (go_at_call 80; go_must (refine (isFinite_spec x _).mono ?_); rintro e w' ⟨m, rfl, rfl⟩))
    go_ret
    exact ⟨_, rfl, rfl⟩

/-- What the misses need. -/
structure MsOk (F : List C2) (z : C2) (V : C2) : Prop where
  r : rootedF F = true
  s : safeN F z
  v : polyAtF F z = (V, true)
  f : ∀ k, k < F.length → fit1 (sqF (powerF (F.getD k (0, 0))))
  z : fit1 (sqF (powerF z))
  w : fit1 (sqF (powerF V))
end Go.Proofs.YtfnhddaofllniaaGreat

/- The points 1/64 beside the drawn roots, the slope's value at a root, and what is 0 there. Conditions: up to four drawn roots. -/
namespace Go.Proofs.YtfnhddaofllniaaGreat
open Go
set_option linter.unusedSimpArgs false
set_option linter.unusedVariables false

def dw : C2 := (1015021568, 0)
theorem dw_gr : Gr dw 1 0 6 := by
  have hd : FloatKind.f32.decode 1015021568 = .number false 8388608 (-29) := by decide +kernel
  refine ⟨⟨by show fN .f32 1015021568 = true; unfold fN; rw [hd]; rfl, fC0.1.2⟩, q2e ?_ ?_⟩
  · show vN .f32 1015021568 = _; unfold vN; rw [hd]; decide +kernel
  · have := congrArg Q2.im (Gr.zero 6).2
    exact this
theorem near_gr {rt : C2} {u : Int × Int} (h : Gr rt u.1 u.2 3) (hu : nz u ≤ 24) : Gr (addC rt dw) (8 * u.1 + 1) (8 * u.2) 6 := by
  have a := h.lift 3
  have hn : nz (u.1 * 2 ^ 3, u.2 * 2 ^ 3) ≤ 192 := by
    unfold nz at *
    simp only [Int.natAbs_mul]
    show u.1.natAbs * 8 + u.2.natAbs * 8 ≤ 192
    omega
  have b := Gr.addB (u := (u.1 * 2 ^ 3, u.2 * 2 ^ 3)) (v := (1, 0)) a dw_gr (by show nz (u.1 * 2 ^ 3, u.2 * 2 ^ 3) + 1 < _; omega) (by decide)
  exact b.cast (by show u.1 * 2 ^ 3 + 1 = _; omega) (by show u.2 * 2 ^ 3 + 0 = _; omega)
section
variable {ls : List C2} {X : Nat → Int × Int}
theorem DX.near (h : DX ls X) {i : Nat} (hi : i < ls.length) : fC (addC ((ls.map nc).getD i (0, 0)) dw) ∧ cv (addC ((ls.map nc).getD i (0, 0)) dw) = zq X i ∧ N (cv (addC ((ls.map nc).getD i (0, 0)) dw)) ≤ 193 / 64 ∧
    cv (addC ((ls.map nc).getD i (0, 0)) dw) = cv ((ls.map nc).getD i (0, 0)) + dl := by
  have g := h.g i hi
  have b := h.b i
  have n := near_gr g b
  refine ⟨n.1, n.2, ?_, ?_⟩
  · refine gr_le n 193 ?_ (by decide +kernel)
    unfold nz at b
    omega
  · rw [n.2, g.2]
    refine q2e ?_ ?_
    · show ((8 * (X i).1 + 1 : Int) : Rat) * p2 (-6) = ((X i).1 : Rat) * p2 (-3) + 1 / 64
      rw [p2m3, p2m6, Rat.intCast_add, Rat.intCast_mul]
      have : ((8 : Int) : Rat) = 8 := rfl
      have e : ((1 : Int) : Rat) = 1 := rfl
      rw [this]; grind
    · show ((8 * (X i).2 : Int) : Rat) * p2 (-6) = ((X i).2 : Rat) * p2 (-3) + 0
      rw [p2m3, p2m6, Rat.intCast_mul]
      have : ((8 : Int) : Rat) = 8 := rfl
      rw [this]; grind
theorem DX.tk (h : DX ls X) (h4 : ls.length ≤ 4) (k : Nat) : TK X ls.length ((rootsL (ls.map nc) ls.length).getD k (0, 0)) 1 k := by
  have := (roots_exact h.b h4 h.g).1 k
  rw [catF_in] at this
  exact this.cast (by simp) (by simp)
theorem list_four {L : List C2} : (L.length = 2 → L = [L.getD 0 (0, 0), L.getD 1 (0, 0)]) ∧ (L.length = 3 → L = [L.getD 0 (0, 0), L.getD 1 (0, 0), L.getD 2 (0, 0)]) ∧
    (L.length = 4 → L = [L.getD 0 (0, 0), L.getD 1 (0, 0), L.getD 2 (0, 0), L.getD 3 (0, 0)]) ∧ (L.length = 5 → L = [L.getD 0 (0, 0), L.getD 1 (0, 0), L.getD 2 (0, 0), L.getD 3 (0, 0), L.getD 4 (0, 0)]) := by
  refine ⟨fun h => ?_, fun h => ?_, fun h => ?_, fun h => ?_⟩
  · match L, h with
    | [a, b], _ => rfl
  · match L, h with
    | [a, b, c], _ => rfl
  · match L, h with
    | [a, b, c, d], _ => rfl
  · match L, h with
    | [a, b, c, d, e], _ => rfl
theorem EV.st {F S S2 : List C2} {z rt : C2} {v s t : Q2} {Ev Es Et : Rat} (E : EV F S S2 z v s t Ev Es Et) (hz : fC z) (hr : fC rt) (nzz : N (cv z) ≤ 193 / 64) (er : cv z = cv rt + dl) {n : Nat}
    (hn : ∀ {v' s' t' : Q2}, N (v' - v) ≤ Ev → N (s' - s) ≤ Es → N (t' - t) ≤ Et → ∃ K P m g th, NN n v' s' t' K P m g th) : ∃ K P m g th, StOk F S S2 z rt n K P m g th := by
  obtain ⟨K, P, m, g, th, H⟩ := hn E.nv.2 E.ns.2 E.nt.2
  exact ⟨K, P, m, g, th, ⟨E.r, E.vF, E.pS, E.vS, E.pT, E.vT, E.lS, E.lT, E.sF, E.sS, E.sT, hz, hr, nzz, er, E.nv.1, E.ns.1, E.nt.1, H⟩⟩
/-- What the three steps from beside a root need. -/
theorem DX.st (h : DX ls X) (h1 : 1 ≤ ls.length) (h4 : ls.length ≤ 4) {i : Nat} (hi : i < ls.length) :
    ∃ S S2 K P m g th, StOk (rootsL (ls.map nc) ls.length) S S2 (addC ((ls.map nc).getD i (0, 0)) dw) ((ls.map nc).getD i (0, 0)) ls.length K P m g th := by
  obtain ⟨f, ez, hr, er⟩ := h.near hi
  have fr := (h.g i hi).1
  have T := fun k => h.tk h4 k
  have hX : ∀ j, j < ls.length → nz (X j) ≤ nb j := fun j hj => nb_ok h h4 hj
  have hl := rootsL_length (ls.map nc) ls.length
  generalize hF : rootsL (ls.map nc) ls.length = F at *
  generalize hn : ls.length = n at *
  obtain rfl | rfl | rfl | rfl : n = 1 ∨ n = 2 ∨ n = 3 ∨ n = 4 := by omega
  · rw [list_four.1 hl]
    obtain ⟨S, S2, E⟩ := ev1 hX f ez hr (T 0) (T 1)
    obtain ⟨K, P, m, g, th, H⟩ := E.st f fr hr er (fun a b c => nn_of h (by omega) (by omega) hn (tab1 i hi) (by decide +kernel) a b c)
    exact ⟨S, S2, K, P, m, g, th, H⟩
  · rw [list_four.2.1 hl]
    obtain ⟨S, S2, E⟩ := ev2 hX f ez hr (T 0) (T 1) (T 2)
    obtain ⟨K, P, m, g, th, H⟩ := E.st f fr hr er (fun a b c => nn_of h (by omega) (by omega) hn (tab2 i hi) (by decide +kernel) a b c)
    exact ⟨S, S2, K, P, m, g, th, H⟩
  · rw [list_four.2.2.1 hl]
    obtain ⟨S, S2, E⟩ := ev3 hX f ez hr (T 0) (T 1) (T 2) (T 3)
    obtain ⟨K, P, m, g, th, H⟩ := E.st f fr hr er (fun a b c => nn_of h (by omega) (by omega) hn (tab3 i hi) (by decide +kernel) a b c)
    exact ⟨S, S2, K, P, m, g, th, H⟩
  · rw [list_four.2.2.2 hl]
    obtain ⟨S, S2, E⟩ := ev4 hX f ez hr (T 0) (T 1) (T 2) (T 3) (T 4)
    obtain ⟨K, P, m, g, th, H⟩ := E.st f fr hr er (fun a b c => nn_of h (by omega) (by omega) hn (tab4 i hi) (by decide +kernel) a b c)
    exact ⟨S, S2, K, P, m, g, th, H⟩
end
end Go.Proofs.YtfnhddaofllniaaGreat

/- At the drawn roots: the polynomial is 0, the step of Newton stays, the miss is 0; values at eighths fit. Conditions: up to four drawn roots. -/
namespace Go.Proofs.YtfnhddaofllniaaGreat
open Go
set_option linter.unusedSimpArgs false
set_option linter.unusedVariables false

/-- Horner's partial values of any terms. -/
def gz (w : Nat → Int × Int) (n : Nat) (Z : Int × Int) : Nat → Int × Int
  | 0 => w n
  | j + 1 => za (zm (gz w n Z j) Z) (w (n - j - 1))
def gb (c : Nat → Nat) (n : Nat) : Nat → Nat
  | 0 => c n
  | j + 1 => gb c n j * 24 + c (n - j - 1)
section
variable {F : List C2} {w : Nat → Int × Int} {c : Nat → Nat} {n : Nat} {z : C2} {Z : Int × Int}
theorem gz_bd (hc : ∀ k, k ≤ n → nz (w k) ≤ c k) (hZ : nz Z ≤ 24) (j : Nat) : nz (gz w n Z j) ≤ gb c n j := by
  induction j with
  | zero => exact hc n (Nat.le_refl _)
  | succ j ih => exact Nat.le_trans (nz_add _ _) (Nat.add_le_add (Nat.le_trans (nz_mul _ _) (Nat.mul_le_mul ih hZ)) (hc _ (by omega)))
theorem gz_exact (hn : n ≤ 3) (hF : ∀ k, k ≤ n → Gr (F.getD k (0, 0)) (w k).1 (w k).2 (3 * (n - k))) (hc : ∀ k, k ≤ n → nz (w k) ≤ c k) (hb : ∀ j, j ≤ n → gb c n j * 24 < 2 ^ 24) (hz : Gr z Z.1 Z.2 3) (hZ : nz Z ≤ 24) :
    ∀ d j, j + d = n → ∀ v, Gr v (gz w n Z j).1 (gz w n Z j).2 (3 * j) → safeH F z d v ∧ Gr (horner F z d v) (gz w n Z n).1 (gz w n Z n).2 (3 * n) := by
  intro d
  induction d with
  | zero =>
    intro j hj v hv
    obtain rfl : j = n := by omega
    exact ⟨trivial, hv⟩
  | succ d ih =>
    intro j hj v hv
    have b1 := gz_bd hc hZ j
    have b2 := hb j (by omega)
    have b3 := hb (j + 1) (by omega)
    have b4 := Nat.mul_le_mul b1 hZ
    have hd : n - j - 1 = d := by omega
    rw [gb, hd] at b3
    obtain ⟨f, g⟩ := Gr.mulB (u := gz w n Z j) (v := Z) hv hz (by omega) (by omega) (by omega) (by omega)
    have T := hF d (by omega)
    rw [show 3 * (n - d) = 3 * (j + 1) by omega] at T
    have hs := Gr.addB (u := zm (gz w n Z j) Z) (v := w d) (show Gr (mulC v z) _ _ (3 * (j + 1)) from g) T (by
      have := nz_mul (gz w n Z j) Z
      have := hc d (by omega)
      omega) (by omega)
    have he : gz w n Z (j + 1) = za (zm (gz w n Z j) Z) (w d) := by rw [← hd]; rfl
    rw [← he] at hs
    obtain ⟨i1, i2⟩ := ih (j + 1) (by omega) _ hs
    exact ⟨⟨f, i1⟩, i2⟩
end
theorem kf_up : ∀ k, k < 5 → fN .f32 (kf k) = true ∧ vN .f32 (kf k) = (k : Rat) := fun k hk => kf_ok (by omega)
theorem slope_tab : ∀ n, n < 4 → ∀ j, j < 4 → j ≤ n → gb (fun k => (k + 1) * bz (n + 1) (k + 1)) n j * 24 < 2 ^ 24 := by decide +kernel
theorem slope_tab2 : ∀ n, n < 5 → ∀ k, k < 5 → (k + 1) * (1 * bt n (k + 1)) < 2 ^ 24 := by decide +kernel
section
variable {ls : List C2} {X : Nat → Int × Int}
theorem DX.fF (h : DX ls X) (h4 : ls.length ≤ 4) (k : Nat) : fC ((rootsL (ls.map nc) ls.length).getD k (0, 0)) ∧ N (cv ((rootsL (ls.map nc) ls.length).getD k (0, 0))) ≤ p2 40 := by
  have g := (roots_exact h.b h4 h.g).1 k
  rw [catF_in] at g
  refine ⟨g.1, gr_le g (2 ^ 19) ?_ ?_⟩
  · show nz _ ≤ _
    by_cases hk : k < 6
    · exact Nat.le_of_lt (Nat.lt_of_le_of_lt (cz_bd X h.b _ k) (bz_lt _ (by omega) k hk))
    · rw [cz_over X _ k (by omega)]; decide
  · have h1 : p2 (-((3 * (ls.length - k) : Nat) : Int)) ≤ 1 := p2_small (by omega)
    have h2 : ((2 ^ 19 : Nat) : Rat) * p2 (-((3 * (ls.length - k) : Nat) : Int)) ≤ ((2 ^ 19 : Nat) : Rat) * 1 := Rat.mul_le_mul_of_nonneg_left h1 (by decide +kernel)
    exact Rat.le_trans h2 (by decide +kernel)
/-- The value at a point in eighths. -/
theorem DX.value (h : DX ls X) (h1 : 1 ≤ ls.length) (h4 : ls.length ≤ 4) {z : C2} {Z : Int × Int} (hz : Gr z Z.1 Z.2 3) (hZ : nz Z ≤ 24) :
    safeN (rootsL (ls.map nc) ls.length) z ∧ Gr (nestedF (rootsL (ls.map nc) ls.length) z) (ez X ls.length Z ls.length).1 (ez X ls.length Z ls.length).2 (3 * ls.length) ∧
    N (cv (nestedF (rootsL (ls.map nc) ls.length) z)) ≤ p2 40 ∧ polyAtF (rootsL (ls.map nc) ls.length) z = (nestedF (rootsL (ls.map nc) ls.length) z, true) := by
  obtain ⟨a, b⟩ := value_exact h.b h4 h.g hz hZ
  refine ⟨a, b, gr_le b (2 ^ 23) ?_ ?_, ?_⟩
  · exact Nat.le_of_lt (Nat.lt_of_le_of_lt (ez_bd X h.b _ Z hZ _) (eb_lt _ (by omega) _ (by omega) (Nat.le_refl _)))
  · have h1 : p2 (-((3 * ls.length : Nat) : Int)) ≤ 1 := p2_small (by omega)
    have h2 : ((2 ^ 23 : Nat) : Rat) * p2 (-((3 * ls.length : Nat) : Int)) ≤ ((2 ^ 23 : Nat) : Rat) * 1 := Rat.mul_le_mul_of_nonneg_left h1 (by decide +kernel)
    exact Rat.le_trans h2 (by decide +kernel)
  · have hr := (h.poly h1 h4).2.2
    unfold rootedF at hr
    rw [Bool.and_eq_true] at hr
    unfold polyAtF finiteX
    rw [if_pos ⟨hr.1, finG hz⟩, if_pos (finG b)]
theorem gr_small {z : C2} {Z : Int × Int} (hz : Gr z Z.1 Z.2 3) (hZ : nz Z ≤ 24) : N (cv z) ≤ p2 40 := gr_le hz 24 hZ (by decide +kernel)
theorem fit_long {d : C2} (hd : fC d) (hn : N (cv d) ≤ p2 40) : fit1 (sqF (powerF d)) := (longF_le hd hn (p2_mono (by decide)) (Rat.le_refl)).1
/-- The miss at a point in eighths can be reckoned. -/
theorem DX.ms (h : DX ls X) (h1 : 1 ≤ ls.length) (h4 : ls.length ≤ 4) {z : C2} {Z : Int × Int} (hz : Gr z Z.1 Z.2 3) (hZ : nz Z ≤ 24) :
    MsOk (rootsL (ls.map nc) ls.length) z (nestedF (rootsL (ls.map nc) ls.length) z) := by
  obtain ⟨a, b, c, d⟩ := h.value h1 h4 hz hZ
  exact ⟨(h.poly h1 h4).2.2, a, d, fun k _ => fit_long (h.fF h4 k).1 (h.fF h4 k).2, fit_long hz.1 (gr_small hz hZ), fit_long b.1 c⟩
theorem quo_pos {s : Nat} (h : aboveF s = true) : fop .quo .f32 0 s = 0 := by
  unfold aboveF at h
  rw [Bool.and_eq_true] at h
  have hf : fN .f32 s = true := by rw [← finF_iff]; exact h.1
  have hz : fN .f32 (nrm .f32 0) = true := by decide +kernel
  have hg := h.2
  rw [cmp_gtr hf hz, decide_eq_true_eq, show vN .f32 (nrm .f32 0) = 0 by decide +kernel] at hg
  obtain ⟨t, n, j, hd⟩ := isNum_ex hf
  unfold vN at hg
  rw [hd] at hg
  have hp := p2_pos j
  have hm0 : (0 : Rat) ≤ (n : Rat) * p2 j := Rat.mul_nonneg (by exact_mod_cast Nat.zero_le _) (Rat.le_of_lt hp)
  have ht : t = false := by
    cases t with
    | false => rfl
    | true =>
      have : (0 : Rat) < -((n : Rat) * p2 j) := hg
      grind
  subst ht
  have hn : n ≠ 0 := by
    rintro rfl
    have : (0 : Rat) < ((0 : Nat) : Rat) * p2 j := hg
    rw [show ((0 : Nat) : Rat) = 0 from rfl] at this
    grind
  unfold fop floatBits Ieee.Format.div
  dsimp only
  rw [show FloatKind.f32.format.read s = .number false n j from hd, show FloatKind.f32.format.read 0 = .number false 0 (-149) by decide +kernel]
  unfold Ieee.Datum.quotient
  dsimp only
  rw [if_neg hn]
  simp only [Nat.zero_shiftLeft, Nat.zero_div, Nat.zero_mod, Nat.mul_zero]
  generalize (-149 - j - _ - 1 : Int) = e
  show nrm .f32 (FloatKind.f32.format.nearest false 0 e) = 0
  unfold Ieee.Format.nearest
  rw [if_pos rfl]
  decide +kernel
/-- At a root. -/
theorem DX.root (h : DX ls X) (h1 : 1 ≤ ls.length) (h4 : ls.length ≤ 4) {i : Nat} (hi : i < ls.length) :
    MsOk (rootsL (ls.map nc) ls.length) ((ls.map nc).getD i (0, 0)) (nestedF (rootsL (ls.map nc) ls.length) ((ls.map nc).getD i (0, 0))) ∧
    (∀ s, ∃ b, missG (longF (nestedF (rootsL (ls.map nc) ls.length) ((ls.map nc).getD i (0, 0)))) s = (0, b)) := by
  refine ⟨h.ms h1 h4 (h.g i hi) (h.b i), fun s => ?_⟩
  have g := (root_value h.b h4 h.g hi).2
  have hv : longF (nestedF (rootsL (ls.map nc) ls.length) ((ls.map nc).getD i (0, 0))) = 0 := by
    rw [long_congr g.1 fC0.1 (g.2.trans ((Gr.zero _).2).symm) (gr_le g 0 (by decide) (by rw [show ((0 : Nat) : Rat) = 0 from rfl]; have := p2_pos 44; grind))]
    exact long_zero
  rw [hv]
  unfold missG
  split
  · rename_i ha
    rw [quo_pos ha]
    exact ⟨true, by decide +kernel⟩
  · exact ⟨false, rfl⟩
theorem slopeF_get {F : List C2} {n : Nat} (hl : F.length = n + 1) (h1 : 1 ≤ n) : (slopeF F).length = n ∧ ∀ k, k < n → (slopeF F).getD k (0, 0) = scaleC (F.getD (k + 1) (0, 0)) (kf (k + 1)) := by
  have e : slopeF F = (List.range n).map (slopeG F) := by unfold slopeF; rw [if_neg (by omega), hl]; simp
  rw [e]
  refine ⟨by simp, fun k hk => ?_⟩
  have : ((List.range n).map (slopeG F)).getD k (0, 0) = slopeG F k := by simp [List.getD, hk]
  rw [this]
  rfl
theorem DX.slope (h : DX ls X) (h1 : 1 ≤ ls.length) (h4 : ls.length ≤ 4) :
    slopePolyF (rootsL (ls.map nc) ls.length) = (slopeF (rootsL (ls.map nc) ls.length), true) ∧ validF (slopeF (rootsL (ls.map nc) ls.length)) = true ∧ (slopeF (rootsL (ls.map nc) ls.length)).length = ls.length ∧
    ∀ k, k < ls.length → TK X ls.length ((slopeF (rootsL (ls.map nc) ls.length)).getD k (0, 0)) (k + 1) (k + 1) := by
  have hr := (h.poly h1 h4).2.2
  unfold rootedF at hr
  rw [Bool.and_eq_true] at hr
  obtain ⟨l1, l2⟩ := slopeF_get (F := rootsL (ls.map nc) ls.length) (rootsL_length _ _) h1
  have hX : ∀ j, j < ls.length → nz (X j) ≤ nb j := fun j hj => nb_ok h h4 hj
  have T : ∀ k, k < ls.length → TK X ls.length ((slopeF (rootsL (ls.map nc) ls.length)).getD k (0, 0)) (k + 1) (k + 1) := by
    intro k hk
    rw [l2 k hk]
    have := (h.tk h4 (k + 1)).scale hX (c' := k + 1) (kf_up (k + 1) (by omega)) (slope_tab2 _ (by omega) k (by omega)) (by omega)
    rwa [Nat.mul_one] at this
  have V : validF (slopeF (rootsL (ls.map nc) ls.length)) = true ∧ polyF (slopeF (rootsL (ls.map nc) ls.length)) = (slopeF (rootsL (ls.map nc) ls.length), true) := by
    have ht := T (ls.length - 1) (by omega)
    rw [show ls.length - 1 + 1 = ls.length by omega] at ht
    obtain ⟨t1, t2⟩ := ht.top (by omega)
    by_cases hn : ls.length = 1
    · rw [hn] at l1 ⊢
      obtain ⟨x, hx⟩ := List.length_eq_one_iff.1 l1
      rw [hn] at t1
      rw [hx] at t1 ⊢
      exact poly_one t1
    · refine poly_of (by omega) ?_ (by rw [l1]; exact t2)
      rw [List.all_eq_true]
      intro x hx
      obtain ⟨i, hi, rfl⟩ := List.getElem_of_mem hx
      have := (T i (by omega)).fin
      rwa [show (slopeF (rootsL (ls.map nc) ls.length)).getD i (0, 0) = (slopeF (rootsL (ls.map nc) ls.length))[i] by simp [List.getD, hi]] at this
  exact ⟨by unfold slopePolyF; rw [if_pos hr.1]; exact V.2, V.1, l1, T⟩
/-- Newton's step from a root stays there. -/
theorem DX.stay (h : DX ls X) (h1 : 1 ≤ ls.length) (h4 : ls.length ≤ 4) {i : Nat} (hi : i < ls.length) :
    safePolish (rootsL (ls.map nc) ls.length) 1 ((ls.map nc).getD i (0, 0)) ∧ polishF (rootsL (ls.map nc) ls.length) 1 ((ls.map nc).getD i (0, 0)) = ((ls.map nc).getD i (0, 0), true) := by
  obtain ⟨s1, g1, n1, p1⟩ := h.value h1 h4 (h.g i hi) (h.b i)
  have g := (root_value h.b h4 h.g hi).2
  have hr := (h.poly h1 h4).2.2
  obtain ⟨S1, S2, S3, S4⟩ := h.slope h1 h4
  have hz := h.g i hi
  have hb := h.b i
  have zv : zeroC (nestedF (rootsL (ls.map nc) ls.length) ((ls.map nc).getD i (0, 0))) = true := by
    obtain ⟨⟨_, a⟩, _, b⟩ := g.parts
    refine (zeroC_iff (finG g)).2 ⟨by rw [a, show ((0 : Int) : Rat) = 0 from rfl]; grind, by rw [b, show ((0 : Int) : Rat) = 0 from rfl]; grind⟩
  have SV : safeN (slopeF (rootsL (ls.map nc) ls.length)) ((ls.map nc).getD i (0, 0)) ∧ ∃ u : Int × Int, nz u < 2 ^ 24 ∧ Gr (nestedF (slopeF (rootsL (ls.map nc) ls.length)) ((ls.map nc).getD i (0, 0))) u.1 u.2 (3 * (ls.length - 1)) := by
    generalize slopeF (rootsL (ls.map nc) ls.length) = S at *
    obtain ⟨n, hn⟩ : ∃ n, ls.length = n + 1 := ⟨ls.length - 1, by omega⟩
    have hF : ∀ k, k ≤ n → Gr (S.getD k (0, 0)) (((k + 1 : Nat) : Int) * (cz X (n + 1) (k + 1)).1) (((k + 1 : Nat) : Int) * (cz X (n + 1) (k + 1)).2) (3 * (n - k)) := by
      intro k hk
      have := S4 k (by omega)
      unfold TK at this
      rw [hn, show n + 1 - (k + 1) = n - k by omega] at this
      exact this
    have hc : ∀ k, k ≤ n → nz (((k + 1 : Nat) : Int) * (cz X (n + 1) (k + 1)).1, ((k + 1 : Nat) : Int) * (cz X (n + 1) (k + 1)).2) ≤ (k + 1) * bz (n + 1) (k + 1) := by
      intro k hk
      have := cz_bd X h.b (n + 1) (k + 1)
      unfold nz at this ⊢
      simp only [Int.natAbs_mul, Int.natAbs_natCast]
      rw [← Nat.mul_add]
      exact Nat.mul_le_mul_left _ this
    have hb' : ∀ j, j ≤ n → gb (fun k => (k + 1) * bz (n + 1) (k + 1)) n j * 24 < 2 ^ 24 := fun j hj => slope_tab n (by omega) j (by omega) hj
    have R := gz_exact (w := fun k => (((k + 1 : Nat) : Int) * (cz X (n + 1) (k + 1)).1, ((k + 1 : Nat) : Int) * (cz X (n + 1) (k + 1)).2)) (c := fun k => (k + 1) * bz (n + 1) (k + 1)) (by omega) hF hc hb' hz hb n 0 (by omega) (S.getD n (0, 0)) (by have := hF n (Nat.le_refl _); rwa [Nat.sub_self] at this)
    unfold safeN nestedF
    rw [S3, hn, show n + 1 - 1 = n by omega]
    refine ⟨R.1, _, ?_, R.2⟩
    have := gz_bd (w := fun k => (((k + 1 : Nat) : Int) * (cz X (n + 1) (k + 1)).1, ((k + 1 : Nat) : Int) * (cz X (n + 1) (k + 1)).2)) (c := fun k => (k + 1) * bz (n + 1) (k + 1)) hc hb n
    have h5 := hb' n (Nat.le_refl _)
    omega
  obtain ⟨sv, u, hu, su⟩ := SV
  have ps : polyAtF (slopeF (rootsL (ls.map nc) ls.length)) ((ls.map nc).getD i (0, 0)) = (nestedF (slopeF (rootsL (ls.map nc) ls.length)) ((ls.map nc).getD i (0, 0)), true) := by
    unfold polyAtF finiteX
    rw [if_pos ⟨S2, finG hz⟩, if_pos (finG su)]
  have q : quoFit (nestedF (rootsL (ls.map nc) ls.length) ((ls.map nc).getD i (0, 0))) (nestedF (slopeF (rootsL (ls.map nc) ls.length)) ((ls.map nc).getD i (0, 0))) := by
    have e := gr_norm (n := nz u) su (by unfold nz; omega)
    have v0 : cv (nestedF (rootsL (ls.map nc) ls.length) ((ls.map nc).getD i (0, 0))) = zero2 := g.2.trans (q2e (by show ((0 : Int) : Rat) * _ = 0; rw [show ((0 : Int) : Rat) = 0 from rfl]; grind) (by show ((0 : Int) : Rat) * _ = 0; rw [show ((0 : Int) : Rat) = 0 from rfl]; grind))
    have nv : N (cv (nestedF (rootsL (ls.map nc) ls.length) ((ls.map nc).getD i (0, 0)))) < p2 126 := by rw [v0, N_zero2]; exact p2_pos _
    by_cases h0 : nz u = 0
    · rw [h0] at e
      exact (quoC_zero g.1 su.1 (by rw [e, show ((0 : Nat) : Rat) = 0 from rfl]; grind) nv).1
    · refine (quoC_near (q := zero2) g.1 su.1 ?_ nv ?_ ?_ (by rw [N_zero2]; exact p2_pos _)).1
      · rw [v0]
        exact q2e (by simp [zero2]; try grind) (by simp [zero2]; try grind)
      · rw [e]
        have h1 : p2 (-((3 * (ls.length - 1) : Nat) : Int)) ≤ 1 := p2_small (by omega)
        have h2 : ((nz u : Nat) : Rat) ≤ ((2 ^ 24 : Nat) : Rat) := by exact_mod_cast Nat.le_of_lt hu
        have h3 := mul_le h2 h1 (Rat.le_of_lt (p2_pos _)) (by decide +kernel)
        have h4 : ((2 ^ 24 : Nat) : Rat) * 1 < p2 100 := by decide +kernel
        grind
      · rw [e]
        have h1 : p2 (-40) ≤ p2 (-((3 * (ls.length - 1) : Nat) : Int)) := p2_mono (by omega)
        have h2 : ((1 : Nat) : Rat) ≤ ((nz u : Nat) : Rat) := by exact_mod_cast Nat.pos_of_ne_zero h0
        have h3 := Rat.mul_le_mul_of_nonneg_right h2 (Rat.le_of_lt (p2_pos (-((3 * (ls.length - 1) : Nat) : Int))))
        rw [show ((1 : Nat) : Rat) = 1 from rfl] at h3
        grind
  have st : stepF (rootsL (ls.map nc) ls.length) ((ls.map nc).getD i (0, 0)) = ((ls.map nc).getD i (0, 0), true) := by
    unfold stepF
    rw [hr, finG hz, p1]
    dsimp only
    rw [if_pos (by rfl), if_pos rfl, if_pos zv]
  refine ⟨⟨⟨s1, ?_, ?_⟩, fun _ => trivial⟩, ?_⟩
  · rw [S1]; exact sv
  · rw [S1, p1, ps]; exact q
  · unfold polishF
    rw [st]
    rfl
end
end Go.Proofs.YtfnhddaofllniaaGreat

/- Moduli of complex numbers of rational parts: sums, products, quotients by 1 + w. Conditions: none. -/
namespace Go.Proofs.YtfnhddaofllniaaGreat
open Go
set_option linter.unusedSimpArgs false
set_option linter.unusedVariables false

/-- The modulus is at most r. -/
def Ab (z : Q2) (r : Rat) : Prop := 0 ≤ r ∧ sqN z ≤ r * r
theorem Ab.mono {z : Q2} {r s : Rat} (h : Ab z r) (hrs : r ≤ s) : Ab z s := ⟨by have := h.1; grind, Rat.le_trans h.2 (mul_le hrs hrs h.1 (by have := h.1; grind))⟩
theorem Ab.of_N {z : Q2} {r : Rat} (h : N z ≤ r) : Ab z r := ⟨Rat.le_trans (N_nonneg z) h, Rat.le_trans (sqN_le z) (mul_le h h (N_nonneg z) (Rat.le_trans (N_nonneg z) h))⟩
theorem Ab.N {z : Q2} {r : Rat} (h : Ab z r) : N z ≤ 3 / 2 * r := by
  have a := sqN_ge z
  have b := h.2
  have c := Rat.mul_nonneg h.1 h.1
  refine sq_le_sq (by have := h.1; grind) ?_
  grind
theorem Ab.mul {x y : Q2} {r s : Rat} (hx : Ab x r) (hy : Ab y s) : Ab (x * y) (r * s) := by
  refine ⟨Rat.mul_nonneg hx.1 hy.1, ?_⟩
  rw [sqN_mul]
  have := mul_le hx.2 hy.2 (sqN_nonneg y) (Rat.mul_nonneg hx.1 hx.1)
  grind
theorem Ab.add {x y : Q2} {r s : Rat} (hx : Ab x r) (hy : Ab y s) : Ab (x + y) (r + s) := by
  have hr := hx.1
  have hs := hy.1
  refine ⟨by grind, ?_⟩
  have e : (x.re * y.re + x.im * y.im) * (x.re * y.re + x.im * y.im) + (x.re * y.im - x.im * y.re) * (x.re * y.im - x.im * y.re) = sqN x * sqN y := by unfold sqN; grind
  have q := sq_nonneg (x.re * y.im - x.im * y.re)
  have m := mul_le hx.2 hy.2 (sqN_nonneg y) (Rat.mul_nonneg hr hr)
  have rs := Rat.mul_nonneg hr hs
  have i : x.re * y.re + x.im * y.im ≤ r * s := sq_le_sq rs (by grind)
  have f : sqN (x + y) = sqN x + sqN y + 2 * (x.re * y.re + x.im * y.im) := by unfold sqN; simp; grind
  have a := hx.2
  have b := hy.2
  rw [f]
  grind
theorem Ab.neg {x : Q2} {r : Rat} (hx : Ab x r) : Ab (-x) r := ⟨hx.1, by have := hx.2; unfold sqN at *; simp; grind⟩
theorem Ab.sub {x y : Q2} {r s : Rat} (hx : Ab x r) (hy : Ab y s) : Ab (x - y) (r + s) := by
  have := hx.add hy.neg
  rwa [show x + -y = x - y from q2e (by simp; grind) (by simp; grind)] at this
theorem Ab.sc {x : Q2} {r k : Rat} (hx : Ab x r) (hk : 0 ≤ k) : Ab (sc k x) (k * r) := by
  refine ⟨Rat.mul_nonneg hk hx.1, ?_⟩
  have e : sqN (Go.Proofs.YtfnhddaofllniaaGreat.sc k x) = k * k * sqN x := by unfold sqN; simp; grind
  rw [e]
  have := Rat.mul_le_mul_of_nonneg_left hx.2 (Rat.mul_nonneg hk hk)
  grind
theorem Ab.zero : Ab zero2 0 := ⟨by decide +kernel, by decide +kernel⟩
/-- 1 + w is at least 1 - W. -/
theorem one_add_ge {w : Q2} {W : Rat} (hw : Ab w W) (h1 : W ≤ 1) : (1 - W) * (1 - W) ≤ sqN (one2 + w) := by
  have a := sq_nonneg w.im
  have e : sqN (one2 + w) = (1 + w.re) * (1 + w.re) + w.im * w.im := by unfold sqN; simp [one2]; grind
  have b : w.re * w.re ≤ W * W := by have := hw.2; unfold sqN at this; grind
  have c : -W ≤ w.re := by
    have := sq_le_sq (a := -w.re) hw.1 (by grind)
    grind
  rw [e]
  have d := mul_le (a := 1 - W) (b := 1 + w.re) (c := 1 - W) (d := 1 + w.re) (by grind) (by grind) (by grind) (by grind)
  grind
/-- A quotient by 1 + w. -/
theorem Ab.div {k w v : Q2} {W r t : Rat} (h : k * (one2 + w) = v) (hw : Ab w W) (h1 : W < 1) (hv : Ab v r) (ht : r ≤ t * (1 - W)) (h0 : 0 ≤ t) : Ab k t := by
  refine ⟨h0, ?_⟩
  have a := one_add_ge hw (Rat.le_of_lt h1)
  have b : sqN k * sqN (one2 + w) ≤ r * r := by rw [← sqN_mul, h]; exact hv.2
  have c := Rat.mul_le_mul_of_nonneg_left a (sqN_nonneg k)
  have d := mul_le ht ht hv.1 (Rat.mul_nonneg h0 (by grind))
  have p : 0 < (1 - W) * (1 - W) := Rat.mul_pos (by grind) (by grind)
  refine lcancel_le p ?_
  grind
/-- The modulus is at least r. -/
def Lb (z : Q2) (r : Rat) : Prop := 0 ≤ r ∧ r * r ≤ sqN z
theorem Lb.mul {x y : Q2} {r s : Rat} (hx : Lb x r) (hy : Lb y s) : Lb (x * y) (r * s) := by
  refine ⟨Rat.mul_nonneg hx.1 hy.1, ?_⟩
  rw [sqN_mul]
  have := mul_le hx.2 hy.2 (Rat.mul_nonneg hy.1 hy.1) (sqN_nonneg x)
  grind
theorem Lb.mono {z : Q2} {r s : Rat} (h : Lb z r) (h0 : 0 ≤ s) (hrs : s ≤ r) : Lb z s := ⟨h0, Rat.le_trans (mul_le hrs hrs h0 h.1) h.2⟩
theorem Lb.of_re {z : Q2} {r : Rat} (h0 : 0 ≤ r) (h : r ≤ A z.re) : Lb z r := by
  refine ⟨h0, ?_⟩
  have a := mul_le h h h0 (A_nonneg z.re)
  have b := sq_nonneg z.im
  rw [← sq_A] at a
  unfold sqN
  grind
theorem Lb.N {z : Q2} {r : Rat} (h : Lb z r) : r ≤ N z := sq_le_sq (N_nonneg z) (Rat.le_trans h.2 (sqN_le z))
end Go.Proofs.YtfnhddaofllniaaGreat

/- Newton's step for a polynomial near one of its simple roots, a constant added: what is left behind a step. Conditions: none. -/
namespace Go.Proofs.YtfnhddaofllniaaGreat
open Go
set_option linter.unusedSimpArgs false
set_option linter.unusedVariables false

/-- The value, scaled. -/
def lV (C E F D h : Q2) : Q2 := D + C * (D * D) + E * (D * (D * D)) + F * (D * D * (D * D)) + h
/-- The slope, scaled, less 1. -/
def lW (C E F D : Q2) : Q2 := sc 2 (C * D) + sc 3 (E * (D * D)) + sc 4 (F * (D * (D * D)))
/-- The second order's part. -/
def lR (C E F D k : Q2) : Q2 := (C + sc 3 (E * D) + sc 6 (F * (D * D))) * (k * k) - (E + sc 4 (F * D)) * (k * (k * k)) + F * (k * k * (k * k))
theorem lR_C (C D k : Q2) : C * ((D - k) * (D - k)) = C * (D * D) - k * sc 2 (C * D) + C * (k * k) := q2e (by simp; grind) (by simp; grind)
theorem lR_E (E D k : Q2) : E * ((D - k) * ((D - k) * (D - k))) = E * (D * (D * D)) - k * sc 3 (E * (D * D)) + (sc 3 (E * D) * (k * k) - E * (k * (k * k))) := q2e (by simp; grind) (by simp; grind)
theorem lR_F1 (D k : Q2) : (D - k) * (D - k) * ((D - k) * (D - k)) = D * D * (D * D) - k * sc 4 (D * (D * D)) + (sc 6 (D * D) * (k * k) - sc 4 D * (k * (k * k)) + k * k * (k * k)) := q2e (by simp; grind) (by simp; grind)
theorem lR_F (F D k : Q2) : F * ((D - k) * (D - k) * ((D - k) * (D - k))) = F * (D * D * (D * D)) - k * sc 4 (F * (D * (D * D))) + (sc 6 (F * (D * D)) * (k * k) - sc 4 (F * D) * (k * (k * k)) + F * (k * k * (k * k))) := by
  rw [lR_F1]
  generalize D * (D * D) = x
  generalize D * D * (D * D) = y
  generalize k * (k * k) = u
  generalize k * k * (k * k) = v
  generalize k * k = s
  generalize D * D = t
  exact q2e (by simp; grind) (by simp; grind)
/-- Newton's step. -/
theorem newt {C E F D h k e : Q2} (H : k * (one2 + lW C E F D) = lV C E F D h + e) : lV C E F (D - k) h = lR C E F D k - e := by
  have e1 : lV C E F (D - k) h = lV C E F D h - k * (one2 + lW C E F D) + lR C E F D k := by
    unfold lV
    rw [lR_C, lR_E, lR_F]
    unfold lW lR
    have d1 : (C + sc 3 (E * D) + sc 6 (F * (D * D))) * (k * k) = C * (k * k) + sc 3 (E * D) * (k * k) + sc 6 (F * (D * D)) * (k * k) := q2e (by simp; grind) (by simp; grind)
    have d2 : (E + sc 4 (F * D)) * (k * (k * k)) = E * (k * (k * k)) + sc 4 (F * D) * (k * (k * k)) := q2e (by simp; grind) (by simp; grind)
    have d3 : k * (one2 + (sc 2 (C * D) + sc 3 (E * (D * D)) + sc 4 (F * (D * (D * D))))) = k + k * sc 2 (C * D) + k * sc 3 (E * (D * D)) + k * sc 4 (F * (D * (D * D))) := by
      generalize sc 2 (C * D) = w1
      generalize sc 3 (E * (D * D)) = w2
      generalize sc 4 (F * (D * (D * D))) = w3
      exact q2e (by simp [one2]; grind) (by simp [one2]; grind)
    rw [d1, d2, d3]
    generalize C * (D * D) = c2
    generalize E * (D * (D * D)) = e3
    generalize F * (D * D * (D * D)) = f4
    generalize k * sc 2 (C * D) = w1
    generalize k * sc 3 (E * (D * D)) = w2
    generalize k * sc 4 (F * (D * (D * D))) = w3
    generalize C * (k * k) = a1
    generalize sc 3 (E * D) * (k * k) = a2
    generalize sc 6 (F * (D * D)) * (k * k) = a3
    generalize E * (k * (k * k)) = a4
    generalize sc 4 (F * D) * (k * (k * k)) = a5
    generalize F * (k * k * (k * k)) = a6
    exact q2e (by simp; grind) (by simp; grind)
  rw [e1, H]
  generalize lV C E F D h = x
  generalize lR C E F D k = y
  exact q2e (by simp; grind) (by simp; grind)
section
variable {C E F D h k e : Q2} {c f g d r t ep den : Rat}
theorem lW_ab (hC : Ab C c) (hE : Ab E f) (hF : Ab F g) (hD : Ab D d) : Ab (lW C E F D) (2 * (c * d) + 3 * (f * (d * d)) + 4 * (g * (d * (d * d)))) :=
  ((((hC.mul hD).sc (by decide +kernel)).add ((hE.mul (hD.mul hD)).sc (by decide +kernel))).add ((hF.mul (hD.mul (hD.mul hD))).sc (by decide +kernel)))
theorem lR_ab (hC : Ab C c) (hE : Ab E f) (hF : Ab F g) (hD : Ab D d) (hk : Ab k t) : Ab (lR C E F D k) ((c + 3 * (f * d) + 6 * (g * (d * d))) * (t * t) + (f + 4 * (g * d)) * (t * (t * t)) + g * (t * t * (t * t))) :=
  ((((hC.add ((hE.mul hD).sc (by decide +kernel))).add ((hF.mul (hD.mul hD)).sc (by decide +kernel))).mul (hk.mul hk)).sub ((hE.add ((hF.mul hD).sc (by decide +kernel))).mul (hk.mul (hk.mul hk)))).add (hF.mul ((hk.mul hk).mul (hk.mul hk)))
/-- One step of the bounds. -/
theorem newt_ab (H : k * (one2 + lW C E F D) = lV C E F D h + e) (hC : Ab C c) (hE : Ab E f) (hF : Ab F g) (hD : Ab D d) (hV : Ab (lV C E F D h) r) (he : Ab e ep)
    (h1 : den ≤ 1 - (2 * (c * d) + 3 * (f * (d * d)) + 4 * (g * (d * (d * d))))) (h2 : 0 < den) (h3 : r + ep ≤ t * den) (ht : 0 ≤ t) :
    Ab k t ∧ Ab (D - k) (d + t) ∧ Ab (lV C E F (D - k) h) ((c + 3 * (f * d) + 6 * (g * (d * d))) * (t * t) + (f + 4 * (g * d)) * (t * (t * t)) + g * (t * t * (t * t)) + ep) := by
  have w := lW_ab hC hE hF hD
  have hk : Ab k t := Ab.div H w (by grind) (hV.add he) (Rat.le_trans h3 (Rat.mul_le_mul_of_nonneg_left h1 ht)) ht
  refine ⟨hk, hD.sub hk, ?_⟩
  rw [newt H]
  exact (lR_ab hC hE hF hD hk).sub he
end
end Go.Proofs.YtfnhddaofllniaaGreat

/- Values by Horner's rule at points of norm at most 25 / 8, with their errors as numbers. Conditions: the terms' norms are bounded. -/
namespace Go.Proofs.YtfnhddaofllniaaGreat
open Go
set_option linter.unusedSimpArgs false
set_option linter.unusedVariables false

section
variable {z : C2}
theorem chU1 (hz : fC z) (hr : N (cv z) ≤ 25 / 8) {c0 c1 : C2} (h1 : fC c1) (b1 : N (cv c1) ≤ 1) (h0 : fC c0) (b0 : N (cv c0) ≤ 9) :
    safeN [c0, c1] z ∧ Hs (nestedF [c0, c1] z) (v1 (cv c0) (cv c1) (cv z)) (61 / 4 : Rat) (97 / 8 : Rat) (p2 (-146)) Ua := by
  have z0 := hs_zero h1 rfl b1
  obtain ⟨s1, hh⟩ := hs_step z0 hz h0 hr b0 Ua_ok ⟨by decide, by decide +kernel⟩ (by decide +kernel) (by decide +kernel) (by decide +kernel)
  exact ⟨⟨s1, trivial⟩, hh.mono rfl (by decide +kernel) (by decide +kernel) (by decide +kernel)⟩
theorem chU2 (hz : fC z) (hr : N (cv z) ≤ 25 / 8) {c0 c1 c2 : C2} (h2 : fC c2) (b2 : N (cv c2) ≤ 1) (h1 : fC c1) (b1 : N (cv c1) ≤ 9) (h0 : fC c0) (b0 : N (cv c0) ≤ 30) :
    safeN [c0, c1, c2] z ∧ Hs (nestedF [c0, c1, c2] z) (v2 (cv c0) (cv c1) (cv c2) (cv z)) (2455 / 16 : Rat) (4345 / 64 : Rat) (p2 (-143)) Ub := by
  obtain ⟨sp, hp⟩ := chU1 hz hr h2 b2 h1 b1
  obtain ⟨s1, hh⟩ := hs_step hp hz h0 hr b0 Ub_ok ⟨Ua_ok.2.2.1, Ua_ok.2.2.2⟩ (by decide +kernel) (by decide +kernel) (by decide +kernel)
  obtain ⟨a1, _⟩ := sp
  exact ⟨⟨a1, s1, trivial⟩, hh.mono rfl (by decide +kernel) (by decide +kernel) (by decide +kernel)⟩
theorem chU3 (hz : fC z) (hr : N (cv z) ≤ 25 / 8) {c0 c1 c2 c3 : C2} (h3 : fC c3) (b3 : N (cv c3) ≤ 1) (h2 : fC c2) (b2 : N (cv c2) ≤ 9) (h1 : fC c1) (b1 : N (cv c1) ≤ 30) (h0 : fC c0) (b0 : N (cv c0) ≤ 43) :
    safeN [c0, c1, c2, c3] z ∧ Hs (nestedF [c0, c1, c2, c3] z) (v3 (cv c0) (cv c1) (cv c2) (cv c3) (cv z)) (242383 / 256 : Rat) (130641 / 512 : Rat) (p2 (-140)) Uc := by
  obtain ⟨sp, hp⟩ := chU2 hz hr h3 b3 h2 b2 h1 b1
  obtain ⟨s1, hh⟩ := hs_step hp hz h0 hr b0 Uc_ok ⟨Ub_ok.2.2.1, Ub_ok.2.2.2⟩ (by decide +kernel) (by decide +kernel) (by decide +kernel)
  obtain ⟨a1, a2, _⟩ := sp
  exact ⟨⟨a1, a2, s1, trivial⟩, hh.mono rfl (by decide +kernel) (by decide +kernel) (by decide +kernel)⟩
theorem chU4 (hz : fC z) (hr : N (cv z) ≤ 25 / 8) {c0 c1 c2 c3 c4 : C2} (h4 : fC c4) (b4 : N (cv c4) ≤ 1) (h3 : fC c3) (b3 : N (cv c3) ≤ 9) (h2 : fC c2) (b2 : N (cv c2) ≤ 30) (h1 : fC c1) (b1 : N (cv c1) ≤ 43) (h0 : fC c0) (b0 : N (cv c0) ≤ 24) :
    safeN [c0, c1, c2, c3, c4] z ∧ Hs (nestedF [c0, c1, c2, c3, c4] z) (v4 (cv c0) (cv c1) (cv c2) (cv c3) (cv c4) (cv z)) (292961 / 64 : Rat) (3364329 / 4096 : Rat) (p2 (-137)) Ud := by
  obtain ⟨sp, hp⟩ := chU3 hz hr h4 b4 h3 b3 h2 b2 h1 b1
  obtain ⟨s1, hh⟩ := hs_step hp hz h0 hr b0 Ud_ok ⟨Uc_ok.2.2.1, Uc_ok.2.2.2⟩ (by decide +kernel) (by decide +kernel) (by decide +kernel)
  obtain ⟨a1, a2, a3, _⟩ := sp
  exact ⟨⟨a1, a2, a3, s1, trivial⟩, hh.mono rfl (by decide +kernel) (by decide +kernel) (by decide +kernel)⟩
theorem chX1 (hz : fC z) (hr : N (cv z) ≤ 25 / 8) {c0 c1 : C2} (h1 : fC c1) (b1 : N (cv c1) ≤ 4) (h0 : fC c0) (b0 : N (cv c0) ≤ 27) :
    safeN [c0, c1] z ∧ Hs (nestedF [c0, c1] z) (v1 (cv c0) (cv c1) (cv z)) (52 : Rat) (79 / 2 : Rat) (p2 (-146)) Ua := by
  have z0 := hs_zero h1 rfl b1
  obtain ⟨s1, hh⟩ := hs_step z0 hz h0 hr b0 Ua_ok ⟨by decide, by decide +kernel⟩ (by decide +kernel) (by decide +kernel) (by decide +kernel)
  exact ⟨⟨s1, trivial⟩, hh.mono rfl (by decide +kernel) (by decide +kernel) (by decide +kernel)⟩
theorem chX2 (hz : fC z) (hr : N (cv z) ≤ 25 / 8) {c0 c1 c2 : C2} (h2 : fC c2) (b2 : N (cv c2) ≤ 4) (h1 : fC c1) (b1 : N (cv c1) ≤ 27) (h0 : fC c0) (b0 : N (cv c0) ≤ 60) :
    safeN [c0, c1, c2] z ∧ Hs (nestedF [c0, c1, c2] z) (v2 (cv c0) (cv c1) (cv c2) (cv z)) (3755 / 8 : Rat) (2935 / 16 : Rat) (p2 (-143)) Ub := by
  obtain ⟨sp, hp⟩ := chX1 hz hr h2 b2 h1 b1
  obtain ⟨s1, hh⟩ := hs_step hp hz h0 hr b0 Ub_ok ⟨Ua_ok.2.2.1, Ua_ok.2.2.2⟩ (by decide +kernel) (by decide +kernel) (by decide +kernel)
  obtain ⟨a1, _⟩ := sp
  exact ⟨⟨a1, s1, trivial⟩, hh.mono rfl (by decide +kernel) (by decide +kernel) (by decide +kernel)⟩
theorem chX3 (hz : fC z) (hr : N (cv z) ≤ 25 / 8) {c0 c1 c2 c3 : C2} (h3 : fC c3) (b3 : N (cv c3) ≤ 4) (h2 : fC c2) (b2 : N (cv c2) ≤ 27) (h1 : fC c1) (b1 : N (cv c1) ≤ 60) (h0 : fC c0) (b0 : N (cv c0) ≤ 43) :
    safeN [c0, c1, c2, c3] z ∧ Hs (nestedF [c0, c1, c2, c3] z) (v3 (cv c0) (cv c1) (cv c2) (cv c3) (cv z)) (85001 / 32 : Rat) (78879 / 128 : Rat) (p2 (-140)) Uc := by
  obtain ⟨sp, hp⟩ := chX2 hz hr h3 b3 h2 b2 h1 b1
  obtain ⟨s1, hh⟩ := hs_step hp hz h0 hr b0 Uc_ok ⟨Ub_ok.2.2.1, Ub_ok.2.2.2⟩ (by decide +kernel) (by decide +kernel) (by decide +kernel)
  obtain ⟨a1, a2, _⟩ := sp
  exact ⟨⟨a1, a2, s1, trivial⟩, hh.mono rfl (by decide +kernel) (by decide +kernel) (by decide +kernel)⟩
end
end Go.Proofs.YtfnhddaofllniaaGreat
