/- How much a polynomial misses 0 at a number, of the program and of the reference. Conditions: a polynomial with roots whose value is told; lengths fit float32. -/
import Derived.Test.YtdnoilcfgicnnaaGreatY7
import Derived.Test.YtdnoilcfgicnnaaGreatY14
import Derived.Test.YtdnoilcfgicnnaaGreatY17
namespace Go.Proofs.YtdnoilcfgicnnaaGreat
set_option linter.unusedSimpArgs false
set_option linter.unusedVariables false
open Go Go.RowKit

def RetFB (F : Nat × Bool) (w : World) (e : Ending) (w' : World) : Prop := ∃ a, e = .returned (.tuple #[.float .f32 a, .bool F.2]) ∧ nrm .f32 a = F.1 ∧ Below w.heap.size w w'
def powL (p l : Nat) : Nat → Nat | 0 => p | k + 1 => fop .mul .f32 (powL p l k) l
def missS (F : List C2) (z : C2) : Nat → Nat | 0 => nrm .f32 0 | k + 1 => fop .add .f32 (missS F z k) (powL (longF (F.getD k (0, 0))) (longF z) k)
def aboveF (x : Nat) : Bool := finF x && fcmp .gtr .f32 x (nrm .f32 0)
def finiteN (x : Nat) : Nat × Bool := if finF x = true then (x, true) else (0, false)
def missG (l s : Nat) : Nat × Bool := if aboveF s = true then finiteN (fop .quo .f32 l s) else (0, false)

theorem leq_gtr {x : Nat} (h : finF x = true) : fcmp .leq .f32 x (nrm .f32 0) = !fcmp .gtr .f32 x (nrm .f32 0) := by
  rw [finF] at h
  unfold fcmp at h ⊢
  have key : ∃ o, Ieee.Format.order FloatKind.f32.format x (nrm .f32 0) = some o := by
    rw [nrm0] at *
    unfold Ieee.Format.order at *
    have h0 : FloatKind.f32.format.read 0 = .number false 0 (-149) := by decide +kernel
    rw [h0] at *
    cases hd : FloatKind.f32.format.read x with
    | number s m e => exact ⟨_, rfl⟩
    | infinity s => cases s <;> exact ⟨_, rfl⟩
    | nan s f =>
      exfalso
      have hf : fop .sub .f32 x x = qnan .f32 := by
        unfold fop floatBits Ieee.Format.sub
        dsimp only
        rw [hd]
        show _ = _
        have : ∀ b, (Ieee.Datum.nan s f).sum b = none := fun b => by cases b <;> rfl
        rw [this]
        decide +kernel
      rw [hf] at h
      revert h
      decide +kernel
  obtain ⟨o, ho⟩ := key
  rw [ho]
  cases o <;> rfl

set_option maxRecDepth 100000 in
theorem checked_impl (x : Nat) (w : World) : Calls Tryz.prog 57 #[.float .f32 x] w (RetFB (finiteN (nrm .f32 x)) w) := by
  have n0 := nrm0
  cases hf : finF (nrm .f32 x)
  · have H := Lib.hid (show finiteN (nrm .f32 x) = (0, false) by simp [finiteN, hf])
    rw [H.out]
    go_enter Tryz.func57, Tryz.ntmps57
    go_wp2_with (go_at_call 56; go_must (refine (isFinite_impl x _).mono ?_); rintro e w' ⟨m, rfl, rfl⟩)
    go_ret2
    exact ⟨_, rfl, n0, below_drewN (Below.refl _ _) _⟩
  · have H := Lib.hid (show finiteN (nrm .f32 x) = (nrm .f32 x, true) by simp [finiteN, hf])
    rw [H.out]
    go_enter Tryz.func57, Tryz.ntmps57
    go_wp2_with (go_at_call 56; go_must (refine (isFinite_impl x _).mono ?_); rintro e w' ⟨m, rfl, rfl⟩)
    go_ret2
    exact ⟨_, rfl, rfl, below_drewN (Below.refl _ _) _⟩
set_option maxRecDepth 100000 in
theorem number1_spec (x : Nat) (w : World) : Calls Tryz.prog 64 #[.float .f32 x] w (RetFB (finiteN (nrm .f32 x)) w) := by
  have n0 := nrm0
  cases hf : finF (nrm .f32 x)
  · have H := Lib.hid (show finiteN (nrm .f32 x) = (0, false) by simp [finiteN, hf])
    rw [H.out]
    go_enter Tryz.func64, Tryz.ntmps64
    go_wp2_with (go_at_call 92; go_must (refine (isFinite_spec x _).mono ?_); rintro e w' ⟨m, rfl, rfl⟩)
    go_ret2
    exact ⟨_, rfl, n0, below_drewN (Below.refl _ _) _⟩
  · have H := Lib.hid (show finiteN (nrm .f32 x) = (nrm .f32 x, true) by simp [finiteN, hf])
    rw [H.out]
    go_enter Tryz.func64, Tryz.ntmps64
    go_wp2_with (go_at_call 92; go_must (refine (isFinite_spec x _).mono ?_); rintro e w' ⟨m, rfl, rfl⟩)
    go_ret2
    exact ⟨_, rfl, rfl, below_drewN (Below.refl _ _) _⟩
set_option maxRecDepth 100000 in
theorem above_spec (x : Nat) (w : World) : Calls Tryz.prog 63 #[.float .f32 x] w (RetB (aboveF (nrm .f32 x)) w) := by
  cases hf : finF (nrm .f32 x)
  · have H := Lib.hid (show aboveF (nrm .f32 x) = false by simp [aboveF, hf])
    rw [H.out]
    go_enter Tryz.func63, Tryz.ntmps63
    go_wp2_with (go_at_call 92; go_must (refine (isFinite_spec x _).mono ?_); rintro e w' ⟨m, rfl, rfl⟩)
    go_ret
    exact ⟨_, rfl, rfl⟩
  · have H := Lib.hid (show aboveF (nrm .f32 x) = fcmp .gtr .f32 (nrm .f32 x) (nrm .f32 0) by simp [aboveF, hf])
    rw [H.out]
    go_enter Tryz.func63, Tryz.ntmps63
    go_wp2_with (first | (go_at_call 92; go_must (refine (isFinite_spec x _).mono ?_); rintro e w' ⟨m, rfl, rfl⟩))
    go_ret
    exact ⟨_, rfl, rfl⟩

/-- What the misses need. -/
structure MsOk (F : List C2) (z : C2) (V : C2) : Prop where
  r : rootedF F = true
  s : safeN F z
  v : polyAtF F z = (V, true)
  f : ∀ k, k < F.length → fit1 (sqF (powerF (F.getD k (0, 0))))
  z : fit1 (sqF (powerF z))
  w : fit1 (sqF (powerF V))
end Go.Proofs.YtdnoilcfgicnnaaGreat

/- The points 1/64 beside the drawn roots, the slope's value at a root, and what is 0 there. Conditions: up to four drawn roots. -/
namespace Go.Proofs.YtdnoilcfgicnnaaGreat
open Go
set_option linter.unusedSimpArgs false
set_option linter.unusedVariables false

def dw : C2 := (1015021568, 0)
theorem dw_gr : Gr dw 1 0 6 := by
  have hd : FloatKind.f32.decode 1015021568 = .number false 8388608 (-29) := by decide +kernel
  refine ⟨⟨by show fN .f32 1015021568 = true; unfold fN; rw [hd]; rfl, fC0.1.2⟩, q2e ?_ ?_⟩
  · show vN .f32 1015021568 = _; unfold vN; rw [hd]; decide +kernel
  · have := congrArg Q2.im (Gr.zero 6).2
    exact this
theorem near_gr {rt : C2} {u : Int × Int} (h : Gr rt u.1 u.2 3) (hu : nz u ≤ 24) : Gr (addC rt dw) (8 * u.1 + 1) (8 * u.2) 6 := by
  have a := h.lift 3
  have hn : nz (u.1 * 2 ^ 3, u.2 * 2 ^ 3) ≤ 192 := by
    unfold nz at *
    simp only [Int.natAbs_mul]
    show u.1.natAbs * 8 + u.2.natAbs * 8 ≤ 192
    omega
  have b := Gr.addB (u := (u.1 * 2 ^ 3, u.2 * 2 ^ 3)) (v := (1, 0)) a dw_gr (by show nz (u.1 * 2 ^ 3, u.2 * 2 ^ 3) + 1 < _; omega) (by decide)
  exact b.cast (by show u.1 * 2 ^ 3 + 1 = _; omega) (by show u.2 * 2 ^ 3 + 0 = _; omega)
section
variable {ls : List C2} {X : Nat → Int × Int}
theorem DX.near (h : DX ls X) {i : Nat} (hi : i < ls.length) : fC (addC ((ls.map nc).getD i (0, 0)) dw) ∧ cv (addC ((ls.map nc).getD i (0, 0)) dw) = zq X i ∧ N (cv (addC ((ls.map nc).getD i (0, 0)) dw)) ≤ 193 / 64 ∧
    cv (addC ((ls.map nc).getD i (0, 0)) dw) = cv ((ls.map nc).getD i (0, 0)) + dl := by
  have g := h.g i hi
  have b := h.b i
  have n := near_gr g b
  refine ⟨n.1, n.2, ?_, ?_⟩
  · refine gr_le n 193 ?_ (by decide +kernel)
    unfold nz at b
    omega
  · rw [n.2, g.2]
    refine q2e ?_ ?_
    · show ((8 * (X i).1 + 1 : Int) : Rat) * p2 (-6) = ((X i).1 : Rat) * p2 (-3) + 1 / 64
      rw [p2m3, p2m6, Rat.intCast_add, Rat.intCast_mul]
      have : ((8 : Int) : Rat) = 8 := rfl
      have e : ((1 : Int) : Rat) = 1 := rfl
      rw [this]; grind
    · show ((8 * (X i).2 : Int) : Rat) * p2 (-6) = ((X i).2 : Rat) * p2 (-3) + 0
      rw [p2m3, p2m6, Rat.intCast_mul]
      have : ((8 : Int) : Rat) = 8 := rfl
      rw [this]; grind
theorem DX.tk (h : DX ls X) (h4 : ls.length ≤ 4) (k : Nat) : TK X ls.length ((rootsL (ls.map nc) ls.length).getD k (0, 0)) 1 k := by
  have := (roots_exact h.b h4 h.g).1 k
  rw [catF_in] at this
  exact this.cast (by simp) (by simp)
theorem list_four {L : List C2} : (L.length = 2 → L = [L.getD 0 (0, 0), L.getD 1 (0, 0)]) ∧ (L.length = 3 → L = [L.getD 0 (0, 0), L.getD 1 (0, 0), L.getD 2 (0, 0)]) ∧
    (L.length = 4 → L = [L.getD 0 (0, 0), L.getD 1 (0, 0), L.getD 2 (0, 0), L.getD 3 (0, 0)]) ∧ (L.length = 5 → L = [L.getD 0 (0, 0), L.getD 1 (0, 0), L.getD 2 (0, 0), L.getD 3 (0, 0), L.getD 4 (0, 0)]) := by
  refine ⟨fun h => ?_, fun h => ?_, fun h => ?_, fun h => ?_⟩
  · match L, h with
    | [a, b], _ => rfl
  · match L, h with
    | [a, b, c], _ => rfl
  · match L, h with
    | [a, b, c, d], _ => rfl
  · match L, h with
    | [a, b, c, d, e], _ => rfl
theorem EV.st {F S S2 : List C2} {z rt : C2} {v s t : Q2} {Ev Es Et : Rat} (E : EV F S S2 z v s t Ev Es Et) (hz : fC z) (hr : fC rt) (nzz : N (cv z) ≤ 193 / 64) (er : cv z = cv rt + dl) {n : Nat}
    (hn : ∀ {v' s' t' : Q2}, N (v' - v) ≤ Ev → N (s' - s) ≤ Es → N (t' - t) ≤ Et → ∃ K P m g th, NN n v' s' t' K P m g th) : ∃ K P m g th, StOk F S S2 z rt n K P m g th := by
  obtain ⟨K, P, m, g, th, H⟩ := hn E.nv.2 E.ns.2 E.nt.2
  exact ⟨K, P, m, g, th, ⟨E.r, E.vF, E.pS, E.vS, E.pT, E.vT, E.lS, E.lT, E.sF, E.sS, E.sT, hz, hr, nzz, er, E.nv.1, E.ns.1, E.nt.1, H⟩⟩
/-- What the three steps from beside a root need. -/
theorem DX.st (h : DX ls X) (h1 : 1 ≤ ls.length) (h4 : ls.length ≤ 4) {i : Nat} (hi : i < ls.length) :
    ∃ S S2 K P m g th, StOk (rootsL (ls.map nc) ls.length) S S2 (addC ((ls.map nc).getD i (0, 0)) dw) ((ls.map nc).getD i (0, 0)) ls.length K P m g th := by
  obtain ⟨f, ez, hr, er⟩ := h.near hi
  have fr := (h.g i hi).1
  have T := fun k => h.tk h4 k
  have hX : ∀ j, j < ls.length → nz (X j) ≤ nb j := fun j hj => nb_ok h h4 hj
  have hl := rootsL_length (ls.map nc) ls.length
  generalize hF : rootsL (ls.map nc) ls.length = F at *
  generalize hn : ls.length = n at *
  obtain rfl | rfl | rfl | rfl : n = 1 ∨ n = 2 ∨ n = 3 ∨ n = 4 := by omega
  · rw [list_four.1 hl]
    obtain ⟨S, S2, E⟩ := ev1 hX f ez hr (T 0) (T 1)
    obtain ⟨K, P, m, g, th, H⟩ := E.st f fr hr er (fun a b c => nn_of h (by omega) (by omega) hn (tab1 i hi) (by decide +kernel) a b c)
    exact ⟨S, S2, K, P, m, g, th, H⟩
  · rw [list_four.2.1 hl]
    obtain ⟨S, S2, E⟩ := ev2 hX f ez hr (T 0) (T 1) (T 2)
    obtain ⟨K, P, m, g, th, H⟩ := E.st f fr hr er (fun a b c => nn_of h (by omega) (by omega) hn (tab2 i hi) (by decide +kernel) a b c)
    exact ⟨S, S2, K, P, m, g, th, H⟩
  · rw [list_four.2.2.1 hl]
    obtain ⟨S, S2, E⟩ := ev3 hX f ez hr (T 0) (T 1) (T 2) (T 3)
    obtain ⟨K, P, m, g, th, H⟩ := E.st f fr hr er (fun a b c => nn_of h (by omega) (by omega) hn (tab3 i hi) (by decide +kernel) a b c)
    exact ⟨S, S2, K, P, m, g, th, H⟩
  · rw [list_four.2.2.2 hl]
    obtain ⟨S, S2, E⟩ := ev4 hX f ez hr (T 0) (T 1) (T 2) (T 3) (T 4)
    obtain ⟨K, P, m, g, th, H⟩ := E.st f fr hr er (fun a b c => nn_of h (by omega) (by omega) hn (tab4 i hi) (by decide +kernel) a b c)
    exact ⟨S, S2, K, P, m, g, th, H⟩
end
end Go.Proofs.YtdnoilcfgicnnaaGreat

/- At the drawn roots: the polynomial is 0, the step of Newton stays, the miss is 0; values at eighths fit. Conditions: up to four drawn roots. -/
namespace Go.Proofs.YtdnoilcfgicnnaaGreat
open Go
set_option linter.unusedSimpArgs false
set_option linter.unusedVariables false

/-- Horner's partial values of any terms. -/
def gz (w : Nat → Int × Int) (n : Nat) (Z : Int × Int) : Nat → Int × Int
  | 0 => w n
  | j + 1 => za (zm (gz w n Z j) Z) (w (n - j - 1))
def gb (c : Nat → Nat) (n : Nat) : Nat → Nat
  | 0 => c n
  | j + 1 => gb c n j * 24 + c (n - j - 1)
section
variable {F : List C2} {w : Nat → Int × Int} {c : Nat → Nat} {n : Nat} {z : C2} {Z : Int × Int}
theorem gz_bd (hc : ∀ k, k ≤ n → nz (w k) ≤ c k) (hZ : nz Z ≤ 24) (j : Nat) : nz (gz w n Z j) ≤ gb c n j := by
  induction j with
  | zero => exact hc n (Nat.le_refl _)
  | succ j ih => exact Nat.le_trans (nz_add _ _) (Nat.add_le_add (Nat.le_trans (nz_mul _ _) (Nat.mul_le_mul ih hZ)) (hc _ (by omega)))
theorem gz_exact (hn : n ≤ 3) (hF : ∀ k, k ≤ n → Gr (F.getD k (0, 0)) (w k).1 (w k).2 (3 * (n - k))) (hc : ∀ k, k ≤ n → nz (w k) ≤ c k) (hb : ∀ j, j ≤ n → gb c n j * 24 < 2 ^ 24) (hz : Gr z Z.1 Z.2 3) (hZ : nz Z ≤ 24) :
    ∀ d j, j + d = n → ∀ v, Gr v (gz w n Z j).1 (gz w n Z j).2 (3 * j) → safeH F z d v ∧ Gr (horner F z d v) (gz w n Z n).1 (gz w n Z n).2 (3 * n) := by
  intro d
  induction d with
  | zero =>
    intro j hj v hv
    obtain rfl : j = n := by omega
    exact ⟨trivial, hv⟩
  | succ d ih =>
    intro j hj v hv
    have b1 := gz_bd hc hZ j
    have b2 := hb j (by omega)
    have b3 := hb (j + 1) (by omega)
    have b4 := Nat.mul_le_mul b1 hZ
    have hd : n - j - 1 = d := by omega
    rw [gb, hd] at b3
    obtain ⟨f, g⟩ := Gr.mulB (u := gz w n Z j) (v := Z) hv hz (by omega) (by omega) (by omega) (by omega)
    have T := hF d (by omega)
    rw [show 3 * (n - d) = 3 * (j + 1) by omega] at T
    have hs := Gr.addB (u := zm (gz w n Z j) Z) (v := w d) (show Gr (mulC v z) _ _ (3 * (j + 1)) from g) T (by
      have := nz_mul (gz w n Z j) Z
      have := hc d (by omega)
      omega) (by omega)
    have he : gz w n Z (j + 1) = za (zm (gz w n Z j) Z) (w d) := by rw [← hd]; rfl
    rw [← he] at hs
    obtain ⟨i1, i2⟩ := ih (j + 1) (by omega) _ hs
    exact ⟨⟨f, i1⟩, i2⟩
end
theorem kf_up : ∀ k, k < 5 → fN .f32 (kf k) = true ∧ vN .f32 (kf k) = (k : Rat) := fun k hk => kf_ok (by omega)
theorem slope_tab : ∀ n, n < 4 → ∀ j, j < 4 → j ≤ n → gb (fun k => (k + 1) * bz (n + 1) (k + 1)) n j * 24 < 2 ^ 24 := by decide +kernel
theorem slope_tab2 : ∀ n, n < 5 → ∀ k, k < 5 → (k + 1) * (1 * bt n (k + 1)) < 2 ^ 24 := by decide +kernel
section
variable {ls : List C2} {X : Nat → Int × Int}
theorem DX.fF (h : DX ls X) (h4 : ls.length ≤ 4) (k : Nat) : fC ((rootsL (ls.map nc) ls.length).getD k (0, 0)) ∧ N (cv ((rootsL (ls.map nc) ls.length).getD k (0, 0))) ≤ p2 40 := by
  have g := (roots_exact h.b h4 h.g).1 k
  rw [catF_in] at g
  refine ⟨g.1, gr_le g (2 ^ 19) ?_ ?_⟩
  · show nz _ ≤ _
    by_cases hk : k < 6
    · exact Nat.le_of_lt (Nat.lt_of_le_of_lt (cz_bd X h.b _ k) (bz_lt _ (by omega) k hk))
    · rw [cz_over X _ k (by omega)]; decide
  · have h1 : p2 (-((3 * (ls.length - k) : Nat) : Int)) ≤ 1 := p2_small (by omega)
    have h2 : ((2 ^ 19 : Nat) : Rat) * p2 (-((3 * (ls.length - k) : Nat) : Int)) ≤ ((2 ^ 19 : Nat) : Rat) * 1 := Rat.mul_le_mul_of_nonneg_left h1 (by decide +kernel)
    exact Rat.le_trans h2 (by decide +kernel)
/-- The value at a point in eighths. -/
theorem DX.value (h : DX ls X) (h1 : 1 ≤ ls.length) (h4 : ls.length ≤ 4) {z : C2} {Z : Int × Int} (hz : Gr z Z.1 Z.2 3) (hZ : nz Z ≤ 24) :
    safeN (rootsL (ls.map nc) ls.length) z ∧ Gr (nestedF (rootsL (ls.map nc) ls.length) z) (ez X ls.length Z ls.length).1 (ez X ls.length Z ls.length).2 (3 * ls.length) ∧
    N (cv (nestedF (rootsL (ls.map nc) ls.length) z)) ≤ p2 40 ∧ polyAtF (rootsL (ls.map nc) ls.length) z = (nestedF (rootsL (ls.map nc) ls.length) z, true) := by
  obtain ⟨a, b⟩ := value_exact h.b h4 h.g hz hZ
  refine ⟨a, b, gr_le b (2 ^ 23) ?_ ?_, ?_⟩
  · exact Nat.le_of_lt (Nat.lt_of_le_of_lt (ez_bd X h.b _ Z hZ _) (eb_lt _ (by omega) _ (by omega) (Nat.le_refl _)))
  · have h1 : p2 (-((3 * ls.length : Nat) : Int)) ≤ 1 := p2_small (by omega)
    have h2 : ((2 ^ 23 : Nat) : Rat) * p2 (-((3 * ls.length : Nat) : Int)) ≤ ((2 ^ 23 : Nat) : Rat) * 1 := Rat.mul_le_mul_of_nonneg_left h1 (by decide +kernel)
    exact Rat.le_trans h2 (by decide +kernel)
  · have hr := (h.poly h1 h4).2.2
    unfold rootedF at hr
    rw [Bool.and_eq_true] at hr
    unfold polyAtF finiteX
    rw [if_pos ⟨hr.1, finG hz⟩, if_pos (finG b)]
theorem gr_small {z : C2} {Z : Int × Int} (hz : Gr z Z.1 Z.2 3) (hZ : nz Z ≤ 24) : N (cv z) ≤ p2 40 := gr_le hz 24 hZ (by decide +kernel)
theorem fit_long {d : C2} (hd : fC d) (hn : N (cv d) ≤ p2 40) : fit1 (sqF (powerF d)) := (longF_le hd hn (p2_mono (by decide)) (Rat.le_refl)).1
/-- The miss at a point in eighths can be reckoned. -/
theorem DX.ms (h : DX ls X) (h1 : 1 ≤ ls.length) (h4 : ls.length ≤ 4) {z : C2} {Z : Int × Int} (hz : Gr z Z.1 Z.2 3) (hZ : nz Z ≤ 24) :
    MsOk (rootsL (ls.map nc) ls.length) z (nestedF (rootsL (ls.map nc) ls.length) z) := by
  obtain ⟨a, b, c, d⟩ := h.value h1 h4 hz hZ
  exact ⟨(h.poly h1 h4).2.2, a, d, fun k _ => fit_long (h.fF h4 k).1 (h.fF h4 k).2, fit_long hz.1 (gr_small hz hZ), fit_long b.1 c⟩
theorem quo_pos {s : Nat} (h : aboveF s = true) : fop .quo .f32 0 s = 0 := by
  unfold aboveF at h
  rw [Bool.and_eq_true] at h
  have hf : fN .f32 s = true := by rw [← finF_iff]; exact h.1
  have hz : fN .f32 (nrm .f32 0) = true := by decide +kernel
  have hg := h.2
  rw [cmp_gtr hf hz, decide_eq_true_eq, show vN .f32 (nrm .f32 0) = 0 by decide +kernel] at hg
  obtain ⟨t, n, j, hd⟩ := isNum_ex hf
  unfold vN at hg
  rw [hd] at hg
  have hp := p2_pos j
  have hm0 : (0 : Rat) ≤ (n : Rat) * p2 j := Rat.mul_nonneg (by exact_mod_cast Nat.zero_le _) (Rat.le_of_lt hp)
  have ht : t = false := by
    cases t with
    | false => rfl
    | true =>
      have : (0 : Rat) < -((n : Rat) * p2 j) := hg
      grind
  subst ht
  have hn : n ≠ 0 := by
    rintro rfl
    have : (0 : Rat) < ((0 : Nat) : Rat) * p2 j := hg
    rw [show ((0 : Nat) : Rat) = 0 from rfl] at this
    grind
  unfold fop floatBits Ieee.Format.div
  dsimp only
  rw [show FloatKind.f32.format.read s = .number false n j from hd, show FloatKind.f32.format.read 0 = .number false 0 (-149) by decide +kernel]
  unfold Ieee.Datum.quotient
  dsimp only
  rw [if_neg hn]
  simp only [Nat.zero_shiftLeft, Nat.zero_div, Nat.zero_mod, Nat.mul_zero]
  generalize (-149 - j - _ - 1 : Int) = e
  show nrm .f32 (FloatKind.f32.format.nearest false 0 e) = 0
  unfold Ieee.Format.nearest
  rw [if_pos rfl]
  decide +kernel
/-- At a root. -/
theorem DX.root (h : DX ls X) (h1 : 1 ≤ ls.length) (h4 : ls.length ≤ 4) {i : Nat} (hi : i < ls.length) :
    MsOk (rootsL (ls.map nc) ls.length) ((ls.map nc).getD i (0, 0)) (nestedF (rootsL (ls.map nc) ls.length) ((ls.map nc).getD i (0, 0))) ∧
    (∀ s, ∃ b, missG (longF (nestedF (rootsL (ls.map nc) ls.length) ((ls.map nc).getD i (0, 0)))) s = (0, b)) := by
  refine ⟨h.ms h1 h4 (h.g i hi) (h.b i), fun s => ?_⟩
  have g := (root_value h.b h4 h.g hi).2
  have hv : longF (nestedF (rootsL (ls.map nc) ls.length) ((ls.map nc).getD i (0, 0))) = 0 := by
    rw [long_congr g.1 fC0.1 (g.2.trans ((Gr.zero _).2).symm) (gr_le g 0 (by decide) (by rw [show ((0 : Nat) : Rat) = 0 from rfl]; have := p2_pos 44; grind))]
    exact long_zero
  rw [hv]
  unfold missG
  split
  · rename_i ha
    rw [quo_pos ha]
    exact ⟨true, by decide +kernel⟩
  · exact ⟨false, rfl⟩
theorem slopeF_get {F : List C2} {n : Nat} (hl : F.length = n + 1) (h1 : 1 ≤ n) : (slopeF F).length = n ∧ ∀ k, k < n → (slopeF F).getD k (0, 0) = scaleC (F.getD (k + 1) (0, 0)) (kf (k + 1)) := by
  have e : slopeF F = (List.range n).map (slopeG F) := by unfold slopeF; rw [if_neg (by omega), hl]; simp
  rw [e]
  refine ⟨by simp, fun k hk => ?_⟩
  have : ((List.range n).map (slopeG F)).getD k (0, 0) = slopeG F k := by simp [List.getD, hk]
  rw [this]
  rfl
theorem DX.slope (h : DX ls X) (h1 : 1 ≤ ls.length) (h4 : ls.length ≤ 4) :
    slopePolyF (rootsL (ls.map nc) ls.length) = (slopeF (rootsL (ls.map nc) ls.length), true) ∧ validF (slopeF (rootsL (ls.map nc) ls.length)) = true ∧ (slopeF (rootsL (ls.map nc) ls.length)).length = ls.length ∧
    ∀ k, k < ls.length → TK X ls.length ((slopeF (rootsL (ls.map nc) ls.length)).getD k (0, 0)) (k + 1) (k + 1) := by
  have hr := (h.poly h1 h4).2.2
  unfold rootedF at hr
  rw [Bool.and_eq_true] at hr
  obtain ⟨l1, l2⟩ := slopeF_get (F := rootsL (ls.map nc) ls.length) (rootsL_length _ _) h1
  have hX : ∀ j, j < ls.length → nz (X j) ≤ nb j := fun j hj => nb_ok h h4 hj
  have T : ∀ k, k < ls.length → TK X ls.length ((slopeF (rootsL (ls.map nc) ls.length)).getD k (0, 0)) (k + 1) (k + 1) := by
    intro k hk
    rw [l2 k hk]
    have := (h.tk h4 (k + 1)).scale hX (c' := k + 1) (kf_up (k + 1) (by omega)) (slope_tab2 _ (by omega) k (by omega)) (by omega)
    rwa [Nat.mul_one] at this
  have V : validF (slopeF (rootsL (ls.map nc) ls.length)) = true ∧ polyF (slopeF (rootsL (ls.map nc) ls.length)) = (slopeF (rootsL (ls.map nc) ls.length), true) := by
    have ht := T (ls.length - 1) (by omega)
    rw [show ls.length - 1 + 1 = ls.length by omega] at ht
    obtain ⟨t1, t2⟩ := ht.top (by omega)
    by_cases hn : ls.length = 1
    · rw [hn] at l1 ⊢
      obtain ⟨x, hx⟩ := List.length_eq_one_iff.1 l1
      rw [hn] at t1
      rw [hx] at t1 ⊢
      exact poly_one t1
    · refine poly_of (by omega) ?_ (by rw [l1]; exact t2)
      rw [List.all_eq_true]
      intro x hx
      obtain ⟨i, hi, rfl⟩ := List.getElem_of_mem hx
      have := (T i (by omega)).fin
      rwa [show (slopeF (rootsL (ls.map nc) ls.length)).getD i (0, 0) = (slopeF (rootsL (ls.map nc) ls.length))[i] by simp [List.getD, hi]] at this
  exact ⟨by unfold slopePolyF; rw [if_pos hr.1]; exact V.2, V.1, l1, T⟩
/-- Newton's step from a root stays there. -/
theorem DX.stay (h : DX ls X) (h1 : 1 ≤ ls.length) (h4 : ls.length ≤ 4) {i : Nat} (hi : i < ls.length) :
    safePolish (rootsL (ls.map nc) ls.length) 1 ((ls.map nc).getD i (0, 0)) ∧ polishF (rootsL (ls.map nc) ls.length) 1 ((ls.map nc).getD i (0, 0)) = ((ls.map nc).getD i (0, 0), true) := by
  obtain ⟨s1, g1, n1, p1⟩ := h.value h1 h4 (h.g i hi) (h.b i)
  have g := (root_value h.b h4 h.g hi).2
  have hr := (h.poly h1 h4).2.2
  obtain ⟨S1, S2, S3, S4⟩ := h.slope h1 h4
  have hz := h.g i hi
  have hb := h.b i
  have zv : zeroC (nestedF (rootsL (ls.map nc) ls.length) ((ls.map nc).getD i (0, 0))) = true := by
    obtain ⟨⟨_, a⟩, _, b⟩ := g.parts
    refine (zeroC_iff (finG g)).2 ⟨by rw [a, show ((0 : Int) : Rat) = 0 from rfl]; grind, by rw [b, show ((0 : Int) : Rat) = 0 from rfl]; grind⟩
  have SV : safeN (slopeF (rootsL (ls.map nc) ls.length)) ((ls.map nc).getD i (0, 0)) ∧ ∃ u : Int × Int, nz u < 2 ^ 24 ∧ Gr (nestedF (slopeF (rootsL (ls.map nc) ls.length)) ((ls.map nc).getD i (0, 0))) u.1 u.2 (3 * (ls.length - 1)) := by
    generalize slopeF (rootsL (ls.map nc) ls.length) = S at *
    obtain ⟨n, hn⟩ : ∃ n, ls.length = n + 1 := ⟨ls.length - 1, by omega⟩
    have hF : ∀ k, k ≤ n → Gr (S.getD k (0, 0)) (((k + 1 : Nat) : Int) * (cz X (n + 1) (k + 1)).1) (((k + 1 : Nat) : Int) * (cz X (n + 1) (k + 1)).2) (3 * (n - k)) := by
      intro k hk
      have := S4 k (by omega)
      unfold TK at this
      rw [hn, show n + 1 - (k + 1) = n - k by omega] at this
      exact this
    have hc : ∀ k, k ≤ n → nz (((k + 1 : Nat) : Int) * (cz X (n + 1) (k + 1)).1, ((k + 1 : Nat) : Int) * (cz X (n + 1) (k + 1)).2) ≤ (k + 1) * bz (n + 1) (k + 1) := by
      intro k hk
      have := cz_bd X h.b (n + 1) (k + 1)
      unfold nz at this ⊢
      simp only [Int.natAbs_mul, Int.natAbs_natCast]
      rw [← Nat.mul_add]
      exact Nat.mul_le_mul_left _ this
    have hb' : ∀ j, j ≤ n → gb (fun k => (k + 1) * bz (n + 1) (k + 1)) n j * 24 < 2 ^ 24 := fun j hj => slope_tab n (by omega) j (by omega) hj
    have R := gz_exact (w := fun k => (((k + 1 : Nat) : Int) * (cz X (n + 1) (k + 1)).1, ((k + 1 : Nat) : Int) * (cz X (n + 1) (k + 1)).2)) (c := fun k => (k + 1) * bz (n + 1) (k + 1)) (by omega) hF hc hb' hz hb n 0 (by omega) (S.getD n (0, 0)) (by have := hF n (Nat.le_refl _); rwa [Nat.sub_self] at this)
    unfold safeN nestedF
    rw [S3, hn, show n + 1 - 1 = n by omega]
    refine ⟨R.1, _, ?_, R.2⟩
    have := gz_bd (w := fun k => (((k + 1 : Nat) : Int) * (cz X (n + 1) (k + 1)).1, ((k + 1 : Nat) : Int) * (cz X (n + 1) (k + 1)).2)) (c := fun k => (k + 1) * bz (n + 1) (k + 1)) hc hb n
    have h5 := hb' n (Nat.le_refl _)
    omega
  obtain ⟨sv, u, hu, su⟩ := SV
  have ps : polyAtF (slopeF (rootsL (ls.map nc) ls.length)) ((ls.map nc).getD i (0, 0)) = (nestedF (slopeF (rootsL (ls.map nc) ls.length)) ((ls.map nc).getD i (0, 0)), true) := by
    unfold polyAtF finiteX
    rw [if_pos ⟨S2, finG hz⟩, if_pos (finG su)]
  have q : quoFit (nestedF (rootsL (ls.map nc) ls.length) ((ls.map nc).getD i (0, 0))) (nestedF (slopeF (rootsL (ls.map nc) ls.length)) ((ls.map nc).getD i (0, 0))) := by
    have e := gr_norm (n := nz u) su (by unfold nz; omega)
    have v0 : cv (nestedF (rootsL (ls.map nc) ls.length) ((ls.map nc).getD i (0, 0))) = zero2 := g.2.trans (q2e (by show ((0 : Int) : Rat) * _ = 0; rw [show ((0 : Int) : Rat) = 0 from rfl]; grind) (by show ((0 : Int) : Rat) * _ = 0; rw [show ((0 : Int) : Rat) = 0 from rfl]; grind))
    have nv : N (cv (nestedF (rootsL (ls.map nc) ls.length) ((ls.map nc).getD i (0, 0)))) < p2 126 := by rw [v0, N_zero2]; exact p2_pos _
    by_cases h0 : nz u = 0
    · rw [h0] at e
      exact (quoC_zero g.1 su.1 (by rw [e, show ((0 : Nat) : Rat) = 0 from rfl]; grind) nv).1
    · refine (quoC_near (q := zero2) g.1 su.1 ?_ nv ?_ ?_ (by rw [N_zero2]; exact p2_pos _)).1
      · rw [v0]
        exact q2e (by simp [zero2]; try grind) (by simp [zero2]; try grind)
      · rw [e]
        have h1 : p2 (-((3 * (ls.length - 1) : Nat) : Int)) ≤ 1 := p2_small (by omega)
        have h2 : ((nz u : Nat) : Rat) ≤ ((2 ^ 24 : Nat) : Rat) := by exact_mod_cast Nat.le_of_lt hu
        have h3 := mul_le h2 h1 (Rat.le_of_lt (p2_pos _)) (by decide +kernel)
        have h4 : ((2 ^ 24 : Nat) : Rat) * 1 < p2 100 := by decide +kernel
        grind
      · rw [e]
        have h1 : p2 (-40) ≤ p2 (-((3 * (ls.length - 1) : Nat) : Int)) := p2_mono (by omega)
        have h2 : ((1 : Nat) : Rat) ≤ ((nz u : Nat) : Rat) := by exact_mod_cast Nat.pos_of_ne_zero h0
        have h3 := Rat.mul_le_mul_of_nonneg_right h2 (Rat.le_of_lt (p2_pos (-((3 * (ls.length - 1) : Nat) : Int))))
        rw [show ((1 : Nat) : Rat) = 1 from rfl] at h3
        grind
  have st : stepF (rootsL (ls.map nc) ls.length) ((ls.map nc).getD i (0, 0)) = ((ls.map nc).getD i (0, 0), true) := by
    unfold stepF
    rw [hr, finG hz, p1]
    dsimp only
    rw [if_pos (by rfl), if_pos rfl, if_pos zv]
  refine ⟨⟨⟨s1, ?_, ?_⟩, fun _ => trivial⟩, ?_⟩
  · rw [S1]; exact sv
  · rw [S1, p1, ps]; exact q
  · unfold polishF
    rw [st]
    rfl
end
end Go.Proofs.YtdnoilcfgicnnaaGreat

/- How much a polynomial misses 0 at a number, of the program. Conditions: a polynomial with roots whose value is told; lengths fit float32. -/
namespace Go.Proofs.YtdnoilcfgicnnaaGreat
set_option linter.unusedSimpArgs false
set_option linter.unusedVariables false
open Go Go.RowKit

set_option maxRecDepth 100000 in
set_option maxHeartbeats 1000000 in
theorem missAt_impl (v : Value) (rs : List C2) (z V : C2) (w : World) (hv : RdV w v (cx rs)) (h1 : 1 ≤ rs.length) (h2 : rs.length ≤ 17) (HM : RowKit.Hid (MsOk (rs.map nc) (nc z) V)) :
    Calls Tryz.prog 20 #[.agg #[v], .complex .f32 z.1 z.2] w (RetFB (missG (longF V) (missS (rs.map nc) (nc z) rs.length)) w) := by
  have n0 := nrm0
  rcases hv.openC with ⟨rfl, _⟩ | ⟨b, off, cap, rfl, hb, hcp, hc⟩
  · simp at h1
  have Hc := Lib.hid (show ∀ i, i < rs.length → w.cell? ⟨b, off + i, none⟩ = some (.complex .f32 (rs.getD i (0, 0)).1 (rs.getD i (0, 0)).2) from fun i hi => by
    rw [hc i hi]; simp [List.getD, hi])
  have Hv := Lib.hid hv
  have HR := Lib.hid HM.out.r
  have Hf := Lib.hid (show ∀ k, k < rs.length → fit1 (sqF (powerF (nc (rs.getD k (0, 0))))) from fun k hk => by
    have := HM.out.f k (by rw [List.length_map]; exact hk)
    rwa [getD_nc] at this)
  have HS := Lib.hid (fun k => show missS (rs.map nc) (nc z) (k + 1) = fop .add .f32 (missS (rs.map nc) (nc z) k) (powL (longF (nc (rs.getD k (0, 0)))) (longF (nc z)) k) by rw [missS, getD_nc])
  have HS0 := Lib.hid (show missS (rs.map nc) (nc z) 0 = nrm .f32 0 from rfl)
  have HV := Lib.hid HM.out.v
  have HN := Lib.hid HM.out.s
  have HZ := Lib.hid HM.out.z
  have HW := Lib.hid HM.out.w
  clear hc hv hcp HM
  go_enter Tryz.func20, Tryz.ntmps20
  go_wp2_with (first | (go_at_call 27; go_must (refine (rooted_impl _ rs _ (Hv.out.alloc _) h1 h2).mono ?_); rintro e w' ⟨rfl, hb1⟩; obtain ⟨chhb1, fhhb1⟩ := bcell hb1; have zhhb1 := hb1.size; (try simp only [World.size_alloc, World.size_setCell, World.size_drew] at zhhb1); (try have lhhb1 : w.heap.size < w'.heap.size := by omega); rw [HR.out]))
  (go_at_call 36; ((with_reducible refine (polyAt_impl _ rs z _ (Hv.out.below (by (repeat' (first | (with_reducible exact Below.refl _ _) | (with_reducible assumption) | (with_reducible refine Below.alloc ?_ ?_ _) | (with_reducible refine Below.setCell ?_ ?_ _) | (with_reducible refine Below.drew ?_) | (with_reducible refine Below.via (by assumption) ?_ ?_) | go_size)))) h1 h2 (Lib.hid fun _ _ => HN.out)).mono ?_); rintro e w' ⟨a1, a2, rfl, ha1, ha2, hb2⟩; obtain ⟨chhb2, fhhb2⟩ := bcell hb2; have zhhb2 := hb2.size; (try simp only [World.size_alloc, World.size_setCell, World.size_drew] at zhhb2); (try have lhhb2 : w.heap.size < w'.heap.size := by omega)))
  rw [HV.out] at ha1 ha2 ⊢
  have HA := Lib.hid (show nc (a1, a2) = V from Prod.ext ha1 ha2)
  have Hb2 := Lib.hid (show Below w.heap.size w w' from by (repeat' (first | (with_reducible exact Below.refl _ _) | (with_reducible assumption) | (with_reducible refine Below.alloc ?_ ?_ _) | (with_reducible refine Below.setCell ?_ ?_ _) | (with_reducible refine below_drewN ?_ _) | (with_reducible refine Below.via (by assumption) ?_ ?_) | go_size)))
  clear ha1 ha2 hb2
  go_wp2_with fail
  generalize hMS : missS (rs.map nc) (nc z) = MS at *
  clear hMS
  go_loopw [8, 26] (fun ov iv wr => ∃ (k r : Nat), k ≤ rs.length ∧ iv = .int .i64 k ∧ ov = .float .f32 r ∧ nrm .f32 r = MS k ∧ Below w.heap.size w wr) (fun _ iv _ => rs.length - (intOf iv).toNat)
  case atStart => exact ⟨0, _, Nat.zero_le _, rfl, rfl, HS0.out.symm, Hb2.out⟩
  case round =>
    obtain ⟨k, r, hk, rfl, rfl, hr, hbel⟩ := hrel
    have hsz := hbel.size
    have Hr := Lib.hid hr
    have Hbel := Lib.hid hbel
    by_cases hlt : k < rs.length
    · have c1 := (hbel.cell (p := ⟨b, off + k, none⟩) hb).trans (Hc.out k hlt)
      have Hff := Lib.hid (Hf.out k hlt)
      have HSk := Lib.hid (HS.out k)
      have j0 : (0 : Int) ≤ (k : Int) := by omega
      have j1 : (k : Int) < (rs.length : Int) := by omega
      generalize rs.getD k (0, 0) = x at *
      obtain ⟨x1, x2⟩ := x
      clear hr hbel
      go_wp2_with fail
      (go_at_call 48; ((with_reducible refine (long_impl (x1, x2) (Lib.hid Hff.out) _).mono ?_); rintro e w' ⟨a, m0, rfl, ha, rfl⟩))
      have Ha := Lib.hid ha
      clear ha
      go_wp2_with fail
      go_loopw [11, 34] (fun pv jv wi => ∃ (j p m : Nat), j ≤ k ∧ jv = .int .i64 j ∧ pv = .float .f32 p ∧ nrm .f32 p = powL (longF (nc (x1, x2))) (longF (nc z)) j ∧ wi = wr.drewN m) (fun _ jv _ => k - (intOf jv).toNat)
      case atStart => exact ⟨0, a, m0, Nat.zero_le _, rfl, rfl, Ha.out, rfl⟩
      case round =>
        obtain ⟨j, p, m, hj, rfl, rfl, hp, rfl⟩ := hrel
        have Hp := Lib.hid hp
        clear hp
        by_cases hjl : j < k
        · have j2 : (j : Int) < (k : Int) := by omega
          have j3 : (0 : Int) ≤ (j : Int) := by omega
          go_wp2_with fail
          (go_at_call 48; ((with_reducible refine (long_impl z (Lib.hid HZ.out) _).mono ?_); rintro e w' ⟨a2, m2, rfl, ha2, rfl⟩))
          have Ha2 := Lib.hid ha2
          clear ha2
          go_wp2_with (with_reducible refine wpList_fop rfl _ _ _ _ _ rfl rfl .f32 _ _ rfl rfl ?_; intro r3 m3 hr3; have Hr3 := Lib.hid hr3; clear hr3)
          go_roundw
          case rel => exact ⟨j + 1, r3, _, by omega, by go_num, rfl, by rw [Hr3.out, powL, ← Hp.out, Ha2.out], by first | rfl | (simp; rfl) | (simp; done)⟩
          case measure => simp [intOf]; omega
        · obtain rfl : j = k := by omega
          go_wp2_with (with_reducible refine wpList_fop rfl _ _ _ _ _ rfl rfl .f32 _ _ rfl rfl ?_; intro r3 m3 hr3; have Hr3 := Lib.hid hr3; clear hr3)
          go_roundw
          case rel => exact ⟨j + 1, r3, by omega, by go_num, rfl, by rw [Hr3.out, HSk.out, ← Hr.out, ← Hp.out], by first | exact below_drewN Hbel.out _ | exact below_drewN (below_drewN Hbel.out _) _⟩
          case measure => simp [intOf]; omega
    · obtain rfl : k = rs.length := by omega
      generalize hS : MS rs.length = S at *
      clear hr hbel hlt
      cases hfin : finF S
      · have HG := Lib.hid (show missG (longF V) S = (0, false) by simp [missG, aboveF, hfin])
        go_wp2_with (go_at_call 56; go_must (refine (isFinite_impl r _).mono ?_); rintro e w' ⟨m, rfl, rfl⟩; rw [Hr.out])
        go_ret2
        rw [HG.out]
        exact ⟨_, rfl, n0, by exact below_drewN Hbel.out _⟩
      · have hlg := leq_gtr hfin
        cases hgt : fcmp .gtr .f32 S (nrm .f32 0)
        · have HG := Lib.hid (show missG (longF V) S = (0, false) by simp [missG, aboveF, hgt])
          have hle : fcmp .leq .f32 (nrm .f32 r) (nrm .f32 0) = true := by rw [Hr.out, hlg, hgt]; rfl
          rw [nrm0] at hle
          clear hlg hgt
          go_wp2_with (go_at_call 56; go_must (refine (isFinite_impl r _).mono ?_); rintro e w' ⟨m, rfl, rfl⟩; rw [Hr.out])
          go_ret2
          rw [HG.out]
          exact ⟨_, rfl, n0, by exact below_drewN Hbel.out _⟩
        · have HG := Lib.hid (show missG (longF V) S = finiteN (fop .quo .f32 (longF V) S) by simp [missG, aboveF, hfin, hgt])
          have hle : fcmp .leq .f32 (nrm .f32 r) (nrm .f32 0) = false := by rw [Hr.out, hlg, hgt]; rfl
          rw [nrm0] at hle
          clear hlg hgt
          go_wp2_with (go_at_call 56; go_must (refine (isFinite_impl r _).mono ?_); rintro e w' ⟨m, rfl, rfl⟩; rw [Hr.out])
          go_wp2_with fail
          (go_at_call 48; ((with_reducible refine (long_impl (a1, a2) (Lib.hid (by rw [HA.out]; exact HW.out)) _).mono ?_); rintro e w' ⟨a, m0, rfl, ha, rfl⟩))
          have Ha := Lib.hid ha
          clear ha
          go_wp2_with (with_reducible refine wpList_fop rfl _ _ _ _ _ rfl rfl .f32 _ _ rfl rfl ?_; intro r3 m3 hr3; have Hr3 := Lib.hid hr3; clear hr3)
          (go_at_call 57; ((with_reducible refine (checked_impl r3 _).mono ?_)))
          have He : nrm .f32 r3 = fop .quo .f32 (longF V) S := by rw [Hr3.out, Ha.out, HA.out, Hr.out]
          rw [He]
          rintro e w' ⟨a5, rfl, ha5, hb5⟩
          have Ha5 := Lib.hid ha5
          have Hb5 := Lib.hid hb5
          generalize finiteN (fop .quo .f32 (longF V) S) = G at *
          clear ha5 hb5 He
          go_wp2_with fail
          go_ret2
          rw [HG.out]
          exact ⟨_, rfl, Ha5.out, (below_drewN Hbel.out _).trans (Hb5.out.mono (by simpa using hsz))⟩
end Go.Proofs.YtdnoilcfgicnnaaGreat

/- How much a polynomial misses 0 at a number, of the reference. Conditions: a polynomial with roots whose value is told; lengths fit float32. -/
namespace Go.Proofs.YtdnoilcfgicnnaaGreat
set_option linter.unusedSimpArgs false
set_option linter.unusedVariables false
open Go Go.RowKit

set_option maxRecDepth 100000 in
set_option maxHeartbeats 1000000 in
theorem miss_spec (p : Nat) (v : Value) (rs : List C2) (z V : C2) (w : World) (hp : w.cell? ⟨p, 0, none⟩ = some v) (hv : RdV w v (cx rs)) (h1 : 1 ≤ rs.length) (h2 : rs.length ≤ 17) (HM : RowKit.Hid (MsOk (rs.map nc) (nc z) V)) :
    Calls Tryz.prog 30 #[.pointer (some ⟨p, 0, none⟩), .complex .f32 z.1 z.2] w (RetFB (missG (longF V) (missS (rs.map nc) (nc z) rs.length)) w) := by
  have hpl : p < w.heap.size := World.block_lt_of_cell? _ _ hp
  have n0 := nrm0
  rcases hv.openC with ⟨rfl, _⟩ | ⟨b, off, cap, rfl, hb, hcp, hc⟩
  · simp at h1
  have Hc := Lib.hid (show ∀ i, i < rs.length → w.cell? ⟨b, off + i, none⟩ = some (.complex .f32 (rs.getD i (0, 0)).1 (rs.getD i (0, 0)).2) from fun i hi => by
    rw [hc i hi]; simp [List.getD, hi])
  have Hv := Lib.hid hv
  have Hp0 := Lib.hid hp
  have HR := Lib.hid HM.out.r
  have Hf := Lib.hid (show ∀ k, k < rs.length → fit1 (sqF (powerF (nc (rs.getD k (0, 0))))) from fun k hk => by
    have := HM.out.f k (by rw [List.length_map]; exact hk)
    rwa [getD_nc] at this)
  have HS := Lib.hid (fun k => show missS (rs.map nc) (nc z) (k + 1) = fop .add .f32 (missS (rs.map nc) (nc z) k) (powL (longF (nc (rs.getD k (0, 0)))) (longF (nc z)) k) by rw [missS, getD_nc])
  have HS0 := Lib.hid (show missS (rs.map nc) (nc z) 0 = nrm .f32 0 from rfl)
  have HV := Lib.hid HM.out.v
  have HN := Lib.hid HM.out.s
  have HZ := Lib.hid HM.out.z
  have HW := Lib.hid HM.out.w
  clear hc hv hcp HM
  go_enter Tryz.func30, Tryz.ntmps30
  go_wp2_with fail
  (go_at_call 19; ((with_reducible refine (polyAt_spec _ rs z _ Hv.out h1 h2 (Lib.hid fun _ _ => HN.out)).mono ?_); rintro e w' ⟨a1, a2, rfl, ha1, ha2, hb2⟩; obtain ⟨chhb2, fhhb2⟩ := bcell hb2; have zhhb2 := hb2.size; (try simp only [World.size_alloc, World.size_setCell, World.size_drew] at zhhb2); (try have lhhb2 : w.heap.size ≤ w'.heap.size := by omega)))
  rw [HV.out] at ha1 ha2 ⊢
  have HA := Lib.hid (show nc (a1, a2) = V from Prod.ext ha1 ha2)
  have Hb2 := Lib.hid hb2
  have cp := (hb2.cell (p := ⟨p, 0, none⟩) hpl).trans hp
  clear ha1 ha2 hb2
  go_wp2_with fail
  (go_at_call 50; ((with_reducible refine (long_spec z (Lib.hid HZ.out) _).mono ?_); rintro e w' ⟨l, ml, rfl, hl, rfl⟩))
  have Hl := Lib.hid hl
  clear hl
  go_wp2_with fail
  generalize hMS : missS (rs.map nc) (nc z) = MS at *
  clear hMS
  go_loopw [9, 30] (fun ov iv wr => ∃ (k r : Nat), k ≤ rs.length ∧ iv = .int .i64 k ∧ ov = .float .f32 r ∧ nrm .f32 r = MS k ∧ Below w.heap.size w wr) (fun _ iv _ => rs.length - (intOf iv).toNat)
  case atStart => exact ⟨0, _, Nat.zero_le _, rfl, rfl, HS0.out.symm, below_drewN Hb2.out _⟩
  case round =>
    obtain ⟨k, r, hk, rfl, rfl, hr, hbel⟩ := hrel
    have hsz := hbel.size
    have Hr := Lib.hid hr
    have Hbel := Lib.hid hbel
    by_cases hlt : k < rs.length
    · have c1 := (hbel.cell (p := ⟨b, off + k, none⟩) hb).trans (Hc.out k hlt)
      have cpr := (hbel.cell (p := ⟨p, 0, none⟩) hpl).trans Hp0.out
      have Hff := Lib.hid (Hf.out k hlt)
      have HSk := Lib.hid (HS.out k)
      have j0 : (0 : Int) ≤ (k : Int) := by omega
      have j1 : (k : Int) < (rs.length : Int) := by omega
      generalize rs.getD k (0, 0) = x at *
      obtain ⟨x1, x2⟩ := x
      clear hr hbel
      go_wp2_with fail
      (go_at_call 50; ((with_reducible refine (long_spec (x1, x2) (Lib.hid Hff.out) _).mono ?_); rintro e w' ⟨a, m0, rfl, ha, rfl⟩))
      have Ha := Lib.hid ha
      clear ha
      go_wp2_with fail
      go_loopw [11, 12] (fun pv jv wi => ∃ (j p m : Nat), j ≤ k ∧ jv = .int .i64 j ∧ pv = .float .f32 p ∧ nrm .f32 p = powL (longF (nc (x1, x2))) (longF (nc z)) j ∧ wi = wr.drewN m) (fun _ jv _ => k - (intOf jv).toNat)
      case atStart => exact ⟨0, a, m0, Nat.zero_le _, rfl, rfl, Ha.out, rfl⟩
      case round =>
        obtain ⟨j, p, m, hj, rfl, rfl, hp, rfl⟩ := hrel
        have Hp := Lib.hid hp
        clear hp
        by_cases hjl : j < k
        · have j2 : (j : Int) < (k : Int) := by omega
          have j3 : (0 : Int) ≤ (j : Int) := by omega
          go_wp2_with (with_reducible refine wpList_fop rfl _ _ _ _ _ rfl rfl .f32 _ _ rfl rfl ?_; intro r3 m3 hr3; have Hr3 := Lib.hid hr3; clear hr3)
          go_roundw
          case rel => exact ⟨j + 1, r3, _, by omega, by go_num, rfl, by rw [Hr3.out, powL, ← Hp.out, ← Hl.out], by first | rfl | (simp; rfl) | (simp; done)⟩
          case measure => simp [intOf]; omega
        · obtain rfl : j = k := by omega
          go_wp2_with (with_reducible refine wpList_fop rfl _ _ _ _ _ rfl rfl .f32 _ _ rfl rfl ?_; intro r3 m3 hr3; have Hr3 := Lib.hid hr3; clear hr3)
          go_roundw
          case rel => exact ⟨j + 1, r3, by omega, by go_num, rfl, by rw [Hr3.out, HSk.out, ← Hr.out, ← Hp.out], by first | exact below_drewN Hbel.out _ | exact below_drewN (below_drewN Hbel.out _) _⟩
          case measure => simp [intOf]; omega
    · obtain rfl : k = rs.length := by omega
      generalize hS : MS rs.length = S at *
      clear hr hbel hlt
      cases hab : aboveF S
      · have HG := Lib.hid (show missG (longF V) S = (0, false) by simp [missG, hab])
        go_wp2_with (go_at_call 63; go_must (refine (above_spec r _).mono ?_); rintro e w' ⟨m, rfl, rfl⟩; rw [Hr.out])
        go_ret2
        rw [HG.out]
        exact ⟨_, rfl, n0, below_drewN Hbel.out _⟩
      · have HG := Lib.hid (show missG (longF V) S = finiteN (fop .quo .f32 (longF V) S) by simp [missG, hab])
        go_wp2_with (go_at_call 63; go_must (refine (above_spec r _).mono ?_); rintro e w' ⟨m, rfl, rfl⟩; rw [Hr.out])
        (go_at_call 50; ((with_reducible refine (long_spec (a1, a2) (Lib.hid (by rw [HA.out]; exact HW.out)) _).mono ?_); rintro e w' ⟨a, m0, rfl, ha, rfl⟩))
        have Ha := Lib.hid ha
        clear ha
        go_wp2_with (with_reducible refine wpList_fop rfl _ _ _ _ _ rfl rfl .f32 _ _ rfl rfl ?_; intro r3 m3 hr3; have Hr3 := Lib.hid hr3; clear hr3)
        (go_at_call 64; ((with_reducible refine (number1_spec r3 _).mono ?_)))
        have He : nrm .f32 r3 = fop .quo .f32 (longF V) S := by rw [Hr3.out, Ha.out, HA.out, Hr.out]
        rw [He]
        rintro e w' ⟨a5, rfl, ha5, hb5⟩
        have Ha5 := Lib.hid ha5
        have Hb5 := Lib.hid hb5
        generalize finiteN (fop .quo .f32 (longF V) S) = G at *
        clear ha5 hb5 He
        go_wp2_with fail
        go_ret2
        rw [HG.out]
        exact ⟨_, rfl, Ha5.out, (below_drewN Hbel.out _).trans (Hb5.out.mono (by simpa using hsz))⟩
end Go.Proofs.YtdnoilcfgicnnaaGreat
