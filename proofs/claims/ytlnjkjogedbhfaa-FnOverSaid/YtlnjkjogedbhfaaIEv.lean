/- Values of wholes at a number, as sums; products, slopes and exact quotients: plain laws. Conditions: none (plain). -/
import Derived.Test.YtlnjkjogedbhfaaIDiv
import Derived.Test.YtlnjkjogedbhfaaI32
namespace Go.Proofs.Ytlnjkjogedbhfaa
open Go Go.RowKit
set_option linter.unusedSimpArgs false
set_option linter.unusedVariables false

/-- The sum of a series' first terms at x. -/
def evs (f : Nat → Int) (x : Int) : Nat → Int
  | 0 => 0
  | k + 1 => evs f x k + f k * x ^ k
def ev (zs : List Int) (x : Int) : Int := evs (co zs) x zs.length
theorem evs_congr {f g : Nat → Int} {x : Int} : ∀ {k : Nat}, (∀ i, i < k → f i = g i) → evs f x k = evs g x k
  | 0, _ => rfl
  | k + 1, h => by rw [evs, evs, evs_congr (fun i hi => h i (by omega)), h k (by omega)]
theorem evs_ext {f : Nat → Int} {x : Int} {n : Nat} (h : ∀ i, n ≤ i → f i = 0) : ∀ {k : Nat}, n ≤ k → evs f x k = evs f x n
  | 0, hk => by obtain rfl : n = 0 := by omega
                rfl
  | k + 1, hk => by
    by_cases e : n = k + 1
    · rw [e]
    · rw [evs, h k (by omega), Int.zero_mul, Int.add_zero, evs_ext h (by omega)]
theorem evs_add (f g : Nat → Int) (x : Int) : ∀ k, evs (fun i => f i + g i) x k = evs f x k + evs g x k
  | 0 => rfl
  | k + 1 => by simp only [evs]; rw [evs_add f g x k, Int.add_mul]; omega
theorem evs_smul (c : Int) (f : Nat → Int) (x : Int) : ∀ k, evs (fun i => c * f i) x k = c * evs f x k
  | 0 => by simp [evs]
  | k + 1 => by simp only [evs]; rw [evs_smul c f x k, Int.mul_add, Int.mul_assoc]
theorem evs_shift (c : Int) (g : Nat → Int) (x : Int) (k : Nat) : ∀ d, evs (fun n => if k ≤ n then c * g (n - k) else 0) x (k + d) = c * x ^ k * evs g x d
  | 0 => by
    rw [evs_congr (g := fun _ => 0 * 0) (fun i hi => by rw [if_neg (by omega)]; rfl), evs_smul 0 (fun _ => 0)]
    simp [evs]
  | d + 1 => by
    rw [show k + (d + 1) = (k + d) + 1 by omega, evs, evs_shift c g x k d, if_pos (by omega), show k + d - k = d by omega, evs, Int.pow_add]
    rw [Int.mul_add]
    congr 1
    rw [Int.mul_assoc, Int.mul_assoc, Int.mul_left_comm (g d)]
theorem ev_len {zs : List Int} {x : Int} {n : Nat} (h : zs.length ≤ n) : evs (co zs) x n = ev zs x := evs_ext (fun i hi => co_beyond zs hi) h
theorem evs_cv {f g : Nat → Int} {x : Int} {na nb : Nat} (hf : ∀ i, na ≤ i → f i = 0) (hg : ∀ i, nb ≤ i → g i = 0) {N : Nat} (hN : na + nb ≤ N) : evs (cv f g) x N = evs f x na * evs g x nb := by
  have h : ∀ k, k ≤ na → evs (cv (cut f k) g) x N = evs f x k * evs g x nb := by
    intro k
    induction k with
    | zero =>
      intro _
      rw [evs_congr (g := fun _ => 0 * 0) (fun i _ => by rw [cut_zero]; rfl), evs_smul 0 (fun _ => 0)]
      simp [evs]
    | succ k ih =>
      intro hk
      rw [evs_congr (g := fun n => cv (cut f k) g n + if k ≤ n then f k * g (n - k) else 0) (fun i _ => cut_succ f g k i), evs_add, ih (by omega)]
      obtain ⟨d, rfl⟩ : ∃ d, N = k + d := ⟨N - k, by omega⟩
      rw [evs_shift, evs_ext hg (show nb ≤ d by omega), evs, Int.add_mul]
  have e : cut f na = f := by
    funext i
    unfold cut
    split
    · rfl
    · exact (hf i (by omega)).symm
  have h1 := h na (Nat.le_refl _)
  rwa [e] at h1
theorem ev_mul (a b : List Int) (x : Int) : ev (mulZ a b) x = ev a x * ev b x := by
  rw [← ev_len (n := a.length + b.length) (by rw [mulZ_length]; omega), mulZ_co, evs_cv (fun i hi => co_beyond a hi) (fun i hi => co_beyond b hi) (Nat.le_refl _)]
  rfl
theorem trd_ext {a b : List Int} (ta : Trd a) (tb : Trd b) (h : co a = co b) : a = b := by
  have hg : ∀ i, a.getD i 0 = b.getD i 0 := fun i => congrFun h i
  have hl : a.length = b.length := by
    rcases Nat.lt_trichotomy a.length b.length with h1 | h1 | h1
    · exfalso
      have h2 := hg (b.length - 1)
      rw [show a.getD (b.length - 1) 0 = 0 from co_beyond a (by omega)] at h2
      rcases tb.2 with h3 | h3
      · have := ta.1; omega
      · exact h3 h2.symm
    · exact h1
    · exfalso
      have h2 := hg (a.length - 1)
      rw [show b.getD (a.length - 1) 0 = 0 from co_beyond b (by omega)] at h2
      rcases ta.2 with h3 | h3
      · have := tb.1; omega
      · exact h3 h2
  exact ext_getD hl hg
theorem ev_co {a b : List Int} {x : Int} (h : co a = co b) : ev a x = ev b x := by
  rw [← ev_len (zs := a) (n := max a.length b.length) (by omega), ← ev_len (zs := b) (n := max a.length b.length) (by omega), h]

/-! Horner's way. -/
def hor (zs : List Int) (x : Int) : Nat → Int
  | 0 => 0
  | j + 1 => hor zs x j * x + co zs (zs.length - (j + 1))
theorem hor_ev (zs : List Int) (x : Int) : ∀ j, j ≤ zs.length → evs (co zs) x (zs.length - j) + x ^ (zs.length - j) * hor zs x j = ev zs x
  | 0, _ => by simp [hor, ev]
  | j + 1, h => by
    rw [← hor_ev zs x j (by omega)]
    obtain ⟨d, hd⟩ : ∃ d, zs.length - j = d + 1 := ⟨zs.length - j - 1, by omega⟩
    have hd2 : zs.length - (j + 1) = d := by omega
    rw [hd, hd2, evs, hor, hd2, Int.pow_succ, Int.mul_add, Int.mul_assoc, Int.mul_comm x (hor zs x j), Int.mul_comm (x ^ d) (co zs d)]
    omega
theorem hor_all (zs : List Int) (x : Int) : hor zs x zs.length = ev zs x := by
  have h := hor_ev zs x zs.length (Nat.le_refl _)
  rw [Nat.sub_self] at h
  simp only [evs, Int.pow_zero, Int.one_mul, Int.zero_add] at h
  exact h
theorem mul4 {h x B : Int} (hB : 0 ≤ B) (h1 : -B ≤ h ∧ h ≤ B) (hx : -4 ≤ x ∧ x ≤ 4) : -(4 * B) ≤ h * x ∧ h * x ≤ 4 * B := by
  have e : (h * x).natAbs ≤ B.natAbs * 4 := by
    rw [Int.natAbs_mul]
    exact Nat.mul_le_mul (by omega) (by omega)
  omega
theorem hor_bd {zs : List Int} {x M : Int} (hM : 0 ≤ M) (hz : BdI M zs) (hx : -4 ≤ x ∧ x ≤ 4) : ∀ j, -(M * ((5 ^ j : Nat) : Int)) ≤ hor zs x j ∧ hor zs x j ≤ M * ((5 ^ j : Nat) : Int)
  | 0 => by simp [hor]; omega
  | j + 1 => by
    have ih := hor_bd hM hz hx j
    have h0 : 0 ≤ M * ((5 ^ j : Nat) : Int) := Int.mul_nonneg hM (Int.natCast_nonneg _)
    have h1 := mul4 h0 ih hx
    have h2 : -M ≤ co zs (zs.length - (j + 1)) ∧ co zs (zs.length - (j + 1)) ≤ M := hz _
    have h3 : M ≤ M * ((5 ^ j : Nat) : Int) := by
      have : (1 : Int) ≤ ((5 ^ j : Nat) : Int) := by have := Nat.one_le_pow j 5 (by omega); omega
      have h4 := Int.mul_le_mul_of_nonneg_left this hM
      omega
    have e : M * ((5 ^ (j + 1) : Nat) : Int) = 5 * (M * ((5 ^ j : Nat) : Int)) := by
      rw [Nat.pow_succ, Int.natCast_mul, ← Int.mul_assoc, Int.mul_comm]; rfl
    rw [e, hor]
    omega
theorem hor_bd9 {zs : List Int} {x : Int} (hz : BdI 1000 zs) (hx : -4 ≤ x ∧ x ≤ 4) {j : Nat} (hj : j ≤ 9) : -1953125000 ≤ hor zs x j ∧ hor zs x j ≤ 1953125000 := by
  have h := hor_bd (M := 1000) (by omega) hz hx j
  have h2 : 5 ^ j ≤ 5 ^ 9 := Nat.pow_le_pow_right (by omega) hj
  have h3 : (5 : Nat) ^ 9 = 1953125 := by decide
  rw [h3] at h2
  have h4 : (1000 : Int) * ((5 ^ j : Nat) : Int) ≤ 1953125000 := by omega
  omega

/-! Slopes. -/
def D (f : Nat → Int) : Nat → Int := fun i => ((i + 1 : Nat) : Int) * f (i + 1)
theorem D_cv : ∀ (n : Nat) (f g : Nat → Int), D (cv f g) n = cv (D f) g n + cv f (D g) n
  | 0, f, g => by simp [D, cv]; omega
  | m + 1, f, g => by
    have ih := D_cv m (fun i => f (i + 1)) g
    have e1 : cv (D f) g (m + 1) = cv (fun i => f (i + 1)) g (m + 1) + cv (D (fun i => f (i + 1))) g m := by
      have e : D f = fun i => f (i + 1) + (i : Int) * f (i + 1) := by
        funext i
        simp only [D]
        rw [Int.natCast_add, Int.add_mul]
        simp
        omega
      rw [e, cv_add_left]
      congr 1
      rw [cv]
      simp only [Int.natCast_zero, Int.zero_mul, Int.zero_add]
      rfl
    have e2 : cv f (D g) (m + 1) = f 0 * D g (m + 1) + cv (fun i => f (i + 1)) (D g) m := rfl
    have e3 : D (cv f g) (m + 1) = ((m + 1 + 1 : Nat) : Int) * (f 0 * g (m + 1 + 1) + cv (fun i => f (i + 1)) g (m + 1)) := rfl
    have e4 : D (cv (fun i => f (i + 1)) g) m = ((m + 1 : Nat) : Int) * cv (fun i => f (i + 1)) g (m + 1) := rfl
    have e5 : D g (m + 1) = ((m + 1 + 1 : Nat) : Int) * g (m + 1 + 1) := rfl
    rw [e4] at ih
    rw [e1, e2, e3, e5, Int.mul_add, Int.mul_left_comm (f 0)]
    have e6 : ((m + 1 + 1 : Nat) : Int) * cv (fun i => f (i + 1)) g (m + 1) = ((m + 1 : Nat) : Int) * cv (fun i => f (i + 1)) g (m + 1) + cv (fun i => f (i + 1)) g (m + 1) := by
      rw [Int.natCast_add (m + 1) 1, Int.add_mul]; simp
    rw [e6, ih]
    omega
theorem slope_co (zs : List Int) : co (slopeZ zs) = D (co zs) := by
  funext i
  show (slopeZ zs).getD i 0 = _
  rw [slopeZ, buildZ_get]
  split
  · rfl
  · show 0 = ((i + 1 : Nat) : Int) * co zs (i + 1)
    rw [co_beyond zs (by omega), Int.mul_zero]
/-- The rule of products. -/
theorem ev_slope_mul (a b : List Int) (x : Int) : ev (slopeZ (mulZ a b)) x = ev (slopeZ a) x * ev b x + ev a x * ev (slopeZ b) x := by
  have hl := slope_len (mulZ a b)
  rw [mulZ_length] at hl
  have la := slope_len a
  have lb := slope_len b
  rw [← ev_len (n := a.length + b.length) (by omega), slope_co, mulZ_co]
  rw [evs_congr (g := fun n => cv (D (co a)) (co b) n + cv (co a) (D (co b)) n) (fun i _ => D_cv i _ _), evs_add, ← slope_co, ← slope_co,
    evs_cv (na := a.length) (nb := b.length) (fun i hi => co_beyond _ (by omega)) (fun i hi => co_beyond b hi) (Nat.le_refl _),
    evs_cv (na := a.length) (nb := b.length) (fun i hi => co_beyond a hi) (fun i hi => co_beyond _ (by omega)) (Nat.le_refl _)]
  rw [ev_len (zs := slopeZ a) (by omega), ev_len (zs := slopeZ b) (by omega)]
  rfl

/-! Exact quotients of products. -/
theorem stB_co {X b : List Int} {q : Int} {k : Nat} (h : k + b.length ≤ X.length) (n : Nat) : co (stB X b q k b.length) n = co X n - if k ≤ n then q * co b (n - k) else 0 := by
  show (stB X b q k b.length).getD n 0 = _
  rw [stB_get X b q k _ h n]
  by_cases e : k ≤ n
  · rw [if_pos e]
    by_cases e2 : n < k + b.length
    · rw [if_pos ⟨e, e2⟩]; rfl
    · rw [if_neg (by omega), co_beyond b (by omega), Int.mul_zero, Int.sub_zero]; rfl
  · rw [if_neg e, if_neg (by omega), Int.sub_zero]; rfl
theorem eqGo_mul {a b : List Int} (hb : b ≠ []) (hl : lastZ b ≠ 0) (hba : BdI 1000000 a) : ∀ (k : Nat) (L O : List Int), co L = cv (cut (co a) k) (co b) → k + b.length ≤ L.length + 1 → O.length = a.length → k ≤ a.length → (∀ i, k ≤ i → O.getD i 0 = a.getD i 0) →
    ∃ L', eqGo b k (L, O) = some (L', a) ∧ ∀ i, L'.getD i 0 = 0
  | 0, L, O, hL, _, hO, _, hi => by
    refine ⟨L, ?_, fun i => ?_⟩
    · have e : O = a := ext_getD hO (fun i => hi i (Nat.zero_le _))
      rw [e]; rfl
    · have h := congrFun hL i
      rw [cut_zero] at h
      exact h
  | k + 1, L, O, hL, hlen, hO, hk, hi => by
    have hb1 : 0 < b.length := List.length_pos_iff.2 hb
    have htop : L.getD (k + b.length - 1) 0 = a.getD k 0 * lastZ b := by
      have h := congrFun hL (k + b.length - 1)
      rw [show k + b.length - 1 = k + (b.length - 1) by omega, cv_top k (b.length - 1) (fun i hi => by unfold cut; rw [if_neg (by omega)]) (fun i hi => co_beyond b (by omega))] at h
      rw [show k + b.length - 1 = k + (b.length - 1) by omega]
      refine h.trans ?_
      unfold cut
      rw [if_pos (by omega)]
      rfl
    have hq : (L.getD (k + b.length - 1) 0).tdiv (lastZ b) = a.getD k 0 := by rw [htop, Int.mul_tdiv_cancel _ hl]
    have hr : (L.getD (k + b.length - 1) 0).tmod (lastZ b) = 0 := by rw [htop, Int.mul_tmod_left]
    have hin : inB (-1000000) (a.getD k 0) 1000000 = true := inB_true.2 (hba k)
    have ih := eqGo_mul hb hl hba k (stB L b (a.getD k 0) k b.length) (O.set k (a.getD k 0)) (by
      funext n
      rw [stB_co (by omega), congrFun hL n, cut_succ]
      show cv (cut (co a) k) (co b) n + (if k ≤ n then co a k * co b (n - k) else 0) - (if k ≤ n then co a k * co b (n - k) else 0) = _
      omega) (by rw [stB_length]; omega) (by rw [List.length_set]; exact hO) (by omega) (fun i hi2 => by
      rw [set_getD _ _ _ _ (by omega)]
      by_cases e : i = k
      · rw [if_pos e, e]
      · rw [if_neg e]; exact hi i (by omega))
    unfold eqGo
    simp only
    rw [hq, if_pos hr, if_pos hin]
    exact ih
theorem quo_mul {a b : List Int} (va : Vld a) (vb : Vld b) (hza : zeroB a = false) (hzb : zeroB b = false) (vp : Vld (mulZ a b)) : quoR (mulZ a b) b = (a, true) := by
  have hla := List.length_pos_iff.2 va.ne
  have hlb := List.length_pos_iff.2 vb.ne
  have hml := mulZ_length a b
  have hlz := vb.trd.last hzb
  have htop : (mulZ a b).getD (a.length + b.length - 2) 0 = lastZ a * lastZ b := by
    have h := congrFun (mulZ_co a b) ((a.length - 1) + (b.length - 1))
    rw [cv_top (a.length - 1) (b.length - 1) (fun i hi => co_beyond a (by omega)) (fun i hi => co_beyond b (by omega))] at h
    rw [show a.length + b.length - 2 = (a.length - 1) + (b.length - 1) by omega]
    exact h
  have hzp : zeroB (mulZ a b) = false := by
    cases hz : zeroB (mulZ a b)
    · rfl
    · exfalso
      have h1 := zeroB_iff.1 hz
      rw [h1] at hml htop
      simp only [List.length_singleton] at hml
      rw [show a.length + b.length - 2 = 0 by omega] at htop
      have h2 : lastZ a * lastZ b = 0 := htop.symm
      rcases Int.mul_eq_zero.1 h2 with h3 | h3
      · exact va.trd.last hza h3
      · exact hlz h3
  have hv : (validB (mulZ a b) && validB b && !zeroB b) = true := by rw [validB_iff.2 vp, validB_iff.2 vb, hzb]; rfl
  have hN : (mulZ a b).length - b.length + 1 = a.length := by omega
  obtain ⟨L', hL1, hL2⟩ := eqGo_mul vb.ne hlz va.bd a.length (mulZ a b) (List.replicate a.length 0) (by rw [mulZ_co, cut_all (Nat.le_refl _)]) (by omega) (by simp) (Nat.le_refl _) (fun i hi => by
    rw [show a.getD i 0 = 0 from co_beyond a hi]
    simp only [List.getD, List.getElem?_replicate]
    split <;> rfl)
  have hq : quoZ (mulZ a b) b = some a := by
    unfold quoZ
    rw [hzp, if_neg (by simp), if_neg (by omega), hN, hL1]
    simp only
    rw [if_pos (fun i _ => hL2 i)]
  rw [quoR_yes hv, hq]
  show giveF (trimZ a) = _
  rw [va.trd.trimZ, giveF_valid (validB_iff.2 va)]

end Go.Proofs.Ytlnjkjogedbhfaa
