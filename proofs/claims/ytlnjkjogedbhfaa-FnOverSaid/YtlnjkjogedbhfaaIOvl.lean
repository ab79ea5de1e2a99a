/- Over a prime, plain: factors make their whole again, roots are the factors of degree 1, powers follow their rule, common ones divide. Conditions: none (plain). -/
import Derived.Test.YtlnjkjogedbhfaaIFac2
import Derived.Test.YtlnjkjogedbhfaaIEv
namespace Go.Proofs.Ytlnjkjogedbhfaa
open Go Go.RowKit
set_option linter.unusedSimpArgs false
set_option linter.unusedVariables false

/-! Products of factors. -/
def prodL (m : Int) (acc : List Int) : List (List Int) → List Int
  | [] => acc
  | x :: L => prodL m (mulF m acc x) L
theorem co_one : co [1] = mono 0 1 := by
  funext i
  cases i <;> rfl
theorem mulF_one {m : Int} (hm : 0 < m) {a : List Int} (ha : Ovr m a) (h1 : Ovr m [1]) : mulF m a [1] = a := by
  have hl := mulF_len m a [1]
  have hlen := ha.len
  simp only [List.length_singleton] at hl
  have ho := mulF_ovr hm ha h1 (by simp only [List.length_singleton]; omega)
  exact ovr_ext ho.ov ha.ov ho.trd ha.trd ((mulF_eqm m a [1]).trans (fun i => by rw [co_one, cv_comm, cv_one]))
theorem one_ovr {m : Int} (hm : primeB m = true) : Ovr m [1] := (one17 hm).ovr
theorem fs_prod {M : Nat} (hm : primeB (M : Int) = true) {d n : Nat} {p : List Int} {L : List (List Int)} (h : Fs M d n p L) : Mon M p → p.length ≤ 8 → d ≤ 4 → ∀ acc, Ovr M acc → acc.length + p.length ≤ 40 → prodL M acc L = mulF M acc p := by
  have hM := primeB_bd hm
  induction h with
  | @stop d n p h1 =>
    intro hp h8 h4 acc ha hl
    by_cases h2 : 1 < p.length
    · rw [if_pos h2]; rfl
    · have hp1 := hp.ov.trd.1
      have e : p = [1] := mon_one hp (by omega)
      rw [if_neg h2, e, mulF_one (by omega) ha (one_ovr hm)]; rfl
  | @up d n p L h1 h2 h3 ih =>
    intro hp h8 h4 acc ha hl
    exact ih hp h8 (by omega) acc ha hl
  | @hit d n p L h1 h2 h3 h4 ih =>
    intro hp h8 hd acc ha hl
    have hc := cand_mon (n := n) hm (show d ≤ 99 by omega)
    have hq := quo_mon hm hp hc h3
    have he := h3.eqm hm hp hc
    rw [prodL]
    have l1 := mulF_len M acc (cand M d n)
    have hq1 := hq.1.ov.trd.1
    have hc1 := hc.ov.trd.1
    have o1 := mulF_ovr (m := M) (by omega) ha hc.ov (by omega)
    rw [ih hq.1 (by omega) hd _ o1 (by omega)]
    have o2 := mulF_ovr (m := M) (by omega) o1 hq.1.ov (by omega)
    have o3 := mulF_ovr (m := M) (by omega) ha hp.ov (by omega)
    refine ovr_ext o2.ov o3.ov o2.trd o3.trd ?_
    refine (mulF_eqm M _ _).trans ((((mulF_eqm M _ _).cv (Eqm.refl _ _))).trans (Eqm.trans ?_ (mulF_eqm M _ _).symm))
    refine Eqm.trans (fun i => ?_) ((Eqm.refl _ (co acc)).cv he)
    rw [cv_assoc]
    congr 1
    exact cv_congr (fun _ _ => rfl) (fun j _ => cv_comm _ _ _)
  | @miss d n p L h1 h2 h3 h4 ih =>
    intro hp h8 hd acc ha hl
    exact ih hp h8 hd acc ha hl
theorem last_bd {m : Int} {a : List Int} (ha : Ovr m a) (hz : zeroB a = false) : 0 < lastZ a ∧ lastZ a < m := by
  have h1 := ha.trd.last hz
  have h2 : 0 ≤ lastZ a ∧ lastZ a < m := ha.ov (a.length - 1)
  omega
theorem monic_back {M : Nat} (hm : primeB (M : Int) = true) {a : List Int} (ha : Ovr M a) (hz : zeroB a = false) : mulF M [lastZ a] (monicS M a) = a := by
  have hM := primeB_bd hm
  have hb := last_bd ha hz
  have ho := (monic_mon hm ha hz).ov
  have hlen := ha.len
  have o0 := (⟨fun i => by cases i <;> simp <;> omega, ⟨by simp, .inl (by simp)⟩, by simp⟩ : Ovr (M : Int) [lastZ a])
  have o1 := mulF_ovr (m := M) (by omega) o0 ho (by rw [monicS_length]; simp only [List.length_singleton]; omega)
  refine ovr_ext o1.ov ha.ov o1.trd ha.trd ((mulF_eqm M _ _).trans fun i => ?_)
  have e : co [lastZ a] = mono 0 (lastZ a) := by
    funext j
    cases j <;> rfl
  rw [e, cv_const]
  have e2 : co (monicS M a) i = (co a i * invZ (lastZ a) M) % M := by
    unfold monicS
    rw [hz, if_neg (by simp)]
    exact scale_get _ _
  rw [e2, Int.mul_emod, Int.emod_emod, ← Int.mul_emod]
  have h3 := inv_mul hm hb.1 hb.2
  have e3 : lastZ a * (co a i * invZ (lastZ a) M) = co a i * (lastZ a * invZ (lastZ a) M) := by
    rw [Int.mul_left_comm]
  rw [e3, Int.mul_emod, h3, Int.mul_one, Int.emod_emod]

/-! The same up to multiples of a whole. -/
def Bdm (m : Int) (f : Nat → Int) : Prop := ∃ d, ∀ i, d ≤ i → f i % m = 0
theorem Bdm.co (m : Int) (zs : List Int) : Bdm m (co zs) := ⟨zs.length, fun i hi => by rw [co_beyond zs hi]; rfl⟩
theorem Bdm.mono (m c : Int) (k : Nat) : Bdm m (mono k c) := ⟨k + 1, fun i hi => by rw [Go.Proofs.Ytlnjkjogedbhfaa.mono, if_neg (by omega)]; rfl⟩
theorem Bdm.cv {m : Int} {f g : Nat → Int} (hf : Bdm m f) (hg : Bdm m g) : Bdm m (cv f g) := by
  obtain ⟨a, ha⟩ := hf
  obtain ⟨b, hb⟩ := hg
  exact ⟨a + b + 1, fun i hi => cv_beyond_m a b (fun j hj => ha j (by omega)) (fun j hj => hb j (by omega)) (by omega)⟩
theorem Bdm.add {m : Int} {f g : Nat → Int} (hf : Bdm m f) (hg : Bdm m g) : Bdm m (fun i => f i + g i) := by
  obtain ⟨a, ha⟩ := hf
  obtain ⟨b, hb⟩ := hg
  exact ⟨a + b, fun i hi => by rw [Int.add_emod, ha i (by omega), hb i (by omega)]; rfl⟩
theorem Bdm.neg {m : Int} {f : Nat → Int} (hf : Bdm m f) : Bdm m (fun i => - f i) := by
  obtain ⟨a, ha⟩ := hf
  exact ⟨a, fun i hi => by
    have := Int.dvd_of_emod_eq_zero (ha i hi)
    exact Int.emod_eq_zero_of_dvd (Int.dvd_neg.2 this)⟩
def Cg (m : Int) (A f g : Nat → Int) : Prop := ∃ s, Bdm m s ∧ Eqm m f (fun i => g i + cv s A i)
theorem Cg.of_eqm {m : Int} {A f g : Nat → Int} (h : Eqm m f g) : Cg m A f g := ⟨fun _ => 0, ⟨0, fun _ _ => rfl⟩, fun i => by dsimp only; rw [cv_zero_left _ (fun _ _ => rfl), Int.add_zero]; exact h i⟩
theorem Cg.symm {m : Int} {A f g : Nat → Int} (h : Cg m A f g) : Cg m A g f := by
  obtain ⟨s, hs, he⟩ := h
  refine ⟨fun i => - s i, hs.neg, fun i => ?_⟩
  have h1 := emod_sub_congr (he i) (rfl : cv s A i % m = cv s A i % m)
  dsimp only at h1 ⊢
  rw [cv_neg_left, ← Int.sub_eq_add_neg, h1, Int.add_sub_cancel]
theorem Cg.trans {m : Int} {A f g k : Nat → Int} (h : Cg m A f g) (h2 : Cg m A g k) : Cg m A f k := by
  obtain ⟨s, hs, he⟩ := h
  obtain ⟨t, ht, he2⟩ := h2
  refine ⟨fun i => t i + s i, ht.add hs, he.trans fun i => ?_⟩
  dsimp only
  rw [cv_add_left, ← Int.add_assoc]
  exact emod_add_congr (he2 i) rfl
theorem Cg.mul {m : Int} {A f g k : Nat → Int} (h : Cg m A f g) (hk : Bdm m k) : Cg m A (cv k f) (cv k g) := by
  obtain ⟨s, hs, he⟩ := h
  refine ⟨cv k s, hk.cv hs, ((Eqm.refl m k).cv he).trans fun i => ?_⟩
  rw [cv_add_right, cv_assoc]
theorem cvC (f g : Nat → Int) : cv f g = cv g f := funext fun _ => cv_comm _ _ _
theorem cvA (f g h : Nat → Int) : cv (cv f g) h = cv f (cv g h) := funext fun _ => cv_assoc _ _ _ _
theorem cv1 (f : Nat → Int) : cv (mono 0 1) f = f := funext fun _ => cv_one _ _
theorem Cg.both {m : Int} {A f g f2 g2 : Nat → Int} (h : Cg m A f g) (h2 : Cg m A f2 g2) (hb : Bdm m g) (hb2 : Bdm m f2) : Cg m A (cv f f2) (cv g g2) := by
  have h3 := h.mul hb2
  rw [cvC f2 f, cvC f2 g] at h3
  exact h3.trans (h2.mul hb)
/-- Rests are the only ones that are short. -/
theorem cg_short {m : Int} (hm : primeB m = true) {a x y : List Int} (ha : Ovr m a) (hz : zeroB a = false) (hx : Ovr m x) (hy : Ovr m y) (hxl : x.length ≤ a.length - 1) (hyl : y.length ≤ a.length - 1) (h : Cg m (co a) (co x) (co y)) : x = y := by
  obtain ⟨s, ⟨d, hd⟩, he⟩ := h
  have h0 := factor_zero hm ha hz (f := s) (fun j hj => by
    have h1 := he j
    dsimp only at h1
    rw [co_beyond x (by omega), co_beyond y (by omega), Int.zero_add] at h1
    rw [← h1]; rfl) d hd
  refine ovr_ext hx.ov hy.ov hx.trd hy.trd (he.trans fun i => ?_)
  have h2 := cv_eqm_n (m := m) (n := i) (f := s) (f2 := fun _ => 0) (g := co a) (g2 := co a) (fun j _ => by rw [h0 j]; rfl) (fun _ _ => rfl)
  rw [cv_zero_left _ (fun _ _ => rfl)] at h2
  have h3 := emod_add_congr (rfl : co y i % m = co y i % m) h2
  rw [h3, Int.add_zero]
theorem rem_cg {m : Int} (hm : primeB m = true) {a x : List Int} (ha : Ovr m a) (hz : zeroB a = false) (hx : Ovr m x) : Cg m (co a) (co (remF m a x)) (co x) := by
  have h := div_id hm hx ha hz
  refine Cg.symm ⟨co (divF x a m).1, Bdm.co _ _, h.symm.trans fun i => ?_⟩
  show (cv (co (divF x a m).1) (co a) i + co (divF x a m).2 i) % m = (co (remF m a x) i + cv (co (divF x a m).1) (co a) i) % m
  rw [Int.add_comm]; rfl
def pw (f : Nat → Int) : Nat → Nat → Int
  | 0 => mono 0 1
  | k + 1 => cv f (pw f k)
theorem pw_add (f : Nat → Int) (b : Nat) : ∀ a, cv (pw f a) (pw f b) = pw f (a + b)
  | 0 => by rw [pw, cv1, Nat.zero_add]
  | a + 1 => by rw [pw, cvA, pw_add f b a, show a + 1 + b = (a + b) + 1 by omega, pw]
theorem pw_sq (f : Nat → Int) : ∀ k, pw (cv f f) k = pw f (2 * k)
  | 0 => rfl
  | k + 1 => by rw [pw, pw_sq f k, show 2 * (k + 1) = (2 * k + 1) + 1 by omega, pw, pw, cvA]
theorem Bdm.pw {m : Int} {f : Nat → Int} (h : Bdm m f) : ∀ k, Bdm m (pw f k)
  | 0 => Bdm.mono _ _ _
  | k + 1 => h.cv (Bdm.pw h k)
theorem Cg.pw {m : Int} {A f g : Nat → Int} (h : Cg m A f g) (hf : Bdm m f) (hg : Bdm m g) : ∀ k, Cg m A (pw f k) (pw g k)
  | 0 => Cg.of_eqm (Eqm.refl _ _)
  | k + 1 => h.both (Cg.pw h hf hg k) hg (hf.pw k)
theorem pow_cg {m : Int} (hm : primeB m = true) {a : List Int} (ha : Ov17 m a) (hz : zeroB a = false) : ∀ (n p : Nat) (out sq : List Int), p ≤ n → Ov17 m out → Ov17 m sq → out.length ≤ a.length - 1 → 2 ≤ a.length →
    Cg m (co a) (co (powZ m a p out sq)) (cv (co out) (pw (co sq) p)) ∧ (powZ m a p out sq).length ≤ a.length - 1
  | 0, p, out, sq, h, ho, _, hl, _ => by
    obtain rfl : p = 0 := by omega
    rw [powZ_zero, Go.Proofs.Ytlnjkjogedbhfaa.pw, cvC, cv1]
    exact ⟨Cg.of_eqm (Eqm.refl _ _), hl⟩
  | n + 1, p, out, sq, h, ho, hs, hl, h2 => by
    have o2 := mul17 hm hs hs
    have r2 := rem17 hm o2 ha hz
    have c2 : Cg m (co a) (co (remF m a (mulF m sq sq))) (cv (co sq) (co sq)) := (rem_cg hm ha.ovr hz o2).trans (Cg.of_eqm (mulF_eqm m sq sq))
    by_cases h0 : p = 0
    · subst h0
      rw [powZ_zero, Go.Proofs.Ytlnjkjogedbhfaa.pw, cvC, cv1]
      exact ⟨Cg.of_eqm (Eqm.refl _ _), hl⟩
    have c3 := c2.pw (Bdm.co _ _) ((Bdm.co m sq).cv (Bdm.co m sq)) (p / 2)
    rw [pw_sq] at c3
    by_cases h1 : p % 2 = 1
    · rw [powZ_odd h1]
      have o1 := mul17 hm ho hs
      have r1 := rem17 hm o1 ha hz
      have hd := (divF_ovr hm o1 ha.ovr hz).2.2.1
      have hrl : (remF m a (mulF m out sq)).length ≤ a.length - 1 := by unfold remF; omega
      have ih := pow_cg hm ha hz n (p / 2) _ _ (by omega) r1 r2 hrl h2
      refine ⟨ih.1.trans ?_, ih.2⟩
      have c1 : Cg m (co a) (co (remF m a (mulF m out sq))) (cv (co out) (co sq)) := (rem_cg hm ha.ovr hz o1).trans (Cg.of_eqm (mulF_eqm m out sq))
      have c4 := c1.both c3 ((Bdm.co m out).cv (Bdm.co m sq)) ((Bdm.co m _).pw _)
      rw [cvA] at c4
      have e : cv (co sq) (pw (co sq) (2 * (p / 2))) = pw (co sq) p := by
        rw [show p = 2 * (p / 2) + 1 by omega, Go.Proofs.Ytlnjkjogedbhfaa.pw, show (2 * (p / 2) + 1) / 2 = p / 2 by omega]
      rw [e] at c4
      exact c4
    · rw [powZ_even h0 h1]
      have ih := pow_cg hm ha hz n (p / 2) out _ (by omega) ho r2 hl h2
      refine ⟨ih.1.trans ?_, ih.2⟩
      rw [show 2 * (p / 2) = p by omega] at c3
      exact c3.mul (Bdm.co m out)
/-- The rule of powers. -/
theorem pow_rule {m : Int} (hm : primeB m = true) {a x : List Int} (ha : Ov17 m a) (hx : Ov17 m x) (h2 : 2 ≤ a.length) (i j : Nat) :
    remF m a (mulF m (powZ m a i [1] (remF m a x)) (powZ m a j [1] (remF m a x))) = powZ m a (i + j) [1] (remF m a x) := by
  have hz := long_zero h2
  have hr := rem17 hm hx.ovr ha hz
  have h1 := one17 hm
  have P : ∀ k, Cg m (co a) (co (powZ m a k [1] (remF m a x))) (pw (co (remF m a x)) k) ∧ (powZ m a k [1] (remF m a x)).length ≤ a.length - 1 := fun k => by
    have h := pow_cg hm ha hz k k [1] (remF m a x) (Nat.le_refl _) h1 hr (by simp; omega) h2
    rw [co_one, cv1] at h
    exact h
  have O : ∀ k, Ov17 m (powZ m a k [1] (remF m a x)) := fun k => powZ17 hm ha hz k k _ _ (Nat.le_refl _) h1 hr
  have om := mul17 hm (O i) (O j)
  have hd := divF_ovr hm om ha.ovr hz
  have h9 : (remF m a (mulF m (powZ m a i [1] (remF m a x)) (powZ m a j [1] (remF m a x)))).length < a.length ∨ (remF m a (mulF m (powZ m a i [1] (remF m a x)) (powZ m a j [1] (remF m a x)))).length ≤ 1 := hd.2.2.1
  refine cg_short hm ha.ovr hz hd.2.1 (O (i + j)).ovr (by omega) (P (i + j)).2 ?_
  refine ((rem_cg hm ha.ovr hz om).trans (Cg.of_eqm (mulF_eqm m _ _))).trans (Cg.trans ?_ (P (i + j)).1.symm)
  rw [← pw_add]
  exact (P i).1.both (P j).1 ((Bdm.co m _).pw _) (Bdm.co m _)

/-! The common one divides. -/
theorem gcd_dvd {m : Int} (hm : primeB m = true) : ∀ {n : Nat} {a b : List Int}, meas b < n → Ovr m a → Ovr m b → (∃ s, Bdm m s ∧ Eqm m (cv s (co (gcdZ m a b))) (co a)) ∧ (∃ s, Bdm m s ∧ Eqm m (cv s (co (gcdZ m a b))) (co b))
  | 0, _, _, h, _, _ => absurd h (by omega)
  | n + 1, a, b, h, ha, hb => by
    cases hz : zeroB b
    · rw [gcdZ_step hb.ne hz]
      have hd := divF_ovr hm ha hb hz
      have hid := div_id hm ha hb hz
      obtain ⟨⟨s, hs, h1⟩, ⟨t, ht, h2⟩⟩ := gcd_dvd hm (n := n) (by have := divF_rest_length a b m hb.ne hz; omega) hb hd.2.1
      refine ⟨⟨fun i => cv (co (divF a b m).1) s i + t i, ((Bdm.co _ _).cv hs).add ht, Eqm.trans (fun i => ?_) hid⟩, ⟨s, hs, h1⟩⟩
      rw [cv_add_left, cv_assoc]
      exact emod_add_congr ((Eqm.refl m _).cv h1 i) (h2 i)
    · rw [gcdZ_stop hz, zeroB_iff.1 hz]
      exact ⟨⟨mono 0 1, Bdm.mono _ _ _, fun i => by rw [cv1]⟩, ⟨fun _ => 0, ⟨0, fun _ _ => rfl⟩, fun i => by rw [cv_zero_left _ (fun _ _ => rfl), co_zero]⟩⟩
theorem monic_co {m : Int} {a : List Int} (hz : zeroB a = false) : co (monicS m a) = fun i => (co a i * invZ (lastZ a) m) % m := by
  funext i
  unfold monicS
  rw [hz, if_neg (by simp)]
  exact scale_get _ _
/-- Divided by the common one nothing is left. -/
theorem common_divides {m : Int} (hm : primeB m = true) {a b : List Int} (ha : Ovr m a) (hb : Ovr m b) (hz : zeroB (gcdZ m a b) = false) : (divF a (monicS m (gcdZ m a b)) m).2 = [0] := by
  have hM := primeB_bd hm
  have hg := gcdZ_ovr hm (Nat.lt_succ_self _) ha hb
  obtain ⟨⟨s, hs, h1⟩, _⟩ := gcd_dvd hm (Nat.lt_succ_self _) ha hb
  generalize gcdZ m a b = g at *
  have hl := last_bd hg hz
  have hinv := inv_mul hm hl.1 hl.2
  have om : Ovr m (monicS m g) := ⟨monicS_ov hm hg.ov, monicS_trd hm hg.ov hg.trd, by rw [monicS_length]; exact hg.len⟩
  have hmz : zeroB (monicS m g) = false := by
    cases hx : zeroB (monicS m g)
    · rfl
    · exfalso
      have h2 := scale_last hm hg.ov hg.trd hz
      have h3 := zeroB_iff.1 hx
      have e : monicS m g = scaleZ (invZ (lastZ g) m) m g := by unfold monicS; rw [hz]; rfl
      have hgl : g.length = 1 := by have := congrArg List.length h3; rwa [monicS_length] at this
      rw [← e, h3, hgl] at h2
      simp at h2
  obtain ⟨d, hd⟩ := (Bdm.cv (Bdm.mono m (lastZ g) 0) hs)
  refine (div_of_mul hm ha om hmz (s := cv (mono 0 (lastZ g)) s) (d := d) hd ?_).1
  refine Eqm.trans ?_ h1
  intro i
  rw [cvA, cv_const, ← cv_smul_right]
  refine (Eqm.refl m s).cv (fun j => ?_) i
  rw [monic_co hz, Int.mul_emod, Int.emod_emod, ← Int.mul_emod]
  have e3 : lastZ g * (co g j * invZ (lastZ g) m) = co g j * (lastZ g * invZ (lastZ g) m) := Int.mul_left_comm _ _ _
  rw [e3, Int.mul_emod, hinv, Int.mul_one, Int.emod_emod]

/-! Roots. -/
theorem evs_eqm {m : Int} {f g : Nat → Int} {x y : Int} (h : Eqm m f g) (hx : x % m = y % m) : ∀ k, evs f x k % m = evs g y k % m
  | 0 => rfl
  | k + 1 => by
    rw [evs, evs]
    have hp : ∀ k : Nat, x ^ k % m = y ^ k % m := fun k => by
      induction k with
      | zero => rw [Int.pow_zero, Int.pow_zero]
      | succ k ih => rw [Int.pow_succ, Int.pow_succ]; exact emod_mul_congr ih hx
    exact emod_add_congr (evs_eqm h hx k) (emod_mul_congr (h k) (hp k))
theorem ev_eqm {m : Int} {a b : List Int} {x : Int} (h : Eqm m (co a) (co b)) : ev a x % m = ev b x % m := by
  rw [← ev_len (zs := a) (n := max a.length b.length) (by omega), ← ev_len (zs := b) (n := max a.length b.length) (by omega)]
  exact evs_eqm h rfl _
theorem ev_arg {m : Int} {a : List Int} {x y : Int} (h : x % m = y % m) : ev a x % m = ev a y % m := evs_eqm (Eqm.refl _ _) h _
/-- A number whose value is zero. -/
def rt (M : Nat) (p : List Int) (n : Nat) : Prop := ev p (-(n : Int)) % M = 0
instance (M : Nat) (p : List Int) (n : Nat) : Decidable (rt M p n) := inferInstanceAs (Decidable (_ = _))
theorem prime_zero {m x y : Int} (hm : primeB m = true) (h : (x * y) % m = 0) : x % m = 0 ∨ y % m = 0 := by
  have hM := primeB_bd hm
  by_cases hx : x % m = 0
  · exact .inl hx
  · right
    have h1 := Int.emod_nonneg x (show m ≠ 0 by omega)
    have h2 := Int.emod_lt_of_pos x (show 0 < m by omega)
    have h3 := inv_mul (m := m) (x := x % m) hm (by omega) h2
    have e : y % m = (invZ (x % m) m * (x * y)) % m := by
      have e1 : invZ (x % m) m * (x * y) = (x * invZ (x % m) m) * y := by rw [← Int.mul_assoc, Int.mul_comm (invZ (x % m) m) x]
      have e2 : (x * invZ (x % m) m) % m = 1 := by
        rw [Int.mul_emod] at h3 ⊢
        rwa [Int.emod_emod] at h3
      rw [e1, Int.mul_emod, e2, Int.one_mul, Int.emod_emod]
    rw [e, Int.mul_emod, h, Int.mul_zero]; rfl
theorem ev_cand1 (M n : Nat) (hn : n < M) (x : Int) : ev (cand M 1 n) x = n + x := by
  have e : cand M 1 n = [(n : Int), 1] := by
    simp [cand, dg]
    exact Int.emod_eq_of_lt (by omega) (by omega)
  rw [e]
  simp [ev, evs, co, Int.pow_succ]
theorem rt_cand {M n k : Nat} (hn : n < M) (hk : k < M) : rt M (cand M 1 n) k ↔ k = n := by
  unfold rt
  rw [ev_cand1 M n hn]
  constructor
  · intro h
    obtain ⟨c, hc⟩ := Int.dvd_of_emod_eq_zero h
    have h1 : (n : Int) - k < M * 1 := by omega
    have h2 : (M : Int) * (-1) < (n : Int) - k := by omega
    have hc' : (n : Int) - k = M * c := by omega
    rw [hc'] at h1 h2
    have h3 := Int.lt_of_mul_lt_mul_left h1 (by omega)
    have h4 := Int.lt_of_mul_lt_mul_left h2 (by omega)
    have : c = 0 := by omega
    subst this
    omega
  · rintro rfl
    rw [Int.add_right_neg]; rfl
theorem dv_rt {M : Nat} (hm : primeB (M : Int) = true) {p : List Int} (hp : Mon M p) {n : Nat} (hn : n < M) : Dv M p (cand M 1 n) ↔ rt M p n := by
  have hM := primeB_bd hm
  have hc := cand_mon (n := n) hm (show 1 ≤ 99 by omega)
  have hc0 : ev (cand M 1 n) (-(n : Int)) = 0 := by rw [ev_cand1 M n hn]; omega
  have hid := div_id hm hp.ov hc.ov hc.zero
  have hd := divF_ovr hm hp.ov hc.ov hc.zero
  have hev : ev p (-(n : Int)) % M = ev (divF p (cand M 1 n) M).2 (-(n : Int)) % M := by
    have e1 : Eqm M (co p) (fun i => cv (co (divF p (cand M 1 n) M).1) (co (cand M 1 n)) i + co (divF p (cand M 1 n) M).2 i) := hid.symm
    generalize (divF p (cand M 1 n) M).1 = q at *
    generalize (divF p (cand M 1 n) M).2 = r at *
    have h1 := evs_eqm (x := -(n : Int)) (y := -(n : Int)) e1 rfl (p.length + q.length + (cand M 1 n).length + r.length)
    rw [ev_len (by omega), evs_add, evs_cv (fun i hi => co_beyond q hi) (fun i hi => co_beyond _ hi) (by omega), ev_len (zs := r) (by omega)] at h1
    have h2 : evs (co (cand M 1 n)) (-(n : Int)) (cand M 1 n).length = 0 := hc0
    rw [h2, Int.mul_zero, Int.zero_add] at h1
    exact h1
  have hl : (divF p (cand M 1 n) M).2.length = 1 := by
    have h1 := hd.2.2.1
    rw [cand_length] at h1
    have := hd.2.1.trd.1
    omega
  unfold rt Dv
  rw [hev]
  have hov := hd.2.1.ov 0
  match hr : (divF p (cand M 1 n) M).2, hl with
  | [z], _ =>
    rw [hr] at hov
    have e : ev [z] (-(n : Int)) = z := by simp [ev, evs, co]
    rw [e]
    simp at hov
    constructor
    · intro h
      simp at h
      rw [h]; rfl
    · intro h
      rw [Int.emod_eq_of_lt hov.1 hov.2] at h
      rw [h]
theorem rt_quo {M : Nat} (hm : primeB (M : Int) = true) {p : List Int} (hp : Mon M p) {n k : Nat} (hn : n < M) (hk : k < M) (hne : k ≠ n) (h : Dv M p (cand M 1 n)) : rt M p k ↔ rt M (quo M p (cand M 1 n)) k := by
  have hM := primeB_bd hm
  have hc := cand_mon (n := n) hm (show 1 ≤ 99 by omega)
  have he := h.eqm hm hp hc
  have hev : ev p (-(k : Int)) % M = (ev (quo M p (cand M 1 n)) (-(k : Int)) * ev (cand M 1 n) (-(k : Int))) % M := by
    generalize quo M p (cand M 1 n) = q at *
    have h1 := evs_eqm (x := -(k : Int)) (y := -(k : Int)) he rfl (p.length + q.length + (cand M 1 n).length)
    rw [ev_len (zs := p) (by omega), evs_cv (fun i hi => co_beyond q hi) (fun i hi => co_beyond _ hi) (by omega)] at h1
    exact h1.symm
  unfold rt
  rw [hev]
  constructor
  · intro h1
    rcases prime_zero hm h1 with h2 | h2
    · exact h2
    · exact absurd ((rt_cand hn hk).1 h2) hne
  · intro h1
    rw [Int.mul_emod, h1, Int.zero_mul]; rfl
/-- How many are roots, from n on. -/
def rc (M : Nat) (p : List Int) : Nat → Nat → Nat
  | _, 0 => 0
  | n, k + 1 => (if rt M p n then 1 else 0) + rc M p (n + 1) k
theorem rc_congr {M : Nat} {p q : List Int} : ∀ (k n : Nat), (∀ j, n ≤ j → j < n + k → (rt M p j ↔ rt M q j)) → rc M p n k = rc M q n k
  | 0, _, _ => rfl
  | k + 1, n, h => by
    rw [rc, rc, rc_congr k (n + 1) (fun j h1 h2 => h j (by omega) (by omega))]
    have h0 := h n (Nat.le_refl _) (by omega)
    by_cases hp : rt M p n
    · rw [if_pos hp, if_pos (h0.1 hp)]
    · rw [if_neg hp, if_neg (fun hq => hp (h0.2 hq))]
theorem rc_none {M : Nat} {p : List Int} : ∀ (k n : Nat), (∀ j, n ≤ j → j < n + k → ¬ rt M p j) → rc M p n k = 0
  | 0, _, _ => rfl
  | k + 1, n, h => by rw [rc, if_neg (h n (Nat.le_refl _) (by omega)), rc_none k (n + 1) (fun j h1 h2 => h j (by omega) (by omega))]
theorem rc_one {M : Nat} {p : List Int} {x : Nat} : ∀ (k n : Nat), (∀ j, n ≤ j → j < n + k → (rt M p j ↔ j = x)) → n ≤ x → x < n + k → rc M p n k = 1
  | 0, n, _, h1, h2 => absurd h2 (by omega)
  | k + 1, n, h, h1, h2 => by
    rw [rc]
    by_cases e : n = x
    · rw [if_pos ((h n (Nat.le_refl _) (by omega)).2 e), rc_none k (n + 1) (fun j h3 h4 h5 => by have := (h j (by omega) (by omega)).1 h5; omega)]
    · rw [if_neg (fun h3 => e ((h n (Nat.le_refl _) (by omega)).1 h3)), rc_one k (n + 1) (fun j h3 h4 => h j (by omega) (by omega)) (by omega) (by omega)]
/-- How many factors of degree 1 are not the one before. -/
def linGo (prev : Option (List Int)) : List (List Int) → Nat
  | [] => 0
  | x :: L => (if x.length = 2 ∧ prev ≠ some x then 1 else 0) + linGo (some x) L
theorem linGo_long : ∀ (L : List (List Int)) (prev : Option (List Int)), (∀ x ∈ L, x.length ≠ 2) → linGo prev L = 0
  | [], _, _ => rfl
  | x :: L, prev, h => by rw [linGo, if_neg (fun h2 => h x (by simp) h2.1), linGo_long L _ (fun y hy => h y (by simp [hy]))]
theorem cand_inj {M n k : Nat} (hn : n < M) (hk : k < M) (h : cand M 1 n = cand M 1 k) : n = k := by
  have h1 := congrArg (fun zs : List Int => zs.getD 0 0) h
  simp only [cand_get, Nat.lt_irrefl, if_true, Nat.zero_lt_one] at h1
  unfold dg at h1
  simp only [Nat.pow_zero, Nat.div_one, Nat.mod_eq_of_lt hn, Nat.mod_eq_of_lt hk] at h1
  omega
theorem lin_rc {M : Nat} (hm : primeB (M : Int) = true) {d n : Nat} {p : List Int} {L : List (List Int)} (h : Fs M d n p L) : d = 1 → Mon M p → p.length ≤ 8 → n ≤ M → Ahead M 1 n p →
    (∀ prev, (∀ y, prev = some y → ∃ k, k < n ∧ y = cand M 1 k) → linGo prev L = rc M p n (M - n)) ∧ (n < M → linGo (some (cand M 1 n)) L = rc M p (n + 1) (M - (n + 1))) := by
  have hM := primeB_bd hm
  induction h with
  | @stop d n p h1 =>
    rintro rfl hp h8 hn ha
    have hp1 := hp.ov.trd.1
    by_cases hl : 1 < p.length
    · have hl2 : p.length = 2 := by omega
      rw [if_pos hl]
      obtain ⟨k, hk, he⟩ := mon_cand hp
      rw [hl2] at hk he
      simp only [Nat.pow_one, Nat.reduceSub] at hk he
      have hkn : n ≤ k := by
        rcases Nat.lt_or_ge k n with h2 | h2
        · exfalso
          refine ha 1 k (Nat.le_refl _) (by simpa using hk) (.inr ⟨rfl, h2⟩) ?_
          rw [← he]
          exact dv_self hm hp
        · exact h2
      have hrt : ∀ j, j < M → (rt M p j ↔ j = k) := fun j hj => by rw [he]; exact rt_cand hk hj
      constructor
      · intro prev hpv
        have e1 : ¬ prev = some p := fun h2 => by
          obtain ⟨k0, hk0, he0⟩ := hpv p h2
          have := cand_inj hk (show k0 < M by omega) (he.symm.trans he0)
          omega
        rw [linGo, if_pos ⟨hl2, e1⟩, linGo, rc_one (x := k) (M - n) n (fun j h3 h4 => hrt j (by omega)) hkn (by omega)]
      · intro hnM
        by_cases e : n = k
        · subst e
          rw [linGo, if_neg (fun h2 => h2.2 (by rw [← he])), linGo, rc_none _ _ (fun j h3 h4 h5 => by have := (hrt j (by omega)).1 h5; omega)]
        · rw [linGo, if_pos ⟨hl2, fun h2 => e (by
            simp only [Option.some.injEq] at h2
            exact cand_inj hnM hk (h2.trans he))⟩, linGo, rc_one (x := k) _ _ (fun j h3 h4 => hrt j (by omega)) (by omega) (by omega)]
    · rw [if_neg hl]
      have e : p = [1] := mon_one hp (by omega)
      have hno : ∀ j, ¬ rt M p j := fun j h2 => by
        unfold rt at h2
        rw [e] at h2
        have e1 : ev [1] (-(j : Int)) = 1 := by simp [ev, evs, co]
        rw [e1, Int.emod_eq_of_lt (by omega) (by omega)] at h2
        omega
      exact ⟨fun prev _ => by rw [linGo, rc_none _ _ (fun j _ _ => hno j)], fun _ => by rw [linGo, rc_none _ _ (fun j _ _ => hno j)]⟩
  | @up d n p L h1 h2 h3 ih =>
    rintro rfl hp h8 hn ha
    simp only [Nat.pow_one] at h2
    subst h2
    have ha2 : Ahead n 2 0 p := by
      have h4 : Ahead n 1 (n ^ 1) p := by simpa using ha
      exact h4.up
    have ho := (fs_ord hm h3 hp h8 (by omega) (by omega) (Nat.zero_le _) ha2).2
    have hlong : ∀ x ∈ L, x.length ≠ 2 := fun x hx => by
      obtain ⟨d', n', he, _, h5⟩ := ho x hx
      rw [he, cand_length]
      omega
    refine ⟨fun prev _ => ?_, fun h => absurd h (by omega)⟩
    rw [linGo_long L prev hlong, Nat.sub_self, rc]
  | @hit d n p L h1 h2 h3 h4 ih =>
    rintro rfl hp h8 hn ha
    simp only [Nat.pow_one] at h2
    have hc := cand_mon (n := n) hm (show 1 ≤ 99 by omega)
    have hq := quo_mon hm hp hc h3
    rw [cand_length] at hq
    have hi := (ih rfl hq.1 (by omega) hn (ha.quo hm hp h8 hc h3)).2 h2
    have hcg : rc M (quo M p (cand M 1 n)) (n + 1) (M - (n + 1)) = rc M p (n + 1) (M - (n + 1)) := (rc_congr _ _ fun j h5 h6 => rt_quo hm hp h2 (by omega) (by omega) h3).symm
    have hrt : rt M p n := (dv_rt hm hp h2).1 h3
    have e : rc M p n (M - n) = 1 + rc M p (n + 1) (M - (n + 1)) := by
      rw [show M - n = (M - (n + 1)) + 1 by omega, rc, if_pos hrt]
    constructor
    · intro prev hpv
      rw [linGo, if_pos ⟨by rw [cand_length], fun h5 => by
        obtain ⟨k, hk, he⟩ := hpv _ h5
        have := cand_inj h2 (show k < M by omega) he
        omega⟩, hi, hcg, e]
    · intro _
      rw [linGo, if_neg (fun h5 => h5.2 rfl), hi, hcg, Nat.zero_add]
  | @miss d n p L h1 h2 h3 h4 ih =>
    rintro rfl hp h8 hn ha
    simp only [Nat.pow_one] at h2
    have hi := (ih rfl hp h8 (by omega) (ha.next h3)).1
    have hrt : ¬ rt M p n := fun h5 => h3 ((dv_rt hm hp h2).2 h5)
    constructor
    · intro prev hpv
      rw [hi prev (fun y hy => by obtain ⟨k, hk, he⟩ := hpv y hy; exact ⟨k, by omega, he⟩), show M - n = (M - (n + 1)) + 1 by omega, rc, if_neg hrt, Nat.zero_add]
    · intro _
      exact hi _ (fun y hy => ⟨n, by omega, by simpa using hy.symm⟩)
/-- The law's count, by places. -/
def linE (L : List (List Int)) (i : Nat) : Nat := if (L.getD i []).length = 2 ∧ (i = 0 ∨ L.getD i [] ≠ L.getD (i - 1) []) then 1 else 0
def linU (L : List (List Int)) : Nat → Nat
  | 0 => 0
  | k + 1 => linU L k + linE L k
theorem linU_go : ∀ (L pre : List (List Int)), linU (pre ++ L) (pre.length + L.length) = linU (pre ++ L) pre.length + linGo pre.getLast? L
  | [], pre => by simp [linGo]
  | x :: L, pre => by
    have ih := linU_go L (pre ++ [x])
    rw [List.append_assoc, List.singleton_append, List.length_append, List.length_singleton] at ih
    rw [List.length_cons, show pre.length + (L.length + 1) = pre.length + 1 + L.length by omega, ih, linU, linGo, Nat.add_assoc]
    congr 1
    have hgl : (pre ++ [x]).getLast? = some x := by simp
    rw [hgl]
    congr 1
    unfold linE
    have e1 : (pre ++ x :: L).getD pre.length [] = x := by simp [List.getD]
    rw [e1]
    have e2 : (pre.length = 0 ∨ x ≠ (pre ++ x :: L).getD (pre.length - 1) []) ↔ pre.getLast? ≠ some x := by
      rcases Nat.eq_zero_or_pos pre.length with h0 | h0
      · have := List.eq_nil_of_length_eq_zero h0
        subst this
        simp
      · have e3 : (pre ++ x :: L).getD (pre.length - 1) [] = pre.getD (pre.length - 1) [] := by
          simp only [List.getD]; rw [List.getElem?_append_left (by omega)]
        rw [e3, List.getLast?_eq_getElem?]
        simp only [List.getD]
        rw [List.getElem?_eq_getElem (by omega)]
        simp only [Option.getD_some, ne_eq, Option.some.injEq]
        constructor
        · rintro (h | h)
          · omega
          · exact fun h2 => h h2.symm
        · intro h
          exact .inr (fun h2 => h h2.symm)
    by_cases h : x.length = 2 ∧ pre.getLast? ≠ some x
    · rw [if_pos h, if_pos ⟨h.1, e2.2 h.2⟩]
    · rw [if_neg h, if_neg (fun h2 => h ⟨h2.1, e2.1 h2.2⟩)]
theorem linU_all (L : List (List Int)) : linU L L.length = linGo none L := by
  have := linU_go L []
  simpa [linU] using this
/-- How many are roots, upward. -/
def cx (M : Nat) (a : List Int) : Nat → Nat
  | 0 => 0
  | k + 1 => cx M a k + if ev a (k : Int) % M = 0 then 1 else 0
theorem rt_monic {M : Nat} (hm : primeB (M : Int) = true) {a : List Int} (ha : Ovr M a) (hz : zeroB a = false) {n k : Nat} (hk : (k : Int) % M = (-(n : Int)) % M) : rt M (monicS M a) n ↔ ev a (k : Int) % M = 0 := by
  have hM := primeB_bd hm
  have hb := last_bd ha hz
  unfold rt
  have e1 : ev a (k : Int) % M = ev a (-(n : Int)) % M := ev_arg hk
  have e2 : ev a (-(n : Int)) % M = (lastZ a * ev (monicS M a) (-(n : Int))) % M := by
    have h1 := mulF_eqm (M : Int) [lastZ a] (monicS M a)
    rw [monic_back hm ha hz] at h1
    have h2 := evs_eqm (x := -(n : Int)) (y := -(n : Int)) h1 rfl (a.length + 1)
    rw [ev_len (by omega), evs_cv (na := 1) (nb := a.length) (fun i hi => co_beyond _ (by simpa using hi)) (fun i hi => co_beyond _ (by rw [monicS_length]; exact hi)) (by omega)] at h2
    have e3 : evs (co [lastZ a]) (-(n : Int)) 1 = lastZ a := by simp [evs, co]
    have e4 : evs (co (monicS M a)) (-(n : Int)) a.length = ev (monicS M a) (-(n : Int)) := ev_len (by rw [monicS_length]; exact Nat.le_refl _)
    rw [e3, e4] at h2
    exact h2
  rw [e1, e2]
  constructor
  · intro h
    rw [Int.mul_emod, h, Int.mul_zero]; rfl
  · intro h
    rcases prime_zero hm h with h3 | h3
    · rw [Int.emod_eq_of_lt (by omega) hb.2] at h3
      omega
    · exact h3
theorem rc_cx {M : Nat} (hM : M = 2 ∨ M = 3 ∨ M = 5 ∨ M = 7) {a : List Int} (ha : Ovr M a) (hz : zeroB a = false) : rc M (monicS M a) 0 M = cx M a M := by
  have hm : primeB (M : Int) = true := primeB_iff.2 (by omega)
  have h : ∀ n k : Nat, (k : Int) % M = (-(n : Int)) % M → (if rt M (monicS M a) n then 1 else 0 : Nat) = if ev a (k : Int) % M = 0 then 1 else 0 := fun n k hk => by
    have h1 := rt_monic hm ha hz hk
    by_cases h2 : rt M (monicS M a) n
    · rw [if_pos h2, if_pos (h1.1 h2)]
    · rw [if_neg h2, if_neg (fun h3 => h2 (h1.2 h3))]
  rcases hM with rfl | rfl | rfl | rfl
  · simp only [rc, cx, h 0 0 (by decide), h (0 + 1) 1 (by decide)]
    omega
  · simp only [rc, cx, h 0 0 (by decide), h (0 + 1) 2 (by decide), h (0 + 1 + 1) 1 (by decide)]
    omega
  · simp only [rc, cx, h 0 0 (by decide), h (0 + 1) 4 (by decide), h (0 + 1 + 1) 3 (by decide), h (0 + 1 + 1 + 1) 2 (by decide), h (0 + 1 + 1 + 1 + 1) 1 (by decide)]
    omega
  · simp only [rc, cx, h 0 0 (by decide), h (0 + 1) 6 (by decide), h (0 + 1 + 1) 5 (by decide), h (0 + 1 + 1 + 1) 4 (by decide), h (0 + 1 + 1 + 1 + 1) 3 (by decide), h (0 + 1 + 1 + 1 + 1 + 1) 2 (by decide), h (0 + 1 + 1 + 1 + 1 + 1 + 1) 1 (by decide)]
    omega
/-- As many different factors of degree 1 as roots. -/
theorem lin_roots {M : Nat} (hM : M = 2 ∨ M = 3 ∨ M = 5 ∨ M = 7) {a : List Int} (ha : Ovr M a) (hz : zeroB a = false) (hl : a.length ≤ 8) {L : List (List Int)} (h : Fs M 1 0 (monicS M a) L) : linU L L.length = cx M a M := by
  have hm : primeB (M : Int) = true := primeB_iff.2 (by omega)
  have h1 := (lin_rc hm h rfl (monic_mon hm ha hz) (by rw [monicS_length]; exact hl) (Nat.zero_le _) (ahead_start M _)).1 none (by simp)
  rw [linU_all, h1, Nat.sub_zero, rc_cx hM ha hz]
/-- The factors make the whole but its last term. -/
theorem prod_all {M : Nat} (hm : primeB (M : Int) = true) {a : List Int} (ha : Ovr M a) (hz : zeroB a = false) (hl : a.length ≤ 8) {L : List (List Int)} (h : Fs M 1 0 (monicS M a) L) : prodL M [lastZ a] L = a := by
  have hM := primeB_bd hm
  have hb := last_bd ha hz
  have o0 := (⟨fun i => by cases i <;> simp <;> omega, ⟨by simp, .inl (by simp)⟩, by simp⟩ : Ovr (M : Int) [lastZ a])
  rw [fs_prod hm h (monic_mon hm ha hz) (by rw [monicS_length]; exact hl) (by omega) _ o0 (by rw [monicS_length]; simp; omega), monic_back hm ha hz]

end Go.Proofs.Ytlnjkjogedbhfaa
