/- Lifting two factors, plain: sums over a prime, Euclid's cofactors, the lifted ones. Conditions: none (plain). -/
import Derived.Test.YtlnjkjogedbhfaaIDiv
namespace Go.Proofs.Ytlnjkjogedbhfaa
open Go Go.RowKit
set_option linter.unusedSimpArgs false
set_option linter.unusedVariables false

theorem buildZ_co {E : Nat → Int} {k : Nat} (h : ∀ i, k ≤ i → E i = 0) : co (buildZ E k) = E := by
  funext i
  show (buildZ E k).getD i 0 = E i
  rw [buildZ_get]
  split
  · rfl
  · exact (h i (by omega)).symm
theorem buildZ_ov {m : Int} (hm : 0 < m) (E : Nat → Int) (k : Nat) : OvI m (buildZ (fun i => E i % m) k) := fun i => by
  rw [buildZ_get]
  split
  · exact ⟨Int.emod_nonneg _ (by omega), Int.emod_lt_of_pos _ hm⟩
  · constructor <;> omega
/-- A sum over m, and a difference. -/
def sumF (m : Int) (a b : List Int) : List Int := trimZ (buildZ (fun k => (a.getD k 0 + b.getD k 0) % m) (max a.length b.length))
def subF (m : Int) (a b : List Int) : List Int := trimZ (buildZ (fun k => (a.getD k 0 - b.getD k 0) % m) (max a.length b.length))
theorem sumF_eqm (m : Int) (a b : List Int) : Eqm m (co (sumF m a b)) (fun i => co a i + co b i) := fun i => by
  rw [sumF, trimZ_co, buildZ_co]
  · rw [Int.emod_emod]; rfl
  · intro i hi
    have h1 : a.getD i 0 = 0 := co_beyond a (by omega)
    have h2 : b.getD i 0 = 0 := co_beyond b (by omega)
    rw [h1, h2]; simp
theorem subF_eqm (m : Int) (a b : List Int) : Eqm m (co (subF m a b)) (fun i => co a i - co b i) := fun i => by
  rw [subF, trimZ_co, buildZ_co]
  · rw [Int.emod_emod]; rfl
  · intro i hi
    have h1 : a.getD i 0 = 0 := co_beyond a (by omega)
    have h2 : b.getD i 0 = 0 := co_beyond b (by omega)
    rw [h1, h2]; simp
theorem build_ne {E : Nat → Int} {k : Nat} (h : 0 < k) : buildZ E k ≠ [] := List.ne_nil_of_length_pos (by rw [buildZ_length]; exact h)
theorem trimZ_len_le (zs : List Int) : (trimZ zs).length ≤ zs.length := by rw [trimZ_length]; exact trimN_le zs
theorem sumF_len (m : Int) (a b : List Int) : (sumF m a b).length ≤ max a.length b.length := by
  have := trimZ_len_le (buildZ (fun k => (a.getD k 0 + b.getD k 0) % m) (max a.length b.length))
  rw [buildZ_length] at this
  exact this
theorem subF_len (m : Int) (a b : List Int) : (subF m a b).length ≤ max a.length b.length := by
  have := trimZ_len_le (buildZ (fun k => (a.getD k 0 - b.getD k 0) % m) (max a.length b.length))
  rw [buildZ_length] at this
  exact this
theorem sumF_ovr {m : Int} (hm : 0 < m) {a b : List Int} (ha : Ovr m a) (hb : Ovr m b) : Ovr m (sumF m a b) :=
  ⟨trimZ_ov (buildZ_ov hm _ _), trimZ_trd (build_ne (by have := ha.trd.1; omega)), by have := sumF_len m a b; have := ha.len; have := hb.len; omega⟩
theorem subF_ovr {m : Int} (hm : 0 < m) {a b : List Int} (ha : Ovr m a) (hb : Ovr m b) : Ovr m (subF m a b) :=
  ⟨trimZ_ov (buildZ_ov hm _ _), trimZ_trd (build_ne (by have := ha.trd.1; omega)), by have := subF_len m a b; have := ha.len; have := hb.len; omega⟩
theorem cv_swap (A B C : Nat → Int) (n : Nat) : cv (cv A B) C n = cv (cv A C) B n := by
  rw [cv_assoc, cv_assoc]
  exact cv_congr (fun _ _ => rfl) (fun i _ => cv_comm _ _ _)
theorem cv_neg1 {m : Int} (f : Nat → Int) : Eqm m (cv (mono 0 (m - 1)) f) (fun i => - f i) := fun i => by
  rw [cv_const]
  have e : (m - 1) * f i = - f i + m * f i := by rw [Int.sub_mul, Int.one_mul]; omega
  rw [e, Int.add_mul_emod_self_left]
theorem co_single (c : Int) : co [c] = mono 0 c := by
  funext i
  cases i <;> rfl
theorem mulF_comm {m : Int} (hm : 0 < m) {a b : List Int} (ha : Ovr m a) (hb : Ovr m b) (hl : a.length + b.length ≤ 101) : mulF m a b = mulF m b a := by
  have h1 := mulF_ovr hm ha hb hl
  have h2 := mulF_ovr hm hb ha (by omega)
  exact ovr_ext h1.ov h2.ov h1.trd h2.trd ((mulF_eqm m a b).trans (Eqm.trans (fun i => by rw [cv_comm]) (mulF_eqm m b a).symm))
theorem single_ovr {m c : Int} (h : 0 ≤ c ∧ c < m) (hm : 0 < m) : Ovr m [c] := ⟨fun i => by cases i <;> simp <;> omega, ⟨by simp, .inl (by simp)⟩, by simp⟩
/-- The reference's way: minus one times the quotient, times, and a sum. -/
theorem sum_minus {m : Int} (hm : 0 < m) {s q u : List Int} (hs : Ovr m s) (hq : Ovr m q) (hu : Ovr m u) (hl : q.length + u.length ≤ 100) : sumF m s (mulF m (mulF m [m - 1] q) u) = subF m s (mulF m q u) := by
  have h0 := single_ovr (m := m) (c := m - 1) (by omega) hm
  have l1 := mulF_len m [m - 1] q
  have hq1 := hq.trd.1
  simp only [List.length_singleton] at l1
  have o1 := mulF_ovr hm h0 hq (by simp only [List.length_singleton]; omega)
  have o2 := mulF_ovr hm o1 hu (by omega)
  have o3 := mulF_ovr hm hq hu (by omega)
  have o4 := sumF_ovr hm hs o2
  have o5 := subF_ovr hm hs o3
  refine ovr_ext o4.ov o5.ov o4.trd o5.trd ((sumF_eqm m _ _).trans (Eqm.trans ?_ (subF_eqm m _ _).symm))
  have e1 : Eqm m (co (mulF m (mulF m [m - 1] q) u)) (fun i => - co (mulF m q u) i) := by
    refine (mulF_eqm m _ _).trans (((mulF_eqm m _ _).cv (Eqm.refl m _)).trans ?_)
    rw [co_single]
    refine ((cv_neg1 (co q)).cv (Eqm.refl m _)).trans (fun i => ?_)
    rw [cv_neg_left]
    have h1 := mulF_eqm m q u i
    have h2 := emod_sub_congr (m := m) (a := 0) (b := 0) rfl h1
    simp only [Int.zero_sub] at h2
    exact h2.symm
  intro i
  have h1 := e1 i
  have h2 := emod_add_congr (m := m) (a := co s i) (b := co s i) rfl h1
  simp only at h2
  rw [h2]
  congr 1

/-- Euclid with both cofactors: what is left at the end, and its two. -/
def bezZ (m : Int) (a b s u t v : List Int) : List Int × List Int × List Int :=
  if h : b ≠ [] ∧ zeroB b = false then bezZ m b (divF a b m).2 u (subF m s (mulF m (divF a b m).1 u)) v (subF m t (mulF m (divF a b m).1 v)) else (a, s, t)
  termination_by meas b
  decreasing_by exact divF_rest_length a b m h.1 h.2
theorem bezZ_step {m : Int} {a b s u t v : List Int} (hb : b ≠ []) (hz : zeroB b = false) : bezZ m a b s u t v = bezZ m b (divF a b m).2 u (subF m s (mulF m (divF a b m).1 u)) v (subF m t (mulF m (divF a b m).1 v)) := by
  rw [bezZ, dif_pos ⟨hb, hz⟩]
theorem bezZ_stop {m : Int} {a b s u t v : List Int} (hz : zeroB b = true) : bezZ m a b s u t v = (a, s, t) := by
  rw [bezZ, dif_neg (by rw [hz]; simp)]
/-- What the loop keeps. -/
structure BezI (m : Int) (C : Nat) (a b s u t v : List Int) : Prop where
  oa : Ovr m a
  ob : Ovr m b
  os : Ovr m s
  ou : Ovr m u
  ot : Ovr m t
  ov : Ovr m v
  ls : s.length + max a.length b.length ≤ C
  lu : u.length + max a.length b.length ≤ C
  lt : t.length + max a.length b.length ≤ C
  lv : v.length + max a.length b.length ≤ C
theorem quot_len {a b : List Int} {m : Int} (hm : primeB m = true) (ha : Ovr m a) (hb : Ovr m b) (hz : zeroB b = false) : (divF a b m).1.length ≤ max 1 (a.length + 1 - b.length) := by
  unfold divF
  split
  · simp; omega
  · rename_i hab
    have hl := divLO_left hm ha.ov hb.ov hb.ne (hb.trd.last hz) (by omega)
    have h2 := trimZ_len_le (divLO a b m).2
    simp only
    omega
theorem quot_short {a b : List Int} {m : Int} (h : a.length < b.length) : (divF a b m).1 = [0] ∧ (divF a b m).2 = a := by
  unfold divF; rw [if_pos h]; exact ⟨rfl, rfl⟩
theorem BezI.qlen {m : Int} {C : Nat} {a b s u t v : List Int} (hm : primeB m = true) (h : BezI m C a b s u t v) (hz : zeroB b = false) (hC : C ≤ 90) :
    (divF a b m).1.length + max u.length v.length + max b.length (divF a b m).2.length ≤ C + 1 ∧ (divF a b m).2.length ≤ max a.length b.length := by
  have h1 := quot_len hm h.oa h.ob hz
  have h2 := (divF_ovr hm h.oa h.ob hz).2.2.1
  have hb1 := h.ob.trd.1
  have ha1 := h.oa.trd.1
  have l2 := h.lu
  have l4 := h.lv
  by_cases hs : a.length < b.length
  · have h3 := quot_short (m := m) hs
    rw [h3.1, h3.2]
    simp only [List.length_singleton]
    omega
  · omega
theorem BezI.next {m : Int} {C : Nat} {a b s u t v : List Int} (hm : primeB m = true) (h : BezI m C a b s u t v) (hz : zeroB b = false) (hC : C ≤ 90) :
    BezI m C b (divF a b m).2 u (subF m s (mulF m (divF a b m).1 u)) v (subF m t (mulF m (divF a b m).1 v)) := by
  have hm0 : 0 < m := by have := primeB_bd hm; omega
  have hd := divF_ovr hm h.oa h.ob hz
  have hq := h.qlen hm hz hC
  have hb1 := h.ob.trd.1
  have l1 := h.ls
  have l2 := h.lu
  have l3 := h.lt
  have l4 := h.lv
  have m1 := mulF_len m (divF a b m).1 u
  have m2 := mulF_len m (divF a b m).1 v
  have hq1 := hd.1.trd.1
  have s1 := subF_len m s (mulF m (divF a b m).1 u)
  have s2 := subF_len m t (mulF m (divF a b m).1 v)
  have o1 := mulF_ovr hm0 hd.1 h.ou (by omega)
  have o2 := mulF_ovr hm0 hd.1 h.ov (by omega)
  have hr := hd.2.2.1
  exact ⟨h.ob, hd.2.1, h.ou, subF_ovr hm0 h.os o1, h.ov, subF_ovr hm0 h.ot o2, by omega, by omega, by omega, by omega⟩
/-- a is s g + t h, b is u g + v h. -/
structure BezE (m : Int) (G H : Nat → Int) (a b s u t v : List Int) : Prop where
  ea : Eqm m (fun i => cv (co s) G i + cv (co t) H i) (co a)
  eb : Eqm m (fun i => cv (co u) G i + cv (co v) H i) (co b)
theorem BezE.next {m : Int} {C : Nat} {G H : Nat → Int} {a b s u t v : List Int} (hm : primeB m = true) (hi : BezI m C a b s u t v) (h : BezE m G H a b s u t v) (hz : zeroB b = false) :
    BezE m G H b (divF a b m).2 u (subF m s (mulF m (divF a b m).1 u)) v (subF m t (mulF m (divF a b m).1 v)) := by
  refine ⟨h.eb, ?_⟩
  have hd := div_id hm hi.oa hi.ob hz
  generalize (divF a b m).1 = q at *
  generalize (divF a b m).2 = r at *
  have e1 : ∀ x y (F : Nat → Int), Eqm m (cv (co (subF m x (mulF m q y))) F) (fun i => cv (co x) F i - cv (co q) (cv (co y) F) i) := fun x y F => by
    refine ((subF_eqm m _ _).cv (Eqm.refl m F)).trans (Eqm.trans (fun i => by rw [cv_sub_left]) ?_)
    refine (Eqm.refl m _).sub ?_
    exact ((mulF_eqm m q y).cv (Eqm.refl m F)).trans (fun i => by rw [cv_assoc])
  refine ((e1 s u G).add (e1 t v H)).trans (fun i => ?_)
  have h1 : (cv (co q) (cv (co u) G) i + cv (co q) (cv (co v) H) i) % m = cv (co q) (co b) i % m := by
    rw [← cv_add_right]
    exact (Eqm.refl m (co q)).cv h.eb i
  have h2 := emod_sub_congr (h.ea i) h1
  simp only at h2
  have h3 := emod_sub_congr (hd i) (rfl : cv (co q) (co b) i % m = cv (co q) (co b) i % m)
  simp only at h3
  have e4 : cv (co q) (co b) i + co r i - cv (co q) (co b) i = co r i := by omega
  rw [e4] at h3
  rw [h3, ← h2]
  congr 1
  simp only
  omega
theorem bezZ_all {m : Int} {C : Nat} {G H : Nat → Int} (hm : primeB m = true) (hC : C ≤ 90) : ∀ {n : Nat} {a b s u t v : List Int}, meas b < n → BezI m C a b s u t v → BezE m G H a b s u t v →
    (bezZ m a b s u t v).1 = gcdZ m a b ∧ Ovr m (bezZ m a b s u t v).1 ∧ Ovr m (bezZ m a b s u t v).2.1 ∧ Ovr m (bezZ m a b s u t v).2.2 ∧ (bezZ m a b s u t v).2.1.length ≤ C ∧ (bezZ m a b s u t v).2.2.length ≤ C ∧
      Eqm m (fun i => cv (co (bezZ m a b s u t v).2.1) G i + cv (co (bezZ m a b s u t v).2.2) H i) (co (bezZ m a b s u t v).1)
  | 0, _, _, _, _, _, _, h, _, _ => absurd h (by omega)
  | n + 1, a, b, s, u, t, v, h, hi, he => by
    cases hz : zeroB b
    · rw [bezZ_step hi.ob.ne hz, gcdZ_step hi.ob.ne hz]
      have hd := divF_rest_length a b m hi.ob.ne hz
      exact bezZ_all hm hC (n := n) (by omega) (hi.next hm hz hC) (he.next hm hi hz)
    · rw [bezZ_stop hz, gcdZ_stop hz]
      have l1 := hi.ls
      have l3 := hi.lt
      exact ⟨rfl, hi.oa, hi.os, hi.ot, by simp only; omega, by simp only; omega, he.ea⟩
theorem gcdZ_nz {m : Int} (hm : primeB m = true) : ∀ {n : Nat} {a b : List Int}, meas b < n → Ovr m a → Ovr m b → zeroB a = false → zeroB (gcdZ m a b) = false
  | 0, _, _, h, _, _, _ => absurd h (by omega)
  | n + 1, a, b, h, ha, hb, hza => by
    cases hz : zeroB b
    · rw [gcdZ_step hb.ne hz]
      have hd := divF_ovr hm ha hb hz
      exact gcdZ_nz hm (n := n) (by have := divF_rest_length a b m hb.ne hz; omega) hb hd.2.1 hz
    · rw [gcdZ_stop hz]; exact hza

/-! The two that are lifted. -/
section
variable (m : Int) (p g h : List Int)
/-- The cofactors of g and h, made so that their sum is 1. -/
def bzF : List Int × List Int × List Int := bezZ m g h [1] [0] [0] [1]
def bzI : Int := invZ (lastZ (bzF m g h).1) m
def bzS : List Int := mulF m (bzF m g h).2.1 [bzI m g h]
def bzT : List Int := mulF m (bzF m g h).2.2 [bzI m g h]
/-- What the product lacks, by m. -/
def misE (k : Nat) : Int := ((p.getD k 0 - (mulZ g h).getD k 0) / m) % m
def misZ : List Int := trimZ (buildZ (misE m p g h) p.length)
def upU : List Int := (divF (mulF m (misZ m p g h) (bzT m g h)) g m).2
def upQ : List Int := (divF (mulF m (misZ m p g h) (bzT m g h)) g m).1
def leftZ : List Int := subF m (misZ m p g h) (mulF m (upU m p g h) h)
def upV : List Int := (divF (leftZ m p g h) g m).1
def liftE (x y : List Int) (k : Nat) : Int := x.getD k 0 + m * y.getD k 0
def liftZ (x y : List Int) : List Int := buildZ (liftE m x y) x.length
end
/-- The condition. -/
structure LiftC (m : Int) (p g h : List Int) : Prop where
  hm : primeB m = true
  og : Ovr m g
  oh : Ovr m h
  lp : p.length ≤ 9
  lg : 2 ≤ g.length
  lh : 2 ≤ h.length
  lgh : g.length + h.length ≤ 40
  p1 : lastZ p = 1
  g1 : lastZ g = 1
  h1 : lastZ h = 1
  pr : mulF m g h = trimZ (modsZ m p)
  gc : (gcdZ m g h).length = 1
theorem mulZ_top {a b : List Int} (ha : 0 < a.length) (hb : 0 < b.length) : co (mulZ a b) (a.length - 1 + (b.length - 1)) = lastZ a * lastZ b := by
  rw [mulZ_co, cv_top (a.length - 1) (b.length - 1) (fun i hi => co_beyond a (by omega)) (fun i hi => co_beyond b (by omega))]
  rfl
theorem trd_of_last {zs : List Int} (hn : 0 < zs.length) (h : lastZ zs ≠ 0) : Trd zs := ⟨hn, .inr h⟩
theorem mods_last {m : Int} {zs : List Int} (hn : 0 < zs.length) (h : lastZ zs = 1) (hm : 1 < m) : trimZ (modsZ m zs) = modsZ m zs := by
  refine (trd_of_last (by rw [modsZ_length]; exact hn) ?_).trimZ
  have e : lastZ (modsZ m zs) = lastZ zs % m := by rw [lastZ, modsZ_length, mods_get]; rfl
  rw [e, h, Int.emod_eq_of_lt (by omega) hm]
  decide
section
variable {m : Int} {p g h : List Int} (c : LiftC m p g h)
theorem LiftC.m2 (c : LiftC m p g h) : 2 ≤ m ∧ m ≤ 13 := primeB_bd c.hm
theorem LiftC.pne (c : LiftC m p g h) : 0 < p.length := by
  rcases Nat.eq_zero_or_pos p.length with h0 | h0
  · exfalso
    have := List.eq_nil_of_length_eq_zero h0
    have h1 := c.p1
    rw [this] at h1
    simp [lastZ] at h1
  · exact h0
theorem LiftC.mgh (c : LiftC m p g h) : mulF m g h = modsZ m (mulZ g h) := by
  have hl := c.lg
  have hl2 := c.lh
  have hm := c.m2
  refine mods_last (by rw [mulZ_length]; omega) ?_ (by omega)
  have h1 := mulZ_top (a := g) (b := h) (by omega) (by omega)
  rw [c.g1, c.h1] at h1
  rw [lastZ, mulZ_length]
  rw [show g.length + h.length - 1 - 1 = g.length - 1 + (h.length - 1) by omega]
  exact h1
theorem LiftC.eq (c : LiftC m p g h) : modsZ m (mulZ g h) = modsZ m p := by
  have hm := c.m2
  rw [← c.mgh, c.pr, mods_last c.pne c.p1 (by omega)]
theorem LiftC.len (c : LiftC m p g h) : g.length + h.length = p.length + 1 := by
  have h1 := congrArg List.length c.eq
  rw [modsZ_length, modsZ_length, mulZ_length] at h1
  have := c.lg
  omega
theorem LiftC.dvd (c : LiftC m p g h) (k : Nat) : m ∣ (p.getD k 0 - (mulZ g h).getD k 0) := by
  have h1 := congrArg (fun zs : List Int => zs.getD k 0) c.eq
  simp only [mods_get] at h1
  exact Int.dvd_of_emod_eq_zero (by rw [Int.sub_emod, h1, Int.sub_self, Int.zero_emod])
theorem LiftC.bi (c : LiftC m p g h) : BezI m 10 g h [1] [0] [0] [1] := by
  have hm := c.m2
  have o1 := single_ovr (m := m) (c := 1) (by omega) (by omega)
  have o0 := single_ovr (m := m) (c := 0) (by omega) (by omega)
  have hl := c.len
  have hp := c.lp
  have h1 := c.lg
  have h2 := c.lh
  exact ⟨c.og, c.oh, o1, o0, o0, o1, by simp; omega, by simp; omega, by simp; omega, by simp; omega⟩
theorem LiftC.be (c : LiftC m p g h) : BezE m (co g) (co h) g h [1] [0] [0] [1] := by
  constructor
  · intro i
    simp only [co_single]
    rw [cv_one, cv_const]; simp
  · intro i
    simp only [co_single]
    rw [cv_one, cv_const]; simp
theorem LiftC.nz (c : LiftC m p g h) : zeroB g = false := long_zero c.lg
theorem LiftC.bz (c : LiftC m p g h) : Ovr m (bzS m g h) ∧ Ovr m (bzT m g h) ∧ (bzS m g h).length ≤ 10 ∧ (bzT m g h).length ≤ 10 ∧ Ovr m (bzF m g h).2.1 ∧ Ovr m (bzF m g h).2.2 ∧ (bzF m g h).2.1.length ≤ 10 ∧ (bzF m g h).2.2.length ≤ 10 ∧ (bzF m g h).1.length = 1 ∧ Ovr m (bzF m g h).1 ∧ (0 ≤ bzI m g h ∧ bzI m g h < m) ∧
    Eqm m (fun i => cv (co (bzS m g h)) (co g) i + cv (co (bzT m g h)) (co h) i) (mono 0 1) := by
  have hm := c.m2
  have h1 := bezZ_all (G := co g) (H := co h) c.hm (by omega) (Nat.lt_succ_self _) c.bi c.be
  have hnz := gcdZ_nz c.hm (Nat.lt_succ_self _) c.og c.oh c.nz
  have hgc := c.gc
  have e : bezZ m g h [1] [0] [0] [1] = bzF m g h := rfl
  rw [e] at h1
  obtain ⟨g1, oa, os, ot, ls, lt, he⟩ := h1
  have hl1 : (bzF m g h).1.length = 1 := by rw [g1]; exact hgc
  have hnz2 : zeroB (bzF m g h).1 = false := by rw [g1]; exact hnz
  have hlast := oa.trd.last hnz2
  have hov := oa.ov ((bzF m g h).1.length - 1)
  have hlz : 0 ≤ lastZ (bzF m g h).1 ∧ lastZ (bzF m g h).1 < m := hov
  have hi := invZ_bd (lastZ (bzF m g h).1) m (by omega)
  have hinv := inv_mul (m := m) (x := lastZ (bzF m g h).1) c.hm (by omega) hlz.2
  have oi := single_ovr (m := m) (c := bzI m g h) hi (by omega)
  have l1 := mulF_len m (bzF m g h).2.1 [bzI m g h]
  have l2 := mulF_len m (bzF m g h).2.2 [bzI m g h]
  simp only [List.length_singleton] at l1 l2
  refine ⟨mulF_ovr (by omega) os oi (by simp only [List.length_singleton]; omega), mulF_ovr (by omega) ot oi (by simp only [List.length_singleton]; omega), by unfold bzS; omega, by unfold bzT; omega, os, ot, ls, lt, hl1, oa, hi, ?_⟩
  have eS : ∀ (x : List Int) (F : Nat → Int), Eqm m (cv (co (mulF m x [bzI m g h])) F) (fun i => bzI m g h * cv (co x) F i) := fun x F => by
    refine ((mulF_eqm m x [bzI m g h]).cv (Eqm.refl m F)).trans (fun i => ?_)
    rw [co_single, cv_swap, cv_comm, cv_const]
  refine ((eS _ (co g)).add (eS _ (co h))).trans (fun i => ?_)
  simp only
  rw [← Int.mul_add]
  have h2 := emod_mul_congr (rfl : bzI m g h % m = bzI m g h % m) (he i)
  simp only at h2
  rw [h2]
  have hA : (bzF m g h).1 = [lastZ (bzF m g h).1] := by
    match hx : (bzF m g h).1, hl1 with
    | [x], _ => simp [lastZ]
  have hA2 : co (bzF m g h).1 = mono 0 (lastZ (bzF m g h).1) := by
    rw [← co_single]; exact congrArg co hA
  rw [hA2]
  unfold mono
  split
  · rw [Int.mul_comm]
    show (lastZ (bzF m g h).1 * invZ (lastZ (bzF m g h).1) m) % m = 1 % m
    rw [hinv, Int.emod_eq_of_lt (by omega) (by omega)]
  · rw [Int.mul_zero]
theorem LiftC.misT (c : LiftC m p g h) : Ovr m (misZ m p g h) ∧ (misZ m p g h).length ≤ p.length - 1 := by
  have hm := c.m2
  have hp := c.pne
  have hlp := c.lp
  have hlen := c.len
  have h1 := c.lg
  have h2 := c.lh
  have ho : Ovr m (misZ m p g h) := ⟨trimZ_ov (buildZ_ov (by omega) _ _), trimZ_trd (build_ne hp), by have := trimZ_len_le (buildZ (misE m p g h) p.length); rw [buildZ_length] at this; unfold misZ; omega⟩
  refine ⟨ho, ?_⟩
  have e : misE m p g h (p.length - 1) = 0 := by
    unfold misE
    have h3 := mulZ_top (a := g) (b := h) (by omega) (by omega)
    rw [c.g1, c.h1] at h3
    have h4 : (mulZ g h).getD (p.length - 1) 0 = 1 := by rw [show p.length - 1 = g.length - 1 + (h.length - 1) by omega]; exact h3
    have h5 : p.getD (p.length - 1) 0 = 1 := c.p1
    rw [h4, h5]; simp
  have h6 : trimN (buildZ (misE m p g h) p.length) ≤ p.length - 1 := by
    unfold trimN
    rw [buildZ_length, trimTo_step (by omega) (by rw [buildZ_get, if_pos (by omega)]; exact e)]
    exact trimTo_le _ _
  unfold misZ
  rw [trimZ_length]
  exact h6
theorem LiftC.misC (c : LiftC m p g h) : co (misZ m p g h) = misE m p g h := by
  have hlen := c.len
  have h1 := c.lg
  rw [misZ, trimZ_co, buildZ_co]
  intro i hi
  unfold misE
  have h2 : p.getD i 0 = 0 := co_beyond p hi
  have h3 : (mulZ g h).getD i 0 = 0 := co_beyond _ (by rw [mulZ_length]; omega)
  rw [h2, h3]; simp
theorem LiftC.up (c : LiftC m p g h) : Ovr m (upU m p g h) ∧ (upU m p g h).length ≤ g.length - 1 ∧ Ovr m (upQ m p g h) ∧ (upQ m p g h).length ≤ 20 ∧ Ovr m (leftZ m p g h) ∧ (leftZ m p g h).length ≤ p.length - 1 ∧ Ovr m (upV m p g h) ∧ (upV m p g h).length ≤ h.length - 1 := by
  have hm := c.m2
  have hmis := c.misT
  have hlp := c.lp
  have hlen := c.len
  have h1 := c.lg
  have h2 := c.lh
  have hb := c.bz
  have l1 := mulF_len m (misZ m p g h) (bzT m g h)
  have o1 := mulF_ovr (m := m) (by omega) hmis.1 hb.2.1 (by omega)
  have hd := divF_ovr c.hm o1 c.og c.nz
  have lu : (upU m p g h).length ≤ g.length - 1 := by unfold upU; omega
  have l2 := mulF_len m (upU m p g h) h
  have lu9 : (divF (mulF m (misZ m p g h) (bzT m g h)) g m).2.length ≤ g.length - 1 := lu
  have o2 := mulF_ovr (m := m) (by omega) hd.2.1 c.oh (by omega)
  have o3 : Ovr m (leftZ m p g h) := subF_ovr (by omega) hmis.1 o2
  have l3 : (leftZ m p g h).length ≤ p.length - 1 := by
    have := subF_len m (misZ m p g h) (mulF m (upU m p g h) h)
    unfold leftZ
    omega
  have hd2 := divF_ovr c.hm o3 c.og c.nz
  have hq2 := quot_len c.hm o3 c.og c.nz
  refine ⟨hd.2.1, lu, hd.1, ?_, o3, l3, hd2.1, ?_⟩
  · have := hd.2.2.2; unfold upQ; omega
  · unfold upV; omega
/-- v g and u h make what is lacking. -/
theorem LiftC.make (c : LiftC m p g h) (w : List Int) (hw : w = sumF m (mulF m (bzS m g h) (misZ m p g h)) (mulF m (upQ m p g h) h)) : Eqm m (fun i => cv (co w) (co g) i + cv (co (upU m p g h)) (co h) i) (co (misZ m p g h)) := by
  have hm := c.m2
  have hmis := c.misT
  have hb := c.bz
  have hlp := c.lp
  have hlen := c.len
  have h1 := c.lg
  have h2 := c.lh
  have o1 := mulF_ovr (m := m) (by omega) hmis.1 hb.2.1 (by omega)
  have hd := div_id c.hm o1 c.og c.nz
  have e1 := hb.2.2.2.2.2.2.2.2.2.2.2
  have e0 := mulF_eqm m (misZ m p g h) (bzT m g h)
  have e2 : Eqm m (fun i => cv (co (upQ m p g h)) (co g) i + co (upU m p g h) i) (cv (co (misZ m p g h)) (co (bzT m g h))) := hd.trans e0
  have ew : Eqm m (co w) (fun i => cv (co (bzS m g h)) (co (misZ m p g h)) i + cv (co (upQ m p g h)) (co h) i) := by
    rw [hw]
    exact (sumF_eqm m _ _).trans ((mulF_eqm m _ _).add (mulF_eqm m _ _))
  generalize co w = W at *
  generalize co (upU m p g h) = U at *
  generalize co (upQ m p g h) = Q at *
  generalize co (misZ m p g h) = E at *
  generalize co (bzS m g h) = S at *
  generalize co (bzT m g h) = T at *
  generalize co g = G at *
  generalize co h = H at *
  intro i
  have f1 := (ew.cv (Eqm.refl m G)) i
  rw [cv_add_left] at f1
  have f2 : cv U H i % m = (cv (cv E T) H i - cv (cv Q G) H i) % m := by
    have f3 : Eqm m U (fun i => cv E T i - cv Q G i) := fun i => by
      have := emod_sub_congr (e2 i) (rfl : cv Q G i % m = cv Q G i % m)
      simp only at this
      rw [show cv Q G i + U i - cv Q G i = U i by omega] at this
      exact this
    have f4 := (f3.cv (Eqm.refl m H)) i
    rw [cv_sub_left] at f4
    exact f4
  have f5 := ((Eqm.refl m E).cv e1) i
  rw [cv_add_right] at f5
  have f6 : cv E (mono 0 1) i = E i := by rw [cv_comm, cv_one]
  rw [f6] at f5
  have f7 := emod_add_congr f1 f2
  rw [f7, ← f5]
  congr 1
  have g1 : cv (cv S E) G i = cv E (cv S G) i := by
    rw [cv_comm i E, cv_swap]
  have g2 : cv (cv Q H) G i = cv (cv Q G) H i := cv_swap _ _ _ _
  have g3 : cv (cv E T) H i = cv E (cv T H) i := cv_assoc _ _ _ _
  rw [g1, g2, g3]
  omega
/-- The reference's second one is the program's. -/
theorem LiftC.same (c : LiftC m p g h) : sumF m (mulF m (bzS m g h) (misZ m p g h)) (mulF m (upQ m p g h) h) = upV m p g h := by
  have hm := c.m2
  have hmis := c.misT
  have hb := c.bz
  have hlp := c.lp
  have hlen := c.len
  have h1 := c.lg
  have h2 := c.lh
  have hu := c.up
  have o1 := mulF_ovr (m := m) (by omega) hb.1 hmis.1 (by omega)
  have o2 := mulF_ovr (m := m) (by omega) hu.2.2.1 c.oh (by omega)
  have o3 := sumF_ovr (m := m) (by omega) o1 o2
  have hmk := c.make _ rfl
  have o4 := mulF_ovr (m := m) (by omega) hu.1 c.oh (by omega)
  generalize hW : sumF m (mulF m (bzS m g h) (misZ m p g h)) (mulF m (upQ m p g h) h) = W at *
  have e1 : Eqm m (cv (co W) (co g)) (co (leftZ m p g h)) := by
    refine Eqm.trans (fun i => ?_) (subF_eqm m _ _).symm
    have h3 := emod_sub_congr (hmk i) (mulF_eqm m (upU m p g h) h i).symm
    simp only at h3
    rw [show cv (co W) (co g) i + cv (co (upU m p g h)) (co h) i - cv (co (upU m p g h)) (co h) i = cv (co W) (co g) i by omega] at h3
    exact h3
  have h4 := div_of_mul c.hm hu.2.2.2.2.1 c.og c.nz (d := W.length) (fun i hi => by rw [co_beyond W hi]; rfl) e1
  exact (ovr_ext hu.2.2.2.2.2.2.1.ov o3.ov hu.2.2.2.2.2.2.1.trd o3.trd h4.2).symm
theorem liftZ_length (m : Int) (x y : List Int) : (liftZ m x y).length = x.length := buildZ_length _ _
theorem liftZ_get {m : Int} {x y : List Int} {k : Nat} (h : k < x.length) : (liftZ m x y).getD k 0 = x.getD k 0 + m * y.getD k 0 := by
  rw [liftZ, buildZ_get, if_pos h]; rfl
theorem liftZ_bd {m : Int} {x y : List Int} (hx : Ovr m x) (hy : Ovr m y) (k : Nat) : 0 ≤ x.getD k 0 + m * y.getD k 0 ∧ x.getD k 0 + m * y.getD k 0 < m * m := by
  have h1 := hx.ov k
  have h2 := hy.ov k
  have h3 : 0 ≤ m * y.getD k 0 := Int.mul_nonneg (by omega) h2.1
  have h4 : m * y.getD k 0 ≤ m * (m - 1) := Int.mul_le_mul_of_nonneg_left (by omega) (by omega)
  rw [Int.mul_sub, Int.mul_one] at h4
  omega
theorem liftZ_co {m : Int} {x y : List Int} (hl : y.length ≤ x.length) : co (liftZ m x y) = fun k => co x k + m * co y k := by
  rw [liftZ, buildZ_co]
  · rfl
  · intro i hi
    unfold liftE
    have h2 : x.getD i 0 = 0 := co_beyond x hi
    have h3 : y.getD i 0 = 0 := co_beyond y (by omega)
    rw [h2, h3]; simp
/-- The lifted ones' product is the whole up to multiples of the square. -/
theorem LiftC.square (c : LiftC m p g h) (i : Nat) : (co (mulZ (liftZ m g (upU m p g h)) (liftZ m h (upV m p g h))) i - co p i) % (m * m) = 0 := by
  have hm := c.m2
  have hu := c.up
  have h1 := c.lg
  have h2 := c.lh
  have hmk := c.make _ rfl i
  rw [c.same, c.misC] at hmk
  simp only at hmk
  rw [mulZ_co, liftZ_co (by omega), liftZ_co (by omega)]
  obtain ⟨k, hk⟩ := c.dvd i
  have hE : misE m p g h i = k % m := by
    unfold misE
    rw [hk, Int.mul_ediv_cancel_left _ (by omega)]
  rw [hE, Int.emod_emod] at hmk
  have hgh : (mulZ g h).getD i 0 = cv (co g) (co h) i := congrFun (mulZ_co g h) i
  rw [hgh] at hk
  have hk' : co p i = cv (co g) (co h) i + m * k := by
    have : co p i = p.getD i 0 := rfl
    omega
  generalize co (upU m p g h) = U at *
  generalize co (upV m p g h) = V at *
  generalize co g = G at *
  generalize co h = H at *
  rw [cv_add_left, cv_add_right, cv_add_right, cv_smul_left, cv_smul_left, cv_smul_right, cv_smul_right, hk']
  have hd := Int.dvd_of_emod_eq_zero (show (cv V G i + cv U H i - k) % m = 0 by rw [Int.sub_emod, hmk, Int.sub_self, Int.zero_emod])
  obtain ⟨j, hj⟩ := hd
  have e : cv G H i + m * cv G V i + (m * cv U H i + m * (m * cv U V i)) - (cv G H i + m * k) = m * m * (j + cv U V i) := by
    have e1 : cv V G i = cv G V i := cv_comm _ _ _
    rw [Int.mul_add (m * m), Int.mul_assoc m m j, ← hj, Int.mul_sub, Int.mul_add, e1, Int.mul_assoc m m]
    omega
  rw [e]
  exact Int.mul_emod_right _ _
end
/-- What both return. -/
def liftOk (m : Int) (p g h : List Int) : Bool := validB p && overB m g && overB m h && decide (p.length ≤ 9) && decide (2 ≤ g.length) && decide (2 ≤ h.length) && (lastZ p == 1) && (lastZ g == 1) && (lastZ h == 1) && (mulF m g h == trimZ (modsZ m p)) && decide ((gcdZ m g h).length = 1)
def liftR (m : Int) (p g h : List Int) : List Int × List Int × Bool := if liftOk m p g h then (liftZ m g (upU m p g h), liftZ m h (upV m p g h), true) else ([], [], false)
theorem liftOk_c {m : Int} {p g h : List Int} (hk : liftOk m p g h = true) : LiftC m p g h ∧ validB p = true := by
  simp only [liftOk, Bool.and_eq_true, decide_eq_true_eq, beq_iff_eq] at hk
  obtain ⟨⟨⟨⟨⟨⟨⟨⟨⟨⟨h1, h2⟩, h3⟩, h4⟩, h5⟩, h6⟩, h7⟩, h8⟩, h9⟩, h10⟩, h11⟩ := hk
  obtain ⟨hm, og, lg⟩ := overB_ovr h2
  obtain ⟨_, oh, lh⟩ := overB_ovr h3
  exact ⟨⟨hm, og, oh, h4, h5, h6, by omega, h7, h8, h9, h10, h11⟩, h1⟩

end Go.Proofs.Ytlnjkjogedbhfaa
