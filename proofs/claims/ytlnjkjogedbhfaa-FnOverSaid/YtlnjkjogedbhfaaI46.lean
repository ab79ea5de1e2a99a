/- Lists of integers compared, whatever they hold. Conditions: none of them empty. -/
import Derived.Test.YtlnjkjogedbhfaaI36
import Derived.Test.YtlnjkjogedbhfaaI16
namespace Go.Proofs.Ytlnjkjogedbhfaa
open Go Go.RowKit
set_option linter.unusedSimpArgs false
set_option linter.unusedVariables false

/-- The first k are the same. -/
def EqUp (a b : List Int) (k : Nat) : Prop := ∀ i, i < k → a.getD i 0 = b.getD i 0
theorem EqUp.zero (a b : List Int) : EqUp a b 0 := fun _ h => absurd h (by omega)
theorem EqUp.succ {a b : List Int} {k : Nat} (h : EqUp a b k) (hk : a.getD k 0 = b.getD k 0) : EqUp a b (k + 1) := fun i hi => by
  by_cases e : i = k
  · subst e; exact hk
  · exact h i (by omega)
theorem EqUp.all {a b : List Int} (hl : a.length = b.length) (h : EqUp a b a.length) : (a == b) = true := by
  rw [beq_iff_eq]
  refine ext_getD hl fun i => ?_
  by_cases hi : i < a.length
  · exact h i hi
  · simp only [List.getD]; rw [List.getElem?_eq_none (by omega), List.getElem?_eq_none (by omega)]
theorem eq_not {a b : List Int} {k : Nat} (h : ¬ a.getD k 0 = b.getD k 0) : (a == b) = false := by
  cases hq : (a == b)
  · rfl
  · rw [beq_iff_eq] at hq
    exact absurd (by rw [hq]) h
theorem eq_len {a b : List Int} (h : ¬ a.length = b.length) : (a == b) = false := by
  cases hq : (a == b)
  · rfl
  · rw [beq_iff_eq] at hq
    exact absurd (by rw [hq]) h
def REq (q : Bool) (w : World) (e : Ending) (w' : World) : Prop := ∃ m, e = .returned (.bool q) ∧ w' = w.drewN m

set_option maxRecDepth 100000 in
set_option maxHeartbeats 1600000 in
theorem same_spec (va vb : Value) (a b : List Int) (w : World) (ha : RdI w va a) (hb : RdI w vb b) (hna : a ≠ []) (hnb : b ≠ []) (hla : a.length ≤ 1099511627776) (hlb : b.length ≤ 1099511627776) : Calls Try.prog 70 #[va, vb] w (REq (a == b) w) := by
  obtain ⟨ba, oa, ca, rfl, _, hc⟩ := ha.open hna
  obtain ⟨bb, ob, cb, rfl, _, hc'⟩ := hb.open hnb
  have Hc := Lib.hid hc
  have Hc' := Lib.hid hc'
  have Ht := Lib.hid (fun (h : a.length = b.length) (h2 : EqUp a b a.length) => h2.all h)
  have Hf := Lib.hid (fun k (h : ¬ a.getD k 0 = b.getD k 0) => eq_not h)
  have Hl := Lib.hid (fun (h : ¬ a.length = b.length) => eq_len h)
  generalize (a == b) = q at *
  clear hc hc' ha hb hna hnb
  by_cases hl : a.length = b.length
  · have hl1 : (a.length : Int) = (b.length : Int) := by omega
    have Hll := Lib.hid hl
    clear hl
    go_enter Try.func70, Try.ntmps70
    go_wp2
    go_loopw [5] (fun i wr => ∃ k m : Nat, k ≤ a.length ∧ i = .int .i64 k ∧ wr = w.drewN m ∧ EqUp a b k) (fun i _ => a.length - (intOf i).toNat)
    case atStart => exact ⟨0, 0, Nat.zero_le _, rfl, rfl, EqUp.zero _ _⟩
    case round =>
      obtain ⟨k, m, hk, rfl, rfl, hup⟩ := hrel
      have Hup := Lib.hid hup
      clear hup hl1
      by_cases hlt : k < a.length
      · have hltb : k < b.length := by have := Hll.out; omega
        have c1 := Hc.out k hlt
        have c2 := Hc'.out k hltb
        by_cases hxy : a.getD k 0 = b.getD k 0
        · have H2 := Lib.hid (Hup.out.succ hxy)
          generalize a.getD k 0 = x at *
          generalize b.getD k 0 = y at *
          subst hxy
          have f1 : (x != x) = false := by simp
          have f2 : (x == x) = true := by simp
          go_wp2
          go_quiet (fail)
          go_wp2
          go_roundw
          case rel => exact ⟨k + 1, _, by omega, by go_num, rfl, H2.out⟩
          case measure => simp [intOf]; omega
        · have H2 := Lib.hid (Hf.out k hxy)
          generalize a.getD k 0 = x at *
          generalize b.getD k 0 = y at *
          have f1 : (x != y) = true := by simpa using hxy
          have f2 : (x == y) = false := by simpa using hxy
          go_wp2
          go_quiet (fail)
          go_wp2
          go_ret
          exact ⟨_, (by have h := H2.out; subst h; rfl), by rw [World.drewN_drewN]⟩
      · obtain rfl : k = a.length := by omega
        have H2 := Lib.hid (Ht.out Hll.out Hup.out)
        have hnl : ¬ ((a.length : Int) < (b.length : Int)) := by have := Hll.out; omega
        go_wp2
        go_ret
        exact ⟨m, (by have h := H2.out; subst h; rfl), rfl⟩
  · have hl1 : ¬ ((a.length : Int) = (b.length : Int)) := by omega
    have H2 := Lib.hid (Hl.out hl)
    go_enter Try.func70, Try.ntmps70
    go_wp2
    go_ret
    exact ⟨0, (by have h := H2.out; subst h; simp), rfl⟩

set_option maxRecDepth 100000 in
set_option maxHeartbeats 1600000 in
theorem equal_any (va vb : Value) (a b : List Int) (w : World) (ha : RdI w va a) (hb : RdI w vb b) (hna : a ≠ []) (hnb : b ≠ []) (hla : a.length ≤ 1099511627776) (hlb : b.length ≤ 1099511627776) : Calls Try.prog 100 #[va, vb] w (REq (a == b) w) := by
  obtain ⟨ba, oa, ca, rfl, _, hc⟩ := ha.open hna
  obtain ⟨bb, ob, cb, rfl, _, hc'⟩ := hb.open hnb
  have Hc := Lib.hid hc
  have Hc' := Lib.hid hc'
  have Ht := Lib.hid (fun (h : a.length = b.length) (h2 : EqUp a b a.length) => h2.all h)
  have Hf := Lib.hid (fun k (h : ¬ a.getD k 0 = b.getD k 0) => eq_not h)
  have Hl := Lib.hid (fun (h : ¬ a.length = b.length) => eq_len h)
  generalize (a == b) = q at *
  clear hc hc' ha hb hna hnb
  by_cases hl : a.length = b.length
  · have hl1 : (a.length : Int) = (b.length : Int) := by omega
    have Hll := Lib.hid hl
    clear hl
    go_enter Try.func100, Try.ntmps100
    go_wp2
    go_loopw [13] (fun i wr => ∃ k m : Nat, k ≤ a.length ∧ i = .int .i64 k ∧ wr = w.drewN m ∧ EqUp a b k) (fun i _ => a.length - (intOf i).toNat)
    case atStart => exact ⟨0, 0, Nat.zero_le _, rfl, rfl, EqUp.zero _ _⟩
    case round =>
      obtain ⟨k, m, hk, rfl, rfl, hup⟩ := hrel
      have Hup := Lib.hid hup
      clear hup hl1
      by_cases hlt : k < a.length
      · have hltb : k < b.length := by have := Hll.out; omega
        have c1 := Hc.out k hlt
        have c2 := Hc'.out k hltb
        by_cases hxy : a.getD k 0 = b.getD k 0
        · have H2 := Lib.hid (Hup.out.succ hxy)
          generalize a.getD k 0 = x at *
          generalize b.getD k 0 = y at *
          subst hxy
          have f1 : (x != x) = false := by simp
          have f2 : (x == x) = true := by simp
          go_wp2
          go_quiet (fail)
          go_wp2
          go_roundw
          case rel => exact ⟨k + 1, _, by omega, by go_num, rfl, H2.out⟩
          case measure => simp [intOf]; omega
        · have H2 := Lib.hid (Hf.out k hxy)
          generalize a.getD k 0 = x at *
          generalize b.getD k 0 = y at *
          have f1 : (x != y) = true := by simpa using hxy
          have f2 : (x == y) = false := by simpa using hxy
          go_wp2
          go_quiet (fail)
          go_wp2
          go_ret
          exact ⟨_, (by have h := H2.out; subst h; rfl), by rw [World.drewN_drewN]⟩
      · obtain rfl : k = a.length := by omega
        have H2 := Lib.hid (Ht.out Hll.out Hup.out)
        have hnl : ¬ ((a.length : Int) < (b.length : Int)) := by have := Hll.out; omega
        go_wp2
        go_ret
        exact ⟨m, (by have h := H2.out; subst h; rfl), rfl⟩
  · have hl1 : ¬ ((a.length : Int) = (b.length : Int)) := by omega
    have H2 := Lib.hid (Hl.out hl)
    go_enter Try.func100, Try.ntmps100
    go_wp2
    go_ret
    exact ⟨0, (by have h := H2.out; subst h; simp), rfl⟩

set_option maxRecDepth 100000 in
set_option maxHeartbeats 1600000 in
theorem b10Ints_any (va vb : Value) (a b : List Int) (w : World) (ha : RdI w va a) (hb : RdI w vb b) (hna : a ≠ []) (hnb : b ≠ []) (hla : a.length ≤ 1099511627776) (hlb : b.length ≤ 1099511627776) : Calls Try.prog 60 #[va, vb] w (REq (a == b) w) := by
  obtain ⟨ba, oa, ca, rfl, _, hc⟩ := ha.open hna
  obtain ⟨bb, ob, cb, rfl, _, hc'⟩ := hb.open hnb
  have Hc := Lib.hid hc
  have Hc' := Lib.hid hc'
  have Ht := Lib.hid (fun (h : a.length = b.length) (h2 : EqUp a b a.length) => h2.all h)
  have Hf := Lib.hid (fun k (h : ¬ a.getD k 0 = b.getD k 0) => eq_not h)
  have Hl := Lib.hid (fun (h : ¬ a.length = b.length) => eq_len h)
  generalize (a == b) = q at *
  clear hc hc' ha hb hna hnb
  by_cases hl : a.length = b.length
  · have hl1 : (a.length : Int) = (b.length : Int) := by omega
    have Hll := Lib.hid hl
    clear hl
    go_enter Try.func60, Try.ntmps60
    go_wp2
    go_loopw [13] (fun i wr => ∃ k m : Nat, k ≤ a.length ∧ i = .int .i64 k ∧ wr = w.drewN m ∧ EqUp a b k) (fun i _ => a.length - (intOf i).toNat)
    case atStart => exact ⟨0, 0, Nat.zero_le _, rfl, rfl, EqUp.zero _ _⟩
    case round =>
      obtain ⟨k, m, hk, rfl, rfl, hup⟩ := hrel
      have Hup := Lib.hid hup
      clear hup hl1
      by_cases hlt : k < a.length
      · have hltb : k < b.length := by have := Hll.out; omega
        have c1 := Hc.out k hlt
        have c2 := Hc'.out k hltb
        by_cases hxy : a.getD k 0 = b.getD k 0
        · have H2 := Lib.hid (Hup.out.succ hxy)
          generalize a.getD k 0 = x at *
          generalize b.getD k 0 = y at *
          subst hxy
          have f1 : (x != x) = false := by simp
          have f2 : (x == x) = true := by simp
          go_wp2
          go_quiet (fail)
          go_wp2
          go_roundw
          case rel => exact ⟨k + 1, _, by omega, by go_num, rfl, H2.out⟩
          case measure => simp [intOf]; omega
        · have H2 := Lib.hid (Hf.out k hxy)
          generalize a.getD k 0 = x at *
          generalize b.getD k 0 = y at *
          have f1 : (x != y) = true := by simpa using hxy
          have f2 : (x == y) = false := by simpa using hxy
          go_wp2
          go_quiet (fail)
          go_wp2
          go_ret
          exact ⟨_, (by have h := H2.out; subst h; rfl), by rw [World.drewN_drewN]⟩
      · obtain rfl : k = a.length := by omega
        have H2 := Lib.hid (Ht.out Hll.out Hup.out)
        have hnl : ¬ ((a.length : Int) < (b.length : Int)) := by have := Hll.out; omega
        go_wp2
        go_ret
        exact ⟨m, (by have h := H2.out; subst h; rfl), rfl⟩
  · have hl1 : ¬ ((a.length : Int) = (b.length : Int)) := by omega
    have H2 := Lib.hid (Hl.out hl)
    go_enter Try.func60, Try.ntmps60
    go_wp2
    go_ret
    exact ⟨0, (by have h := H2.out; subst h; simp), rfl⟩

set_option maxRecDepth 100000 in
set_option maxHeartbeats 800000 in
theorem same_any (va vb : Value) (a b : List Int) (w : World) (ha : RdI w va a) (hb : RdI w vb b) (hna : a ≠ []) (hnb : b ≠ []) (hla : a.length ≤ 1099511627776) (hlb : b.length ≤ 1099511627776) : Calls Try.prog 26 #[.agg #[va], .agg #[vb]] w (RB (a == b) w) := by
  have Ha := Lib.hid ha
  have Hb := Lib.hid hb
  have C := Lib.hid (fun (w' : World) (h1 : RdI w' va a) (h2 : RdI w' vb b) => equal_any va vb a b w' h1 h2 hna hnb hla hlb)
  generalize (a == b) = q at *
  obtain ⟨ao, ca, rfl⟩ := ha.shape
  obtain ⟨bo, cb, rfl⟩ := hb.shape
  clear ha hb
  go_enter Try.func26, Try.ntmps26
  go_wp2_with fail
  (go_at_call 100; ((with_reducible refine (C.out _ (Ha.out.below (by (repeat' (first | (with_reducible exact Below.refl _ _) | (with_reducible assumption) | (with_reducible refine Below.alloc ?_ ?_ _) | (with_reducible refine Below.setCell ?_ ?_ _) | (with_reducible refine Below.drew ?_) | (with_reducible refine Below.via (by assumption) ?_ ?_) | go_size)))) (Hb.out.below (by (repeat' (first | (with_reducible exact Below.refl _ _) | (with_reducible assumption) | (with_reducible refine Below.alloc ?_ ?_ _) | (with_reducible refine Below.setCell ?_ ?_ _) | (with_reducible refine Below.drew ?_) | (with_reducible refine Below.via (by assumption) ?_ ?_) | go_size))))).mono ?_); rintro e w' ⟨m, rfl, rfl⟩))
  go_wp2_with fail
  go_ret
  exact ⟨rfl, Below.trans (show Below w.heap.size w _ by (repeat' (first | (with_reducible exact Below.refl _ _) | (with_reducible assumption) | (with_reducible refine Below.alloc ?_ ?_ _) | (with_reducible refine Below.setCell ?_ ?_ _) | (with_reducible refine Below.drew ?_) | (with_reducible refine Below.via (by assumption) ?_ ?_) | go_size))) ((drewN_below _ m).mono (by simp; omega))⟩

end Go.Proofs.Ytlnjkjogedbhfaa
