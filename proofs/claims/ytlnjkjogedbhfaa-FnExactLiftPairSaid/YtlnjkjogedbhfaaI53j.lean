/- LiftPair of the program: its contract. Conditions: lengths of at most 2^40. -/
import Derived.Test.YtlnjkjogedbhfaaI53b
import Derived.Test.YtlnjkjogedbhfaaI53m
import Derived.Test.YtlnjkjogedbhfaaI53d
import Derived.Test.YtlnjkjogedbhfaaI53g
import Derived.Test.YtlnjkjogedbhfaaI54m
import Derived.Test.YtlnjkjogedbhfaaI54n
import Derived.Test.YtlnjkjogedbhfaaI54g
namespace Go.Proofs.Ytlnjkjogedbhfaa
open Go Go.RowKit
set_option linter.unusedSimpArgs false
set_option linter.unusedVariables false

theorem LiftPair_impl (vp vg vh : Value) (p g h : List Int) (m : Int) (w : World) (hp : RdI w vp p) (hg : RdI w vg g) (hh : RdI w vh h) (hlp : p.length ≤ 1099511627776) (hlg : g.length ≤ 1099511627776) (hlh : h.length ≤ 1099511627776) : Calls Try.prog 18 #[.agg #[vp], .agg #[vg], .agg #[vh], .int .i64 m] w (RLift (liftR m p g h) w) :=
  LiftPair_head (lift_tail3 (lift_tail8 (lift_tail9 (lift_tail12 lift_tail13)))) vp vg vh p g h m w hp hg hh hlp hlg hlh

end Go.Proofs.Ytlnjkjogedbhfaa

/- LiftPair of the reference: its contract. Conditions: lengths of at most 2^40. -/
namespace Go.Proofs.Ytlnjkjogedbhfaa
open Go Go.RowKit
set_option linter.unusedSimpArgs false
set_option linter.unusedVariables false

theorem LiftPair_spec (vp vg vh : Value) (p g h : List Int) (m : Int) (w : World) (hp : RdI w vp p) (hg : RdI w vg g) (hh : RdI w vh h) (hlp : p.length ≤ 1099511627776) (hlg : g.length ≤ 1099511627776) (hlh : h.length ≤ 1099511627776) : Calls Try.prog 17 #[.agg #[vp], .agg #[vg], .agg #[vh], .int .i64 m] w (RW2B (liftR m p g h) w) :=
  LiftPair_spec_head (lifts_tail3 (lifts_tail7 (lifts_tail9 (lifts_tail10 lifts_tail11)))) vp vg vh p g h m w hp hg hh hlp hlg hlh

end Go.Proofs.Ytlnjkjogedbhfaa

/- LiftPair of both: the contracts as the law wants them. Conditions: lengths of at most 2^40. -/
namespace Go.Proofs.Ytlnjkjogedbhfaa
open Go Go.RowKit
set_option linter.unusedSimpArgs false
set_option linter.unusedVariables false

theorem liftR_len (m : Int) (p g h : List Int) : (liftR m p g h).1.length ≤ 1048576 ∧ (liftR m p g h).2.1.length ≤ 1048576 := by
  unfold liftR
  by_cases hk : liftOk m p g h = true
  · rw [if_pos hk]
    obtain ⟨c, hv⟩ := liftOk_c hk
    have h1 := c.lgh
    simp only [liftZ_length]
    omega
  · rw [if_neg hk]
    simp
theorem RLift.two {F : List Int × List Int × Bool} {w w' : World} {e : Ending} (h : RLift F w e w') : RW2B F w e w' := by
  obtain ⟨v1, v2, mid, he, h1, h2, o1, o2, hb⟩ := h
  exact ⟨v1, v2, he, o1.1, o2.1.mono h1, hb⟩
theorem LiftPair_impl2 (vp vg vh : Value) (p g h : List Int) (m : Int) (w : World) (hp : RdI w vp p) (hg : RdI w vg g) (hh : RdI w vh h) (hlp : p.length ≤ 1099511627776) (hlg : g.length ≤ 1099511627776) (hlh : h.length ≤ 1099511627776) : Calls Try.prog 18 #[.agg #[vp], .agg #[vg], .agg #[vh], .int .i64 m] w (RW2B (liftR m p g h) w) :=
  (LiftPair_impl vp vg vh p g h m w hp hg hh hlp hlg hlh).mono fun _ _ q => q.two

end Go.Proofs.Ytlnjkjogedbhfaa
