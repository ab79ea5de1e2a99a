/- The program's sort moves nothing in a list that is in order. Conditions: at most 20 wholes of small terms, in order. -/
import Derived.Test.YtlnjkjogedbhfaaI43
namespace Go.Proofs.Ytlnjkjogedbhfaa
open Go Go.RowKit
set_option linter.unusedSimpArgs false
set_option linter.unusedVariables false

set_option maxRecDepth 100000 in
set_option maxHeartbeats 4000000 in
theorem stable_impl (v : Value) (ls : List (List Int)) (w : World) (hv : RdWs w v ls) (hs : Srt ls) (hl19 : ls.length ≤ 19) : Calls Try.prog 147 #[v, .int .i64 ls.length, .func (.func 143) #[] #[]] w fun e w' => (∃ r, e = .returned r) ∧ Below w.heap.size w w' := by
  have Hs := Lib.hid hs
  have Hv := Lib.hid hv
  obtain ⟨ad, cap, rfl⟩ := hv.shape
  clear hs hv
  have h1 : ¬ ((20 : Int) ≤ (ls.length : Int)) := by omega
  have h2 : ¬ ((20 : Int) < (ls.length : Int)) := by omega
  go_enter Try.func147, Try.ntmps147
  go_wp2_with fail
  go_loopw [7, 8] (fun av bv wr => av = .int .i64 0 ∧ bv = .int .i64 20 ∧ wr = w) (fun _ _ _ => 0)
  case atStart => exact ⟨rfl, rfl, rfl⟩
  case round =>
    obtain ⟨rfl, rfl, rfl⟩ := hrel
    go_wp2_with fail
    (go_at_call 149; ((with_reducible refine (insert_impl _ ls _ Hv.out Hs.out).mono ?_); rintro e w1 ⟨⟨r, rfl⟩, hb1⟩))
    go_wp2_with fail
    go_loopw [6] (fun bs wx => bs = .int .i64 20 ∧ wx = w1) (fun _ _ => 0)
    case atStart => exact ⟨rfl, rfl⟩
    case round =>
      obtain ⟨rfl, rfl⟩ := hrel
      go_wp2
      go_end0
      exact ⟨⟨_, rfl⟩, hb1⟩

set_option maxRecDepth 100000 in
set_option maxHeartbeats 4000000 in
theorem sort_impl (v : Value) (ls : List (List Int)) (w : World) (hv : RdWs w v ls) (hs : Srt ls) (hl19 : ls.length ≤ 19) : Calls Try.prog 142 #[v, .func (.func 143) #[] #[]] w fun e w' => (∃ r, e = .returned r) ∧ Below w.heap.size w w' := by
  have Hs := Lib.hid hs
  have Hv := Lib.hid hv
  obtain ⟨ad, cap, rfl⟩ := hv.shape
  clear hs hv
  go_enter Try.func142, Try.ntmps142
  go_wp2_with fail
  (go_at_call 147; ((with_reducible refine (stable_impl _ ls _ Hv.out Hs.out hl19).mono ?_); rintro e w1 ⟨⟨r, rfl⟩, hb1⟩))
  go_wp2_with fail
  go_end0
  exact ⟨⟨_, rfl⟩, hb1⟩

end Go.Proofs.Ytlnjkjogedbhfaa
