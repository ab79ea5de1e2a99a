/- The laws' helpers over lists of floats: equal lists, up to the bits of a NaN, are found equal. Conditions: lengths of at most 2^40. -/
import Derived.Test.YtfamcgibcnldlaaWiden
import Derived.Below
import Derived.LoopTactic
import Derived.Deep.LoopGhost
import Derived.BigQuiet
import Derived.Test.YtfamcgibcnldlaaVreg
import Derived.WalkSmall
namespace Go.Proofs.Ytfamcgibcnldlaa
open Go Go.RowKit
set_option linter.unusedSimpArgs false
set_option linter.unusedVariables false

/-- A slice of floats that reads as the words 'rs'. -/
def RdF (w : World) (v : Value) (rs : List Nat) : Prop :=
  ∃ ao cap, v = .slice ao rs.length cap ∧ (rs = [] ∨ ∃ b off, ao = some ⟨b, off, none⟩ ∧ ∀ i (h : i < rs.length), w.cell? ⟨b, off + i, none⟩ = some (.float .f32 rs[i]))

set_option maxRecDepth 100000 in
set_option maxHeartbeats 400000 in
theorem eqF32_true (u v : Value) (rs ss : List Nat) (w : World) (hu : RdF w u rs) (hv : RdF w v ss) (h : rs.map (nrm .f32) = ss.map (nrm .f32)) (hl : rs.length ≤ 1099511627776) :
    Calls Try.prog 11 #[u, v] w (RetB true w) := by
  obtain ⟨ao, cap, rfl, hu⟩ := hu
  obtain ⟨bo, cap', rfl, hv⟩ := hv
  have hlen : rs.length = ss.length := by simpa using congrArg List.length h
  rw [← hlen]
  rcases hu with rfl | ⟨b, off, rfl, hc⟩
  · go_enter Try.func11, Try.ntmps11
    go_wp2
    refine wp_loop_rounds 1 ?_
    rw [rounds_succ]
    go_wp2
    go_ret
    exact ⟨0, rfl, rfl⟩
  · rcases hv with rfl | ⟨b', off', rfl, hc'⟩
    · simp at hlen
      subst hlen
      go_enter Try.func11, Try.ntmps11
      go_wp2
      refine wp_loop_rounds 1 ?_
      rw [rounds_succ]
      go_wp2
      go_ret
      exact ⟨0, rfl, rfl⟩
    · have Hc := Lib.hid hc
      have Hc' := Lib.hid hc'
      have Hl := Lib.hid hlen
      have Hh := Lib.hid h
      clear hc hc' hlen h
      go_enter Try.func11, Try.ntmps11
      go_wp2
      go_loopw [5] (fun i wr => ∃ k m : Nat, k ≤ rs.length ∧ i = .int .i64 k ∧ wr = w.drewN m) (fun i _ => rs.length - (intOf i).toNat)
      case atStart => exact ⟨0, 0, Nat.zero_le _, rfl, rfl⟩
      case round =>
        obtain ⟨k, m, hk, rfl, rfl⟩ := hrel
        by_cases hlt : k < rs.length
        · have c1 := Hc.out k hlt
          have c2 := Hc'.out k (by rw [← Hl.out]; exact hlt)
          have hn : nrm .f32 rs[k] = nrm .f32 (ss[k]'(by rw [← Hl.out]; exact hlt)) := by
            have := congrArg (·[k]?) Hh.out
            simpa [hlt, show k < ss.length by rw [← Hl.out]; exact hlt] using this
          generalize rs[k] = x at *
          generalize (ss[k]'(by rw [← Hl.out]; exact hlt)) = y at *
          have j1 : (0 : Int) ≤ (k : Int) := by omega
          have j2 : (k : Int) < (rs.length : Int) := by omega
          go_wp2
          refine wp_region_v 12 (fun _ _ u => u = .bool true) (by kernel_rfl) (by kernel_rfl) ?_
          simp only [List.take_succ_cons, List.take_zero, List.drop_succ_cons, List.drop_zero]
          repeat (first | (apply wpV_det; (exact rfl); (intro nq; go_simp; rfl); (intro K hK; go_simp; refine hK.use ?_; clear hK K)) | ((with_reducible refine wpV_fcvt 22 26 _ rfl .f32 .f64 _ ?_ Try.underlying26 rfl (fits_widen _) ?_ ?_); (rw [Try.underlying22]; rfl); (exact rfl); intro r hr; (intro K hK; go_simp; refine hK.use ?_; clear hK K)) | (apply wpV_call; (exact rfl); (intro nq; go_simp; exact ⟨rfl, rfl⟩); (intro nq; refine (sameFloat_true _ _ _ (by simp only [*])).mono ?_; rintro e w' ⟨mm, rfl, rfl⟩; exact ⟨_, rfl, rfl, nq + mm, by simp [Nat.add_assoc]⟩); (rintro u rfl); (intro K hK; go_simp; refine hK.use ?_; clear hK K)))
          refine wpV_nil (fun nq => ?_)
          refine wpList_nil ?_
          go_wp2
          go_roundw
          case rel => exact ⟨k + 1, _, by omega, by go_num, rfl⟩
          case measure => simp [intOf]; omega
        · go_wp2
          go_ret
          exact ⟨_, rfl, rfl⟩

end Go.Proofs.Ytfamcgibcnldlaa
