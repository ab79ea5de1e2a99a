/- Factors over a prime: the reference's small functions. Conditions: a prime. -/
import Derived.Test.YtlnjkjogedbhfaaIFac2
import Derived.Test.YtlnjkjogedbhfaaI36
namespace Go.Proofs.Ytlnjkjogedbhfaa
open Go Go.RowKit
set_option linter.unusedSimpArgs false
set_option linter.unusedVariables false

/-- The next candidate, in place. -/
def RNext (M d n g B cap : Nat) (w : World) (e : Ending) (w' : World) : Prop :=
  ∃ ok zs, e = .returned (.bool ok) ∧ RowI w' B (.slice (some ⟨g, 0, none⟩) (d + 1) cap) zs ∧ zs.length = d + 1 ∧ Only g (g + 1) w w' ∧ (ok = true → n + 1 < M ^ d ∧ zs = cand M d (n + 1)) ∧ (ok = false → n + 1 = M ^ d)
set_option maxRecDepth 100000 in
set_option maxHeartbeats 4000000 in
theorem next_fac (M d n g B cap : Nat) (w : World) (hr : RowI w B (.slice (some ⟨g, 0, none⟩) (d + 1) cap) (cand M d n)) (hM : 2 ≤ M) (hM2 : M ≤ 13) (hd : d ≤ 99) (hn : n < M ^ d) : Calls Try.prog 146 #[.slice (some ⟨g, 0, none⟩) (d + 1) cap, .int .i64 M] w (RNext M d n g B cap w) := by
  have Hr := Lib.hid hr
  clear hr
  have hw1 : IntKind.i64.wrap ((M : Int) - 1) = (M : Int) - 1 := IntWalk.i64_in _ ⟨by omega, by omega⟩
  have Hn := Lib.hid hn
  clear hn
  go_enter Try.func146, Try.ntmps146
  go_wp2_with fail
  go_loopw [5] (fun i wr => ∃ k : Nat, k ≤ d ∧ i = .int .i64 k ∧ RowI wr B (.slice (some ⟨g, 0, none⟩) (d + 1) cap) (nxt (cand M d n) k) ∧ Only g (g + 1) w wr ∧ n % M ^ k + 1 = M ^ k) (fun i _ => d + 1 - (intOf i).toNat)
  case atStart => exact ⟨0, Nat.zero_le _, rfl, Hr.out, Only.refl _ _ _, by simp [Nat.mod_one]⟩
  case round =>
    obtain ⟨k, hk, rfl, hrow, honly, hlow⟩ := hrel
    have Hrow := Lib.hid hrow
    have Honly := Lib.hid honly
    have Hlow := Lib.hid hlow
    clear hlow hrow honly
    have hwk : IntKind.i64.wrap ((k : Int) + 1) = (k : Int) + 1 := IntWalk.i64_in _ ⟨by omega, by omega⟩
    have hlen : (nxt (cand M d n) k).length = d + 1 := by rw [nxt_length, cand_length]
    by_cases hlt : k < d
    · have hk1 : (k : Int) + 1 < ((d + 1 : Nat) : Int) := by omega
      have c1 := Hrow.out.cell (j := k) (by omega)
      rw [nxt_get _ _ _ (by rw [cand_length]; omega), if_neg (by omega), cand_get, if_pos hlt] at c1
      have c2 := Hrow.out.frozen k
      have hdl := dg_lt (M := M) (by omega) n k
      by_cases hdg : dg M n k + 1 < M
      · have H1 := Lib.hid (next_cand (d := d) hM hlt Hlow.out hdg)
        have H2 := Lib.hid (next_lt hM hlt Hn.out Hlow.out hdg)
        have H3 := Lib.hid (Hrow.out.set k ((dg M n k : Int) + 1))
        have H4 := Lib.hid (Honly.out.setCell (p := ⟨g, k, none⟩) (Nat.le_refl _) (Nat.lt_succ_self _) (.int .i64 ((dg M n k : Int) + 1)))
        generalize dg M n k = x at *
        have hx : (x : Int) < (M : Int) - 1 := by omega
        have hwx : IntKind.i64.wrap ((x : Int) + 1) = (x : Int) + 1 := IntWalk.i64_in _ ⟨by omega, by omega⟩
        go_wp2
        go_ret
        refine ⟨true, _, rfl, H3.out, by rw [List.length_set]; exact hlen, H4.out, fun _ => ⟨H2.out, H1.out⟩, fun h => by cases h⟩
      · have H3 := Lib.hid (Hrow.out.set k 0)
        have H4 := Lib.hid (Honly.out.setCell (p := ⟨g, k, none⟩) (Nat.le_refl _) (Nat.lt_succ_self _) (.int .i64 0))
        have H5 := Lib.hid (low_succ hM Hlow.out (show dg M n k + 1 = M by omega))
        generalize dg M n k = x at *
        have hx : ¬ ((x : Int) < (M : Int) - 1) := by omega
        go_wp2
        go_roundw
        case rel => exact ⟨k + 1, by omega, by go_num, H3.out, H4.out, H5.out⟩
        case measure => simp [intOf]; omega
    · obtain rfl : k = d := by omega
      have hk1 : ¬ ((k : Int) + 1 < ((k + 1 : Nat) : Int)) := by omega
      have H2 := Lib.hid (low_end Hn.out Hlow.out)
      go_wp2
      go_ret
      exact ⟨false, _, rfl, Hrow.out, hlen, Honly.out, fun h => (by cases h), fun _ => H2.out⟩

end Go.Proofs.Ytlnjkjogedbhfaa
