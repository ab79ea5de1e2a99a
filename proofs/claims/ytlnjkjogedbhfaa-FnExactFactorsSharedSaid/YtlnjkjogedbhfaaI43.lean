/- The program's sort moves nothing in a list that is in order. Conditions: at most 20 wholes of small terms, in order. -/
import Derived.Test.YtlnjkjogedbhfaaI42
namespace Go.Proofs.Ytlnjkjogedbhfaa
open Go Go.RowKit
set_option linter.unusedSimpArgs false
set_option linter.unusedVariables false

/-- A list in order, of small wholes. -/
structure Srt (ls : List (List Int)) : Prop where
  len : ls.length ≤ 20
  el : ∀ i, i < ls.length → ls.getD i [] ≠ [] ∧ (ls.getD i []).length ≤ 100 ∧ BdI 100 (ls.getD i [])
  srt : ∀ i, i + 1 < ls.length → befB (ls.getD (i + 1) []) (ls.getD i []) = false
set_option maxRecDepth 100000 in
set_option maxHeartbeats 4000000 in
theorem insert_impl (v : Value) (ls : List (List Int)) (w : World) (hv : RdWs w v ls) (hs : Srt ls) : Calls Try.prog 149 #[v, .int .i64 0, .int .i64 ls.length, .func (.func 143) #[] #[]] w fun e w' => (∃ r, e = .returned r) ∧ Below w.heap.size w w' := by
  have Hs := Lib.hid hs
  have hl20 := hs.len
  have Hv := Lib.hid hv
  obtain ⟨ad, cap, rfl, hcp, hr⟩ := hv
  have Hr := Lib.hid hr
  clear hs hr
  go_enter Try.func149, Try.ntmps149
  go_wp2_with fail
  go_loopw [8] (fun i wr => ∃ k : Nat, 1 ≤ k ∧ (k ≤ ls.length ∨ k = 1) ∧ i = .int .i64 k ∧ Below w.heap.size w wr) (fun i _ => 30 - (intOf i).toNat)
  case atStart => exact ⟨1, Nat.le_refl _, .inr rfl, by go_num, Below.refl _ _⟩
  case round =>
    obtain ⟨k, hk1, hk, rfl, hbel⟩ := hrel
    have hsz := hbel.size
    obtain ⟨l, hkl⟩ : ∃ k', k = k' + 1 := ⟨k - 1, by omega⟩
    by_cases hlt : k < ls.length
    · have hlt0 : l < ls.length := by omega
      obtain ⟨b, off, cap', hve, hb, hc⟩ := Hv.out.open (by intro h; rw [h] at hlt; simp at hlt)
      simp only [Value.slice.injEq, true_and] at hve
      obtain ⟨rfl, rfl⟩ := hve
      obtain ⟨u1, q1, r1⟩ := hc k hlt
      obtain ⟨u0, q0, r0⟩ := hc l hlt0
      have R1 := Lib.hid r1
      have R0 := Lib.hid r0
      obtain ⟨p1, n1, rfl⟩ := r1.shape
      obtain ⟨p0, n0, rfl⟩ := r0.shape
      have E1 := Lib.hid (Hs.out.el k hlt)
      have E0 := Lib.hid (Hs.out.el l hlt0)
      have Es := Lib.hid (show befB (ls.getD k []) (ls.getD l []) = false by rw [hkl]; exact Hs.out.srt l (by omega))
      have c1 := (hbel.cell (p := ⟨b, off + k, none⟩) hb).trans q1
      have c0 := (hbel.cell (p := ⟨b, off + l, none⟩) hb).trans q0
      clear q1 q0 hc r1 r0
      have hw1 : IntKind.i64.wrap ((k : Int) - 1) = (l : Int) := by rw [show (k : Int) - 1 = (l : Int) by omega]; exact IntWalk.i64_in _ ⟨by omega, by omega⟩
      have hw2 : IntKind.i64.wrap ((k : Int) + 1) = (k : Int) + 1 := IntWalk.i64_in _ ⟨by omega, by omega⟩
      have hkn : 0 < k := by omega
      have hk0 : (0 : Int) < (k : Int) := by omega
      have hk3 : (k : Int) < (ls.length : Int) := by omega
      have hk6 : (l : Int) < (ls.length : Int) := by omega
      have Hkl := Lib.hid hkl
      clear hkl
      generalize ls.getD k [] = A at *
      generalize ls.getD l [] = B at *
      have hB1 : b < wr.heap.size := by omega
      go_wp2
      go_loopw [9] (fun j wx => j = .int .i64 (k : Int) ∧ wx = wr) (fun _ _ => 0)
      case atStart => exact ⟨rfl, rfl⟩
      case round =>
        obtain ⟨rfl, rfl⟩ := hrel
        go_wp2
        go_region_held3 (fun w' => w'.cell? ⟨b, off + k, none⟩ = some (.slice p1 A.length n1) ∧ w'.cell? ⟨b, off + l, none⟩ = some (.slice p0 B.length n0))
          (((try dsimp only); (try go_split_ands); refine ⟨?_, ?_⟩ <;> (first | assumption | (rw [hbc.cell (by first | omega | (simp <;> omega))]; assumption) | (refine (((Below.refl _ _).alloc (Nat.le_refl _) _).cell (by first | omega | (simp <;> omega))).trans (by assumption)) | (go_keep; done))))
          (first | (go_at_call 143; ((with_reducible refine (compare_impl _ _ A B _ (R1.out.below (by (repeat' (first | (with_reducible exact Below.refl _ _) | (with_reducible assumption) | (with_reducible refine Below.alloc ?_ ?_ _) | (with_reducible refine Below.setCell ?_ ?_ _) | (with_reducible refine Below.drew ?_) | (with_reducible refine Below.via (by assumption) ?_ ?_) | go_size)))) (R0.out.below (by (repeat' (first | (with_reducible exact Below.refl _ _) | (with_reducible assumption) | (with_reducible refine Below.alloc ?_ ?_ _) | (with_reducible refine Below.setCell ?_ ?_ _) | (with_reducible refine Below.drew ?_) | (with_reducible refine Below.via (by assumption) ?_ ?_) | go_size)))) E1.out.1 E0.out.1 E1.out.2.1 E0.out.2.1 E1.out.2.2 E0.out.2.2).mono ?_); rintro e w1 ⟨c, rfl, hcc, hbc⟩; have hc9 : ¬ (c < 0) := (by have := hcc Es.out; omega); have zc := hbc.size)))
        go_wp2_with fail
        go_roundw
        case rel => exact ⟨k + 1, by omega, .inl (by omega), by go_num, by (repeat' (first | (with_reducible exact Below.refl _ _) | (with_reducible assumption) | (with_reducible refine Below.alloc ?_ ?_ _) | (with_reducible refine Below.setCell ?_ ?_ _) | (with_reducible refine Below.drew ?_) | (with_reducible refine Below.via (by assumption) ?_ ?_) | go_size))⟩
        case measure => simp [intOf]; omega
    · have hk3 : ¬ ((k : Int) < (ls.length : Int)) := by omega
      go_wp2
      go_end0
      exact ⟨⟨_, rfl⟩, hbel⟩

end Go.Proofs.Ytlnjkjogedbhfaa
