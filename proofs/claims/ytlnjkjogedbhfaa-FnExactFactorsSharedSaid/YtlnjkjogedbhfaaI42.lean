/- The program's comparison of wholes. Conditions: wholes of small terms. -/
import Derived.Test.YtlnjkjogedbhfaaI41
namespace Go.Proofs.Ytlnjkjogedbhfaa
open Go Go.RowKit
set_option linter.unusedSimpArgs false
set_option linter.unusedVariables false

/-- A number; not below 0 where a does not come before b. -/
def RCmp (a b : List Int) (w : World) (e : Ending) (w' : World) : Prop := ∃ c, e = .returned (.int .i64 c) ∧ (befB a b = false → 0 ≤ c) ∧ Below w.heap.size w w'
set_option maxRecDepth 100000 in
set_option maxHeartbeats 4000000 in
theorem compare_impl (va vb : Value) (a b : List Int) (w : World) (ha : RdI w va a) (hb : RdI w vb b) (hna : a ≠ []) (hnb : b ≠ []) (hla : a.length ≤ 100) (hlb : b.length ≤ 100) (hba : BdI 100 a) (hbb : BdI 100 b) : Calls Try.prog 143 #[.agg #[va], .agg #[vb]] w (RCmp a b w) := by
  have Hba := Lib.hid hba
  have Hbb := Lib.hid hbb
  obtain ⟨ba, oa, ca, rfl, qa, hc⟩ := ha.open hna
  obtain ⟨bb, ob, cb, rfl, qb, hc'⟩ := hb.open hnb
  have Hc := Lib.hid (fun (w' : World) (h : Below w.heap.size w w') i (hi : i < a.length) => (h.cell (p := ⟨ba, oa + i, none⟩) qa).trans (hc i hi))
  have Hc' := Lib.hid (fun (w' : World) (h : Below w.heap.size w w') i (hi : i < b.length) => (h.cell (p := ⟨bb, ob + i, none⟩) qb).trans (hc' i hi))
  have ha1 : 0 < a.length := List.length_pos_iff.2 hna
  clear hc hc' ha hb hna hnb hba hbb
  have hw1 : IntKind.i64.wrap ((a.length : Int) - 1 - ((b.length : Int) - 1)) = (a.length : Int) - 1 - ((b.length : Int) - 1) := IntWalk.i64_in _ ⟨by omega, by omega⟩
  by_cases hl : a.length = b.length
  · have Hd := Lib.hid (befB_go hl)
    have hl1 : (a.length : Int) - 1 = (b.length : Int) - 1 := by omega
    have Hl := Lib.hid hl
    clear hl
    have X0 := Lib.hid (show ((w.alloc (.cells #[.slice (some ⟨ba, oa, none⟩) a.length ca] 27)).alloc (.cells #[.slice (some ⟨bb, ob, none⟩) b.length cb] 27)).cell? ⟨w.heap.size, 0, none⟩ = some (.slice (some ⟨ba, oa, none⟩) a.length ca) by go_simp)
    have X1 := Lib.hid (show ((w.alloc (.cells #[.slice (some ⟨ba, oa, none⟩) a.length ca] 27)).alloc (.cells #[.slice (some ⟨bb, ob, none⟩) b.length cb] 27)).cell? ⟨w.heap.size + 1, 0, none⟩ = some (.slice (some ⟨bb, ob, none⟩) b.length cb) by go_simp)
    go_enter Try.func143, Try.ntmps143
    go_wp2
    go_region_held3 (fun w' => w'.cell? ⟨w.heap.size, 0, none⟩ = some (.slice (some ⟨ba, oa, none⟩) a.length ca) ∧ w'.cell? ⟨w.heap.size + 1, 0, none⟩ = some (.slice (some ⟨bb, ob, none⟩) b.length cb))
      (((try dsimp only); (try go_split_ands); refine ⟨?_, ?_⟩ <;> (first | assumption | (rw [hb1.cell (by first | omega | (simp <;> omega))]; assumption) | (refine (((Below.refl _ _).alloc (Nat.le_refl _) _).cell (by first | omega | (simp <;> omega))).trans (by assumption)) | (go_keep; done))))
      (first
        | (go_at_call 79; ((with_reducible refine (degree_exact (some ⟨ba, oa, none⟩) a.length ca _ (by omega)).mono ?_); rintro e w' ⟨rfl, rfl⟩))
        | (go_at_call 79; ((with_reducible refine (degree_exact (some ⟨bb, ob, none⟩) b.length cb _ (by omega)).mono ?_); rintro e w' ⟨rfl, rfl⟩)))
    go_wp2_with fail
    (go_at_call 79; ((with_reducible refine (degree_exact (some ⟨ba, oa, none⟩) a.length ca _ (by omega)).mono ?_); rintro e w' ⟨rfl, rfl⟩))
    go_wp2_with fail
    generalize hwz : World.alloc _ _ = wz
    have BZ := Lib.hid (show Below w.heap.size w wz by rw [← hwz]; (repeat' (first | (with_reducible exact Below.refl _ _) | (with_reducible assumption) | (with_reducible refine Below.alloc ?_ ?_ _) | (with_reducible refine Below.setCell ?_ ?_ _) | (with_reducible refine Below.drew ?_) | (with_reducible refine Below.via (by assumption) ?_ ?_) | go_size)))
    have B2 : Below ((w.alloc (.cells #[.slice (some ⟨ba, oa, none⟩) a.length ca] 27)).alloc (.cells #[.slice (some ⟨bb, ob, none⟩) b.length cb] 27)).heap.size ((w.alloc (.cells #[.slice (some ⟨ba, oa, none⟩) a.length ca] 27)).alloc (.cells #[.slice (some ⟨bb, ob, none⟩) b.length cb] 27)) wz := by rw [← hwz]; (repeat' (first | (with_reducible exact Below.refl _ _) | (with_reducible assumption) | (with_reducible refine Below.alloc ?_ ?_ _) | (with_reducible refine Below.setCell ?_ ?_ _) | (with_reducible refine Below.drew ?_) | (with_reducible refine Below.via (by assumption) ?_ ?_) | go_size))
    have x0 := (B2.cell (p := ⟨w.heap.size, 0, none⟩) (by simp; omega)).trans X0.out
    have x1 := (B2.cell (p := ⟨w.heap.size + 1, 0, none⟩) (by simp)).trans X1.out
    clear B2
    have m0 := World.block_lt_of_cell? _ _ x0
    have m1 := World.block_lt_of_cell? _ _ x1
    simp only at m0 m1
    clear hwz
    go_loopw [5] (fun i wr => ∃ k : Nat, k ≤ a.length ∧ i = .int .i64 ((k : Int) - 1) ∧ Below wz.heap.size wz wr ∧ befB a b = befGo a b k) (fun i _ => (intOf i + 1).toNat)
    case atStart => exact ⟨a.length, Nat.le_refl _, by go_num, by (repeat' (first | (with_reducible exact Below.refl _ _) | (with_reducible assumption) | (with_reducible refine Below.alloc ?_ ?_ _) | (with_reducible refine Below.setCell ?_ ?_ _) | (with_reducible refine Below.drew ?_) | (with_reducible refine Below.via (by assumption) ?_ ?_) | go_size)), Hd.out⟩
    case round =>
      obtain ⟨k, hk, rfl, hbel, hbe⟩ := hrel
      have Hbe := Lib.hid hbe
      have hsz := hbel.size
      have zbz := BZ.out.size
      have Hb := Lib.hid (BZ.out.trans (hbel.mono zbz))
      clear hbe hl1
      cases k with
      | zero =>
        go_wp2
        go_ret
        exact ⟨_, rfl, fun _ => Int.le_refl _, Hb.out⟩
      | succ k =>
        have hka : k < a.length := by omega
        have hkb : k < b.length := by have := Hl.out; omega
        have e0 := (hbel.cell (p := ⟨w.heap.size, 0, none⟩) m0).trans x0
        have e1 := (hbel.cell (p := ⟨w.heap.size + 1, 0, none⟩) m1).trans x1
        have c1 := Hc.out wr Hb.out k hka
        have c2 := Hc'.out wr Hb.out k hkb
        have s0 : w.heap.size < wr.heap.size := by omega
        have s1 : w.heap.size + 1 < wr.heap.size := by omega
        have b1 := Hba.out k
        have b2 := Hbb.out k
        have H2 := Lib.hid (show befB a b = if a.getD k 0 = b.getD k 0 then befGo a b k else decide (a.getD k 0 < b.getD k 0) from Hbe.out)
        generalize a.getD k 0 = x at *
        generalize b.getD k 0 = y at *
        rw [show (((k + 1 : Nat) : Int) - 1) = (k : Int) by omega]
        have hwk : IntKind.i64.wrap ((k : Int) - 1) = (k : Int) - 1 := IntWalk.i64_in _ ⟨by omega, by omega⟩
        have hwx : IntKind.i64.wrap (x - y) = x - y := IntWalk.i64_in _ ⟨by omega, by omega⟩
        by_cases hxy : x = y
        · have H3 := Lib.hid (show befB a b = befGo a b k by rw [H2.out, if_pos hxy])
          subst hxy
          have f1 : (x != x) = false := by simp
          go_wp2
          go_quiet (fail)
          go_wp2
          go_roundw
          case rel => exact ⟨k, by omega, by go_num, hbel.trans ((drewN_below _ _).mono hsz), H3.out⟩
          case measure => simp [intOf] <;> omega
        · have H3 := Lib.hid (show befB a b = decide (x < y) by rw [H2.out, if_neg hxy])
          have f1 : (x != y) = true := by simpa using hxy
          have f2 : (x == y) = false := by simpa using hxy
          go_wp2
          go_quiet (fail)
          go_wp2
          go_quiet (fail)
          go_wp2
          go_ret
          exact ⟨_, rfl, fun h => by rw [H3.out] at h; simp at h; omega, Hb.out.trans (((drewN_below _ _).trans ((drewN_below _ _).mono (Nat.le_refl _))).mono (by omega))⟩
  · have Hd := Lib.hid (befB_len hl)
    have hl1 : ¬ ((a.length : Int) - 1 = (b.length : Int) - 1) := by omega
    go_enter Try.func143, Try.ntmps143
    go_wp2
    go_region_held3 (fun w' => w'.cell? ⟨w.heap.size, 0, none⟩ = some (.slice (some ⟨ba, oa, none⟩) a.length ca) ∧ w'.cell? ⟨w.heap.size + 1, 0, none⟩ = some (.slice (some ⟨bb, ob, none⟩) b.length cb))
      (((try dsimp only); (try go_split_ands); refine ⟨?_, ?_⟩ <;> (first | assumption | (rw [hb1.cell (by first | omega | (simp <;> omega))]; assumption) | (refine (((Below.refl _ _).alloc (Nat.le_refl _) _).cell (by first | omega | (simp <;> omega))).trans (by assumption)) | (go_keep; done))))
      (first
        | (go_at_call 79; ((with_reducible refine (degree_exact (some ⟨ba, oa, none⟩) a.length ca _ (by omega)).mono ?_); rintro e w' ⟨rfl, rfl⟩))
        | (go_at_call 79; ((with_reducible refine (degree_exact (some ⟨bb, ob, none⟩) b.length cb _ (by omega)).mono ?_); rintro e w' ⟨rfl, rfl⟩)))
    go_wp2
    go_region_held3 (fun w' => w'.cell? ⟨w.heap.size, 0, none⟩ = some (.slice (some ⟨ba, oa, none⟩) a.length ca) ∧ w'.cell? ⟨w.heap.size + 1, 0, none⟩ = some (.slice (some ⟨bb, ob, none⟩) b.length cb))
      (((try dsimp only); (try go_split_ands); refine ⟨?_, ?_⟩ <;> (first | assumption | (rw [hb1.cell (by first | omega | (simp <;> omega))]; assumption) | (refine (((Below.refl _ _).alloc (Nat.le_refl _) _).cell (by first | omega | (simp <;> omega))).trans (by assumption)) | (go_keep; done))))
      (first
        | (go_at_call 79; ((with_reducible refine (degree_exact (some ⟨ba, oa, none⟩) a.length ca _ (by omega)).mono ?_); rintro e w' ⟨rfl, rfl⟩))
        | (go_at_call 79; ((with_reducible refine (degree_exact (some ⟨bb, ob, none⟩) b.length cb _ (by omega)).mono ?_); rintro e w' ⟨rfl, rfl⟩)))
    go_wp2
    go_ret
    exact ⟨_, rfl, fun h => by rw [Hd.out] at h; simp at h; omega, by (repeat' (first | (with_reducible exact Below.refl _ _) | (with_reducible assumption) | (with_reducible refine Below.alloc ?_ ?_ _) | (with_reducible refine Below.setCell ?_ ?_ _) | (with_reducible refine Below.drew ?_) | (with_reducible refine Below.via (by assumption) ?_ ?_) | go_size))⟩

end Go.Proofs.Ytlnjkjogedbhfaa
