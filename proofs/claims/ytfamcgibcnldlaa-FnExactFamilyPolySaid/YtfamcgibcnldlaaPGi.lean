/- The terms of a family's polynomials, of the program. Conditions: the degree from 0 to 16. -/
import Derived.Test.YtfamcgibcnldlaaPG
namespace Go.Proofs.Ytfamcgibcnldlaa
open Go Go.RowKit
set_option linter.unusedSimpArgs false
set_option linter.unusedVariables false

set_option maxRecDepth 100000 in
set_option maxHeartbeats 1000000 in
theorem terms_impl (kind : Int) (n : Nat) (w : World) (hn : n ≤ 16) :
    Calls Try.prog 34 #[.int .i64 kind, .int .i64 n] w fun e w' => ∃ g cap one rs, e = .returned (.slice (some ⟨g, 0, none⟩) (n + 1) cap) ∧ w'.cell? ⟨g, n, none⟩ = some one ∧ RdV w' one (fl rs) ∧ rs.map (nrm .f32) = (termsS kind n).1 ∧ Below w.heap.size w w' := by
  go_enter Try.func34, Try.ntmps34
  go_wp2
  go_loopw [5, 6, 18] (fun ov bv i wr => ∃ (m : Nat) (vs : List Value) (one : Value) (rs bs : List Nat), m ≤ n ∧ i = .int .i64 m ∧ RowV 28 wr w.heap.size ov vs ∧ vs.length = m + 1 ∧ vs[m]? = some one ∧ RdA wr ov one rs ∧ RdA wr ov bv bs ∧ rs.map (nrm .f32) = (termsS kind m).1 ∧ bs.map (nrm .f32) = (termsS kind m).2 ∧ Below w.heap.size w wr) (fun _ _ i _ => n - (intOf i).toNat)
  case atStart =>
    refine ⟨0, [.slice (some ⟨w.heap.size, 0, none⟩) 1 1], .slice (some ⟨w.heap.size, 0, none⟩) 1 1, [one32], [], Nat.zero_le _, rfl, ?_, rfl, rfl, ⟨?_, .inr ?_⟩, ⟨?_, .inl rfl⟩, rfl, rfl, by (repeat' (first | (with_reducible exact Below.refl _ _) | (with_reducible assumption) | (with_reducible refine Below.alloc ?_ ?_ _) | (with_reducible refine Below.setCell ?_ ?_ _) | (with_reducible refine Below.drew ?_) | (with_reducible refine Below.via (by assumption) ?_ ?_) | go_size))⟩
    · exact World.ownsRow.alloc (row_one (by simp) (by simp) _ _) _
    · exact ((rd_one (by simp)).alloc _).alloc _
    · simp [Value.ownBlock]
    · exact rd_nil _ _
  case round =>
    obtain ⟨m, vs, one, rs, bs, hm, rfl, hrow, hvl, hvm, honeA, hbfA, hrs, hbs, hbel⟩ := hrel
    have hsz := hbel.size
    have hrl : rs.length ≤ 17 := by have := congrArg List.length hrs; simp [termsS_length] at this; omega
    have hbl : bs.length ≤ 17 := by have := congrArg List.length hbs; simp [termsS_length2] at this; omega
    obtain ⟨g, cap, rfl, hg0, hg1, hg2, hg3, hcells, _⟩ := hrow.own.open (by rintro rfl; simp at hvl)
    have c1 := hcells m (by omega)
    rw [hvm] at c1
    rw [hvl] at hrow ⊢
    have hone := honeA.1
    have hbf := hbfA.1
    obtain ⟨ao1, cap1, rfl, _⟩ := hone.shape
    obtain ⟨ao2, cap2, rfl, _⟩ := hbf.shape
    simp only [fl_length] at hone hbf c1 honeA hbfA ⊢
    have Hrs := Lib.hid hrs
    have Hbs := Lib.hid hbs
    have Hbel := Lib.hid hbel
    have Hvl := Lib.hid hvl
    have HA := Lib.hid honeA
    have Hrow0 := Lib.hid hrow
    clear hrs hbs hcells hvm hvl honeA hbfA hrow
    by_cases hlt : m < n
    · have j3 : (0 : Int) ≤ (m : Int) := by omega
      have j4 : (m : Int) ≤ 16 := by omega
      clear hbel
      go_wp2_with (go_at_call 22; go_must (refine (rule_impl _ _ _ (by omega) (by omega)).mono ?_); rintro e w' ⟨ra, rb, rc, q, rfl, ha, hb, hc, rfl⟩)
      have Hone0 := Lib.hid hone
      have Hbf0 := Lib.hid hbf
      have Habc := Lib.hid (And.intro ha (And.intro hb hc))
      clear hone hbf ha hb hc
      go_loopw [12, 36] (fun nv j wi => ∃ (k : Nat) (ts : List Nat), k ≤ rs.length + 1 ∧ j = .int .i64 k ∧ RowV 22 wi wr.heap.size nv (fl ts) ∧ ts.map (nrm .f32) = buildN (termV (ruleF kind m) (rs.map (nrm .f32)) (bs.map (nrm .f32))) k ∧ Below wr.heap.size wr wi) (fun _ j _ => rs.length + 1 - (intOf j).toNat)
      case atStart => exact ⟨0, [], Nat.zero_le _, rfl, row_nil (w := wr.drewN q) (Nat.le_refl _) _, rfl, (below_drewN (Below.refl _ _) _).alloc (Nat.le_refl _) _⟩
      case round =>
        obtain ⟨k, ts, hk, rfl, hrow2, hts, hbel2⟩ := hrel
        have hsz2 := hbel2.size
        have htl : ts.length = k := by have := congrArg List.length hts; simpa using this
        by_cases hk2 : k < rs.length + 1
        · have Hone := Lib.hid (Hone0.out.below hbel2)
          have Hbf := Lib.hid (Hbf0.out.below hbel2)
          have Hl := Lib.hid (show (fl ts).length ≤ 1099511627776 by simp; omega)
          have Hts := Lib.hid hts
          have Hbel2 := Lib.hid hbel2
          have j1 : (0 : Int) ≤ (k : Int) := by omega
          have j2 : (k : Int) ≤ (rs.length : Int) := by omega
          clear hts hbel2 htl
          go_wp2_with (first | (with_reducible refine wpList_fop rfl _ _ _ _ _ rfl rfl .f32 _ _ rfl rfl ?_; intro r m hr) | (go_at_call 48; go_must (refine (realAt_impl _ _ _ _ (by first | exact Hone.out | exact Hbf.out) (by omega) (by omega) (by omega)).mono ?_); rintro e w' ⟨rfl, rfl⟩) | (at_builtin; go_must (refine wpList_pushV (.float .f32 0) 4 hrow2 info22 rfl rfl (by decide) rfl _ _ rfl Try.underlying28 Hl.out (by omega) rfl rfl rfl rfl rfl rfl ?_); intro v1 w1 hr1 hb1 hg1 ho1))
          go_roundw
          case rel =>
            refine ⟨k + 1, ts ++ [_], by omega, by go_num, by simpa [fl] using hr1, ?_, Hbel2.out.trans hb1⟩
            obtain ⟨ha, hb, hc⟩ := Habc.out
            rw [List.map_append, Hts.out, buildN_succ]
            simp only [List.map_cons, List.map_nil, termV, rat_map, *]
          case measure => simp [intOf]; omega
        · obtain rfl : k = rs.length + 1 := by omega
          clear Habc
          have Hnext := Lib.hid (terms_step Hrs.out Hbs.out hts)
          have Hrow := Lib.hid (Hrow0.out.below hbel2)
          have HA1 := Lib.hid (HA.out.below hbel2)
          have HA2 := Lib.hid (RdA.new (ov := .slice (some ⟨g, 0, none⟩) (m + 1) cap) hrow2 (by intro g' hg'; simp [Value.ownBlock] at hg'; omega))
          obtain ⟨ao3, cap3, rfl, _⟩ := hrow2.rd.shape
          simp only [fl_length] at HA2 ⊢
          have Hb2 := Lib.hid (Hbel.out.trans (hbel2.mono hsz))
          have Hl := Lib.hid (show vs.length ≤ 1099511627776 by have := Hvl.out; omega)
          clear hts hbel2 hrow2 htl
          go_wp2_with (at_builtin; go_must (refine wpList_pushV (.slice none 0 0) 24 Hrow.out infoS rfl rfl (by decide) rfl _ _ rfl Try.underlying50 Hl.out (by omega) rfl rfl rfl rfl rfl rfl ?_); intro v1 w1 hr1 hb1 hg1 ho1)
          go_roundw
          case rel => exact ⟨m + 1, vs ++ [_], _, ts, rs, by omega, by go_num, hr1, by simp [Hvl.out], by rw [List.getElem?_append_right (by rw [Hvl.out]; exact Nat.le_refl _), Hvl.out, Nat.sub_self]; rfl, HA2.out.push hg1 ho1, HA1.out.push hg1 ho1, Hnext.out, by rw [Hrs.out]; rfl, Hb2.out.trans hb1⟩
          case measure => simp [intOf]; omega
    · obtain rfl : m = n := by omega
      go_wp2
      go_ret
      exact ⟨g, cap, _, rs, rfl, c1, hone, Hrs.out, hbel⟩

end Go.Proofs.Ytfamcgibcnldlaa
