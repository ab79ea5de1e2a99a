/- Rows of a family, of the program and of the reference: the same numbers, up to the bits of a NaN. Conditions: the number of the row from 0 to 16. -/
import Derived.Test.YtfamcgibcnldlaaFin
import Derived.Test.YtfamcgibcnldlaaRule
import Derived.Test.YtfamcgibcnldlaaPush
namespace Go.Proofs.Ytfamcgibcnldlaa
open Go Go.RowKit
set_option linter.unusedSimpArgs false
set_option linter.unusedVariables false

theorem bcell {W w1 : World} (hb : Below W.heap.size W w1) : (∀ b o, b < W.heap.size → w1.cell? ⟨b, o, none⟩ = W.cell? ⟨b, o, none⟩) ∧ (∀ b o, b < W.heap.size → w1.frozen? ⟨b, o, none⟩ = W.frozen? ⟨b, o, none⟩) :=
  ⟨fun b o h => hb.cell (p := ⟨b, o, none⟩) h, fun b o h => hb.frozen (p := ⟨b, o, none⟩) h⟩

theorem info22 : (Try.prog.info? 22).map (fun i => (i.zero, i.size, i.bytes)) = some (some (.float .f32 0), 1, 4) := by kernel_rfl

/-- The row and the number before its last one, after k steps; x and all numbers with the bits of a NaN forgotten. -/
def rowS (kind : Int) (x : Nat) : Nat → List Nat × Nat
  | 0 => ([nrm .f32 one32], nrm .f32 0)
  | k + 1 =>
    let p := rowS kind x k
    let A := ruleF kind k
    let y := p.1.getD k 0
    (p.1 ++ [fop .sub .f32 (fop .mul .f32 (fop .add .f32 (fop .mul .f32 A.1 x) A.2.1) y) (fop .mul .f32 A.2.2 p.2)], y)

theorem rowS_length (kind : Int) (x k : Nat) : (rowS kind x k).1.length = k + 1 := by
  induction k with
  | zero => rfl
  | succ k ih => simp [rowS, ih]

/-- A new slice of floats that reads as 'rs' up to the bits of a NaN; nothing that was there has turned. -/
def RetRow (F : List Nat) (w : World) (e : Ending) (w' : World) : Prop :=
  ∃ (v : Value) (rs : List Nat), e = .returned v ∧ rs.map (nrm .f32) = F ∧ w'.ownsRow w.heap.size 22 1 v rs.length (rs.map (Value.float .f32)) ∧ Below w.heap.size w w'

def RowRel (kind : Int) (x : Nat) (w : World) (n : Nat) (v bf i : Value) (wr : World) : Prop :=
  ∃ (k : Nat) (rs : List Nat) (br : Nat), k ≤ n ∧ i = .int .i64 k ∧ bf = .float .f32 br ∧ nrm .f32 br = (rowS kind x k).2 ∧ rs.map (nrm .f32) = (rowS kind x k).1 ∧ rs.length = k + 1 ∧
    wr.ownsRow w.heap.size 22 1 v (k + 1) (rs.map (Value.float .f32)) ∧ Below w.heap.size w wr

set_option maxRecDepth 100000 in
set_option maxHeartbeats 400000 in
theorem row_impl (kind : Int) (n x : Nat) (w : World) (hn : n ≤ 16) :
    Calls Try.prog 27 #[.int .i64 kind, .int .i64 n, .float .f32 x] w (RetRow (rowS kind (nrm .f32 x) n).1 w) := by
  obtain ⟨i0, hi, hz0, hz1, hz2⟩ := info_parts info22
  go_enter Try.func27, Try.ntmps27
  go_wp2
  go_loopw [7, 8, 17] (fun v bf i wr => RowRel kind (nrm .f32 x) w n v bf i wr) (fun _ _ i _ => n - (intOf i).toNat)
  case atStart => exact ⟨0, [one32], 0, by omega, rfl, rfl, rfl, rfl, rfl, World.ownsRow_lit _ _ _ (by simp) (by decide) rfl, (Below.refl _ _).alloc (Nat.le_refl _) _⟩
  case round =>
    obtain ⟨k, rs, br, hk, rfl, rfl, hbr, hrs, hlen, hown, hbel⟩ := hrel
    by_cases hlt : k < n
    · have hy : nrm .f32 (rs.getD k 0) = (rowS kind (nrm .f32 x) k).1.getD k 0 := by
        rw [← hrs]; simp [List.getD, show k < rs.length by omega]
      obtain ⟨g, cap, rfl, hg⟩ := hown.form (by omega)
      have hc := hown.cellAt k (by omega)
      have hk' : (rs.map (Value.float .f32))[k]? = some (.float .f32 (rs.getD k 0)) := by simp [List.getD, show k < rs.length by omega]
      rw [hk'] at hc
      have hsz : w.heap.size ≤ wr.heap.size := hbel.size
      have hbr' := Lib.hid hbr
      have hrs' := Lib.hid hrs
      have hlen' := Lib.hid hlen
      clear hk' hbr hrs hlen
      generalize rs.getD k 0 = y at hc hy
      have hy' := Lib.hid hy
      clear hy
      have j1 : (0 : Int) ≤ (k : Int) := by omega
      have j2 : (k : Int) ≤ 16 := by omega
      go_wp2_with (first | (with_reducible refine wpList_fop rfl _ _ _ _ _ rfl rfl .f32 _ _ rfl rfl ?_; intro r m hr) | (go_at_call 22; refine (rule_impl _ _ _ (by omega) (by omega)).mono ?_; rintro e w' ⟨ra, rb, rc, m, rfl, ha, hb, hc, rfl⟩) | (at_builtin; (refine wpList_push hown i0 _ 4 hi hz0 hz1 hz2 rfl rfl _ _ 28 rfl Try.underlying28 _ _ rfl rfl rfl rfl (by unfold maxLen; omega) (by omega) (by omega) ?_); intro g1 cap1 w1 hown1 hat1 hlt1 hgrow1))
      go_roundw
      case rel =>
        refine ⟨k + 1, rs ++ [_], y, by omega, by go_num, rfl, ?_, ?_, by simp [hlen'.out], by simpa using hown1, ?_⟩
        · simp only [rowS]; exact hy'.out
        · simp only [rowS, List.map_append, hrs'.out, List.map_cons, List.map_nil, ← hy'.out, ← hbr'.out, *]
        · exact hbel.trans ⟨hgrow1.os, hgrow1.tape, hgrow1.output, hgrow1.size, fun j hj => hgrow1.block j (by simp; omega) (by simp [Value.ownBlock]; omega)⟩
      case measure => simp [intOf]; omega
    · obtain rfl : k = n := by omega
      go_wp2
      go_ret
      exact ⟨_, rs, rfl, hrs, by rw [hlen]; exact hown, hbel⟩

set_option maxRecDepth 100000 in
set_option maxHeartbeats 400000 in
theorem row_spec (kind : Int) (n x : Nat) (w : World) (hn : n ≤ 16) :
    Calls Try.prog 24 #[.int .i64 kind, .int .i64 n, .float .f32 x] w (RetRow (rowS kind (nrm .f32 x) n).1 w) := by
  obtain ⟨i0, hi, hz0, hz1, hz2⟩ := info_parts info22
  go_enter Try.func24, Try.ntmps24
  go_wp2
  go_loopw [7, 8, 9] (fun v bf i wr => RowRel kind (nrm .f32 x) w n v bf i wr) (fun _ _ i _ => n - (intOf i).toNat)
  case atStart => exact ⟨0, [one32], 0, by omega, rfl, rfl, rfl, rfl, rfl, World.ownsRow_lit _ _ _ (by simp) (by decide) rfl, (Below.refl _ _).alloc (Nat.le_refl _) _⟩
  case round =>
    obtain ⟨k, rs, br, hk, rfl, rfl, hbr, hrs, hlen, hown, hbel⟩ := hrel
    by_cases hlt : k < n
    · have hy : nrm .f32 (rs.getD k 0) = (rowS kind (nrm .f32 x) k).1.getD k 0 := by
        rw [← hrs]; simp [List.getD, show k < rs.length by omega]
      obtain ⟨g, cap, rfl, hg⟩ := hown.form (by omega)
      have hc := hown.cellAt k (by omega)
      have hk' : (rs.map (Value.float .f32))[k]? = some (.float .f32 (rs.getD k 0)) := by simp [List.getD, show k < rs.length by omega]
      rw [hk'] at hc
      have hsz : w.heap.size ≤ wr.heap.size := hbel.size
      have hbr' := Lib.hid hbr
      have hrs' := Lib.hid hrs
      have hlen' := Lib.hid hlen
      clear hk' hbr hrs hlen
      generalize rs.getD k 0 = y at hc hy
      have hy' := Lib.hid hy
      clear hy
      have j1 : (0 : Int) ≤ (k : Int) := by omega
      have j2 : (k : Int) ≤ 16 := by omega
      go_wp2_with (first | (with_reducible refine wpList_fop rfl _ _ _ _ _ rfl rfl .f32 _ _ rfl rfl ?_; intro r m hr) | (go_at_call 20; refine (rule_spec _ _ _ (by omega) (by omega)).mono ?_; rintro e w' ⟨ra, rb, rc, m, rfl, ha, hb, hc, rfl⟩) | (at_builtin; (refine wpList_push hown i0 _ 4 hi hz0 hz1 hz2 rfl rfl _ _ 28 rfl Try.underlying28 _ _ rfl rfl rfl rfl (by unfold maxLen; omega) (by omega) (by omega) ?_); intro g1 cap1 w1 hown1 hat1 hlt1 hgrow1))
      go_roundw
      case rel =>
        refine ⟨k + 1, rs ++ [_], y, by omega, by go_num, rfl, ?_, ?_, by simp [hlen'.out], by simpa using hown1, ?_⟩
        · simp only [rowS]; exact hy'.out
        · simp only [rowS, List.map_append, hrs'.out, List.map_cons, List.map_nil, ← hy'.out, ← hbr'.out, *]
        · exact hbel.trans ⟨hgrow1.os, hgrow1.tape, hgrow1.output, hgrow1.size, fun j hj => hgrow1.block j (by simp; omega) (by simp [Value.ownBlock]; omega)⟩
      case measure => simp [intOf]; omega
    · obtain rfl : k = n := by omega
      go_wp2
      go_ret
      exact ⟨_, rs, rfl, hrs, by rw [hlen]; exact hown, hbel⟩

end Go.Proofs.Ytfamcgibcnldlaa
