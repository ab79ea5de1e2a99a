/- Rows and values of families, of the program and of the reference: the same, up to the bits of a NaN. Conditions: none. -/
import Derived.Test.YtcbaanidbkjmcaaRow
import Derived.Test.YtcbaanidbkjmcaaRuleOf
namespace Go.Proofs.Ytcbaanidbkjmcaa
open Go Go.RowKit

theorem ownsRow_rd {w : World} {B : Nat} {e : TypeId} {v : Value} {rs : List Nat} (h : w.ownsRow B e 1 v rs.length (rs.map (Value.float .f32))) : RdF w v rs := by
  rcases h.2 with ⟨rfl, hn⟩ | ⟨g, cap, cur, rfl, hb, hg, hle, hm, hs, ht⟩
  · exact ⟨none, 0, by rw [hn], .inl (by simpa using hn)⟩
  · refine ⟨_, cap, rfl, .inr ⟨g, 0, rfl, fun i hi => ?_⟩⟩
    have := World.ownsRow.cellAt h i (by omega)
    rw [Nat.zero_add, this]
    simp [hi]

theorem below_un {w w1 : World} {m : Nat} (h : Below (w.drewN m).heap.size (w.drewN m) w1) : Below w.heap.size w w1 := ⟨h.os, h.tape, h.output, h.size, h.block⟩

theorem grown_of_below {w w' : World} (h : Below w.heap.size w w') : w.grownBy w' none := ⟨h.os, h.tape, h.output, h.size, fun k hk _ => h.block k hk⟩

theorem ownsRow_below {w w' : World} {B : Nat} {e : TypeId} {v : Value} {n : Nat} {xs : List Value} (h : w.ownsRow B e 1 v n xs) (hb : Below w.heap.size w w') : w'.ownsRow B e 1 v n xs := by
  refine h.kept (grown_of_below hb) ?_
  cases hv : v.ownBlock with
  | none => exact .inl rfl
  | some g => exact .inr (by simp)

theorem rd_below {w w' : World} {v : Value} {rs : List Nat} (h : RdF w v rs) (hb : Below w.heap.size w w') : RdF w' v rs := by
  obtain ⟨ao, cap, hv, hr⟩ := h
  refine ⟨ao, cap, hv, ?_⟩
  rcases hr with hr | ⟨b, off, ha, hc⟩
  · exact .inl hr
  · refine .inr ⟨b, off, ha, fun i hi => ?_⟩
    rw [hb.cell (World.block_lt_of_cell? w _ (hc i hi))]
    exact hc i hi

theorem allFin_map (rs : List Nat) : allFin rs = (rs.map (nrm .f32)).all finF := by simp [allFin, List.all_map, Function.comp_def]

/-- A number, if it is finite. -/
def numF (x : Nat) : Nat := if finF x = true then x else nrm .f32 0
def RetNum (F : Nat) (ok : Bool) (w : World) (e : Ending) (w' : World) : Prop := ∃ r m, e = .returned (.tuple #[.float .f32 r, .bool ok]) ∧ nrm .f32 r = F ∧ w' = w.drewN m
/-- The same where memory is made on the way. -/
def RetNumB (F : Nat) (ok : Bool) (w : World) (e : Ending) (w' : World) : Prop := ∃ r, e = .returned (.tuple #[.float .f32 r, .bool ok]) ∧ nrm .f32 r = F ∧ Below w.heap.size w w'
/-- A new slice of floats, and whether it is there. -/
def RetRowB (F : List Nat × Bool) (w : World) (e : Ending) (w' : World) : Prop :=
  ∃ (v : Value) (rs : List Nat), e = .returned (.tuple #[v, .bool F.2]) ∧ rs.map (nrm .f32) = F.1 ∧ w'.ownsRow w.heap.size 22 1 v rs.length (rs.map (Value.float .f32)) ∧ Below w.heap.size w w'
theorem number_impl (x : Nat) (w : World) : Calls Try.prog 40 #[.float .f32 x] w (RetNum (numF (nrm .f32 x)) (finF (nrm .f32 x)) w) := by
  cases h : finF (nrm .f32 x)
  · have H := Lib.hid (show numF (nrm .f32 x) = nrm .f32 0 by simp [numF, h])
    go_enter Try.func40, Try.ntmps40
    go_wp2_with (go_at_call 39; refine (isFinite_impl _ _).mono ?_; rintro e w' ⟨m, rfl, rfl⟩)
    go_ret2
    rw [H.out]
    exact ⟨_, _, rfl, rfl, rfl⟩
  · have H := Lib.hid (show numF (nrm .f32 x) = nrm .f32 x by simp [numF, h])
    go_enter Try.func40, Try.ntmps40
    go_wp2_with (go_at_call 39; refine (isFinite_impl _ _).mono ?_; rintro e w' ⟨m, rfl, rfl⟩)
    go_ret2
    rw [H.out]
    exact ⟨_, _, rfl, rfl, rfl⟩

theorem number_spec (x : Nat) (w : World) : Calls Try.prog 44 #[.float .f32 x] w (RetNum (numF (nrm .f32 x)) (finF (nrm .f32 x)) w) := by
  cases h : finF (nrm .f32 x)
  · have H := Lib.hid (show numF (nrm .f32 x) = nrm .f32 0 by simp [numF, h])
    go_enter Try.func44, Try.ntmps44
    go_wp2_with (go_at_call 43; refine (isFinite_spec _ _).mono ?_; rintro e w' ⟨m, rfl, rfl⟩)
    go_ret2
    rw [H.out]
    exact ⟨_, _, rfl, rfl, rfl⟩
  · have H := Lib.hid (show numF (nrm .f32 x) = nrm .f32 x by simp [numF, h])
    go_enter Try.func44, Try.ntmps44
    go_wp2_with (go_at_call 43; refine (isFinite_spec _ _).mono ?_; rintro e w' ⟨m, rfl, rfl⟩)
    go_ret2
    rw [H.out]
    exact ⟨_, _, rfl, rfl, rfl⟩

def familyOk (kind n : Int) (x : Nat) : Bool := kindB kind n && finF x
def familyRowF (kind n : Int) (x : Nat) : List Nat × Bool :=
  if familyOk kind n x = true ∧ ((rowS kind x n.toNat).1.all finF) = true then ((rowS kind x n.toNat).1, true) else ([], false)

theorem kindB_bound {kind n : Int} (h : kindB kind n = true) : 0 ≤ n ∧ n ≤ 16 := by
  simp only [kindB, Bool.and_eq_true, inB_true] at h; omega

set_option maxRecDepth 100000 in
theorem familyRow_spec (kind n : Int) (x : Nat) (w : World) :
    Calls Try.prog 20 #[.int .i64 kind, .int .i64 n, .float .f32 x] w (RetRowB (familyRowF kind n (nrm .f32 x)) w) := by
  cases hk : kindB kind n
  · have H := Lib.hid (show familyRowF kind n (nrm .f32 x) = ([], false) by simp [familyRowF, familyOk, hk])
    go_enter Try.func20, Try.ntmps20
    go_wp2_with (first | (go_at_call 35; refine (family_spec _ _ _).mono ?_; rintro e w' ⟨rfl, rfl⟩) | (go_at_call 43; refine (isFinite_spec _ _).mono ?_; rintro e w' ⟨m, rfl, rfl⟩))
    go_ret2
    rw [H.out]
    exact ⟨_, [], rfl, rfl, World.ownsRow_nil _ _ _ _, Below.refl _ _⟩
  · cases hf : finF (nrm .f32 x)
    · have H := Lib.hid (show familyRowF kind n (nrm .f32 x) = ([], false) by simp [familyRowF, familyOk, hf])
      go_enter Try.func20, Try.ntmps20
      go_wp2_with (first | (go_at_call 35; refine (family_spec _ _ _).mono ?_; rintro e w' ⟨rfl, rfl⟩) | (go_at_call 43; refine (isFinite_spec _ _).mono ?_; rintro e w' ⟨m, rfl, rfl⟩))
      go_ret2
      rw [H.out]
      exact ⟨_, [], rfl, rfl, World.ownsRow_nil _ _ _ _, below_drewN (Below.refl _ _) _⟩
    · obtain ⟨h0, h1⟩ := kindB_bound hk
      obtain ⟨n, rfl⟩ := Int.eq_ofNat_of_zero_le h0
      have hr : ∀ m, Calls Try.prog 47 #[.int .i64 kind, .int .i64 n, .float .f32 x] (w.drewN m) (RetRow (rowS kind (nrm .f32 x) n).1 (w.drewN m)) := fun m => row_spec kind n x _ (by omega)
      have Hr := Lib.hid hr
      clear hr
      go_enter Try.func20, Try.ntmps20
      go_wp2_with (first | (go_at_call 35; refine (family_spec _ _ _).mono ?_; rintro e w' ⟨rfl, rfl⟩) | (go_at_call 43; refine (isFinite_spec _ _).mono ?_; rintro e w' ⟨m, rfl, rfl⟩))
      refine (Hr.out _).mono ?_
      rintro e w1 ⟨v, rs, rfl, hrs, hown, hbel⟩
      have hlen : rs.length = n + 1 := by rw [← rowS_length kind (nrm .f32 x) n, ← hrs, List.length_map]
      have Hrd := Lib.hid (ownsRow_rd hown)
      have Hrs := Lib.hid hrs
      have Hlen := Lib.hid hlen
      clear hrs hlen
      cases ha : allFin rs
      · have ha' : ((rowS kind (nrm .f32 x) n).1.all finF) = false := by rw [← Hrs.out, ← allFin_map]; exact ha
        have H := Lib.hid (show familyRowF kind n (nrm .f32 x) = ([], false) by simp [familyRowF, ha'])
        clear ha'
        go_wp2_with (go_at_call 42; refine (finite_spec _ _ _ Hrd.out (by rw [Hlen.out]; omega)).mono ?_; rintro e w' ⟨m, rfl, rfl⟩)
        go_ret2
        rw [H.out]
        exact ⟨_, [], rfl, rfl, World.ownsRow_nil _ _ _ _, below_drewN (below_un hbel) _⟩
      · have ha' : ((rowS kind (nrm .f32 x) n).1.all finF) = true := by rw [← Hrs.out, ← allFin_map]; exact ha
        have H := Lib.hid (show familyRowF kind n (nrm .f32 x) = ((rowS kind (nrm .f32 x) n).1, true) by simp [familyRowF, familyOk, hk, hf, ha'])
        clear ha'
        go_wp2_with (go_at_call 42; refine (finite_spec _ _ _ Hrd.out (by rw [Hlen.out]; omega)).mono ?_; rintro e w' ⟨m, rfl, rfl⟩)
        go_ret2
        rw [H.out]
        exact ⟨_, rs, rfl, Hrs.out, hown, below_drewN (below_un hbel) _⟩

set_option maxRecDepth 100000 in
theorem familyRow_impl (kind n : Int) (x : Nat) (w : World) :
    Calls Try.prog 21 #[.int .i64 kind, .int .i64 n, .float .f32 x] w (RetRowB (familyRowF kind n (nrm .f32 x)) w) := by
  cases hk : kindB kind n
  · have H := Lib.hid (show familyRowF kind n (nrm .f32 x) = ([], false) by simp [familyRowF, familyOk, hk])
    go_enter Try.func21, Try.ntmps21
    go_wp2_with (first | (go_at_call 37; refine (isKind_impl _ _ _).mono ?_; rintro e w' ⟨rfl, rfl⟩) | (go_at_call 39; refine (isFinite_impl _ _).mono ?_; rintro e w' ⟨m, rfl, rfl⟩))
    go_ret2
    rw [H.out]
    exact ⟨_, [], rfl, rfl, World.ownsRow_nil _ _ _ _, Below.refl _ _⟩
  · cases hf : finF (nrm .f32 x)
    · have H := Lib.hid (show familyRowF kind n (nrm .f32 x) = ([], false) by simp [familyRowF, familyOk, hf])
      go_enter Try.func21, Try.ntmps21
      go_wp2_with (first | (go_at_call 37; refine (isKind_impl _ _ _).mono ?_; rintro e w' ⟨rfl, rfl⟩) | (go_at_call 39; refine (isFinite_impl _ _).mono ?_; rintro e w' ⟨m, rfl, rfl⟩))
      go_ret2
      rw [H.out]
      exact ⟨_, [], rfl, rfl, World.ownsRow_nil _ _ _ _, below_drewN (Below.refl _ _) _⟩
    · obtain ⟨h0, h1⟩ := kindB_bound hk
      obtain ⟨n, rfl⟩ := Int.eq_ofNat_of_zero_le h0
      have hr : ∀ m, Calls Try.prog 41 #[.int .i64 kind, .int .i64 n, .float .f32 x] (w.drewN m) (RetRow (rowS kind (nrm .f32 x) n).1 (w.drewN m)) := fun m => row_impl kind n x _ (by omega)
      have Hr := Lib.hid hr
      clear hr
      go_enter Try.func21, Try.ntmps21
      go_wp2_with (first | (go_at_call 37; refine (isKind_impl _ _ _).mono ?_; rintro e w' ⟨rfl, rfl⟩) | (go_at_call 39; refine (isFinite_impl _ _).mono ?_; rintro e w' ⟨m, rfl, rfl⟩))
      refine (Hr.out _).mono ?_
      rintro e w1 ⟨v, rs, rfl, hrs, hown, hbel⟩
      have hlen : rs.length = n + 1 := by rw [← rowS_length kind (nrm .f32 x) n, ← hrs, List.length_map]
      have Hrd := Lib.hid (ownsRow_rd hown)
      have Hrs := Lib.hid hrs
      have Hlen := Lib.hid hlen
      clear hrs hlen
      cases ha : allFin rs
      · have ha' : ((rowS kind (nrm .f32 x) n).1.all finF) = false := by rw [← Hrs.out, ← allFin_map]; exact ha
        have H := Lib.hid (show familyRowF kind n (nrm .f32 x) = ([], false) by simp [familyRowF, ha'])
        clear ha'
        go_wp2_with (go_at_call 46; refine (areFinite_impl _ _ _ Hrd.out (by rw [Hlen.out]; omega)).mono ?_; rintro e w' ⟨m, rfl, rfl⟩)
        go_ret2
        rw [H.out]
        exact ⟨_, [], rfl, rfl, World.ownsRow_nil _ _ _ _, below_drewN (below_un hbel) _⟩
      · have ha' : ((rowS kind (nrm .f32 x) n).1.all finF) = true := by rw [← Hrs.out, ← allFin_map]; exact ha
        have H := Lib.hid (show familyRowF kind n (nrm .f32 x) = ((rowS kind (nrm .f32 x) n).1, true) by simp [familyRowF, familyOk, hk, hf, ha'])
        clear ha'
        go_wp2_with (go_at_call 46; refine (areFinite_impl _ _ _ Hrd.out (by rw [Hlen.out]; omega)).mono ?_; rintro e w' ⟨m, rfl, rfl⟩)
        go_ret2
        rw [H.out]
        exact ⟨_, rs, rfl, Hrs.out, hown, below_drewN (below_un hbel) _⟩

end Go.Proofs.Ytcbaanidbkjmcaa
