/- Whether numbers are finite: lists of floats, complex numbers, lists of them; of the program and of the reference. Conditions: lengths of at most 2^40. -/
import Derived.Test.YtklonahkacikbaaU2
namespace Go.Proofs.Ytklonahkacikbaa
set_option linter.unusedSimpArgs false
set_option linter.unusedVariables false
open Go Go.RowKit

/-- Finite, of a word with the bits of a NaN forgotten. -/
def finF (x : Nat) : Bool := fcmp .eql .f32 (fop .sub .f32 x x) (nrm .f32 0)
def allFin (rs : List Nat) : Bool := rs.all fun r => finF (nrm .f32 r)

theorem isFinite_impl (x : Nat) (w : World) : Calls Try.prog 58 #[.float .f32 x] w (RetB (finF (nrm .f32 x)) w) := by
  go_enter Try.func58, Try.ntmps58
  go_wp2_with (with_reducible refine wpList_fop rfl _ _ _ _ _ rfl rfl .f32 _ _ rfl rfl ?_; intro r m hr)
  go_ret
  exact ⟨_, rfl, rfl⟩

theorem isFinite_spec (x : Nat) (w : World) : Calls Try.prog 64 #[.float .f32 x] w (RetB (finF (nrm .f32 x)) w) := by
  go_enter Try.func64, Try.ntmps64
  go_wp2_with (with_reducible refine wpList_fop rfl _ _ _ _ _ rfl rfl .f32 _ _ rfl rfl ?_; intro r m hr)
  go_ret
  exact ⟨_, rfl, rfl⟩

theorem notFinite_impl (x : Nat) (w : World) : Calls Try.prog 86 #[.float .f32 x] w (RetB (!finF (nrm .f32 x)) w) := by
  go_enter Try.func86, Try.ntmps86
  go_wp2_with (go_at_call 58; refine (isFinite_impl _ _).mono ?_; rintro e w' ⟨m, rfl, rfl⟩)
  go_ret
  exact ⟨_, rfl, rfl⟩

theorem allFin_true_iff (rs : List Nat) : allFin rs = true ↔ ∀ i (h : i < rs.length), finF (nrm .f32 rs[i]) = true := by
  simp only [allFin, List.all_eq_true]
  constructor
  · intro h i hi; exact h _ (List.getElem_mem hi)
  · intro h x hx
    obtain ⟨i, hi, rfl⟩ := List.getElem_of_mem hx
    exact h i hi
theorem allFin_false {rs : List Nat} {i : Nat} (h : i < rs.length) (hf : finF (nrm .f32 rs[i]) = false) : allFin rs = false := by
  cases ha : allFin rs with
  | false => rfl
  | true => rw [allFin_true_iff] at ha; rw [ha i h] at hf; cases hf
theorem allFin_take {rs : List Nat} {k : Nat} (h : ∀ i (h : i < rs.length), i < k → finF (nrm .f32 rs[i]) = true) (hk : rs.length ≤ k) : allFin rs = true :=
  (allFin_true_iff rs).2 fun i hi => h i hi (by omega)

def FinUpto (rs : List Nat) (k : Nat) : Prop := ∀ i (h : i < rs.length), i < k → finF (nrm .f32 rs[i]) = true
theorem FinUpto.zero (rs : List Nat) : FinUpto rs 0 := fun _ _ h => absurd h (by omega)
theorem FinUpto.succ {rs : List Nat} {k : Nat} (h : FinUpto rs k) (hk : k < rs.length) (hf : finF (nrm .f32 rs[k]) = true) : FinUpto rs (k + 1) := fun i hi hik => by
  by_cases e : i = k
  · subst e; exact hf
  · exact h i hi (by omega)

def fl (rs : List Nat) : List Value := rs.map (Value.float .f32)
@[simp] theorem fl_length (rs : List Nat) : (fl rs).length = rs.length := by simp [fl]
theorem fl_get {rs : List Nat} {i : Nat} (h : i < rs.length) : (fl rs)[i]? = some (.float .f32 (rs.getD i 0)) := by simp [fl, List.getD, h]
theorem RdV.openF {w : World} {v : Value} {rs : List Nat} (h : RdV w v (fl rs)) : (rs = [] ∧ ∃ ao cap, v = .slice ao 0 cap) ∨
    ∃ b off cap, v = .slice (some ⟨b, off, none⟩) rs.length cap ∧ b < w.heap.size ∧ (rs.length ≤ cap ∧ cap ≤ maxLen) ∧ ∀ i (_ : i < rs.length), w.cell? ⟨b, off + i, none⟩ = some (.float .f32 rs[i]) := by
  by_cases hn : rs = []
  · subst hn
    obtain ⟨ao, cap, rfl, _⟩ := h.shape
    exact .inl ⟨rfl, ao, cap, rfl⟩
  · obtain ⟨b, off, cap, rfl, hb, hc, hr⟩ := h.open (by simpa [fl] using hn)
    rw [fl_length] at hc hr ⊢
    exact .inr ⟨b, off, cap, rfl, hb, hc, fun i hi => by rw [hr i hi, fl_get hi]; simp [List.getD, hi]⟩

def RetIx (b : Bool) (w : World) (e : Ending) (w' : World) : Prop := ∃ (j : Int) (m : Nat), e = .returned (.int .i64 j) ∧ decide (0 ≤ j) = b ∧ w' = w.drewN m
set_option maxRecDepth 100000 in
set_option maxHeartbeats 400000 in
theorem indexNot_impl (v : Value) (rs : List Nat) (w : World) (hv : RdV w v (fl rs)) (hl : rs.length ≤ 1099511627776) :
    Calls Try.prog 97 #[v, .func (.func 86) #[] #[]] w (RetIx (!allFin rs) w) := by
  rcases hv.openF with ⟨rfl, ao, cap, rfl⟩ | ⟨b, off, cap, rfl, hb, hcp, hc⟩
  · clear hv
    go_enter Try.func97, Try.ntmps97
    go_wp2
    refine wp_loop_rounds 1 ?_
    rw [rounds_succ]
    go_wp2
    go_ret
    exact ⟨-1, 0, rfl, rfl, rfl⟩
  · have Hc := Lib.hid hc
    clear hc hv
    go_enter Try.func97, Try.ntmps97
    go_wp2
    go_loopw [8] (fun i wr => ∃ k m : Nat, k ≤ rs.length ∧ i = .int .i64 k ∧ wr = w.drewN m ∧ FinUpto rs k) (fun i _ => rs.length - (intOf i).toNat)
    case atStart => exact ⟨0, 0, Nat.zero_le _, rfl, rfl, FinUpto.zero rs⟩
    case round =>
      obtain ⟨k, m, hk, rfl, rfl, hf⟩ := hrel
      by_cases hlt : k < rs.length
      · have c1 := Hc.out k hlt
        by_cases hx : finF (nrm .f32 rs[k]) = true
        · have H2 := Lib.hid (hf.succ hlt hx)
          clear hf
          go_wp2_with (go_at_call 86; refine (notFinite_impl _ _).mono ?_; rintro e w' ⟨m, rfl, rfl⟩)
          go_roundw
          case rel => exact ⟨k + 1, _, by omega, by go_num, by first | rfl | simp [Nat.add_assoc], H2.out⟩
          case measure => simp [intOf]; omega
        · have hx : finF (nrm .f32 rs[k]) = false := by simpa using hx
          have H2 := Lib.hid (allFin_false hlt hx)
          clear hf
          go_wp2_with (go_at_call 86; refine (notFinite_impl _ _).mono ?_; rintro e w' ⟨m, rfl, rfl⟩)
          go_ret
          rw [H2.out]
          exact ⟨_, _, rfl, by simp, by first | rfl | (simp; rfl)⟩
      · have H2 := Lib.hid (allFin_take hf (by omega))
        clear hf
        go_wp2
        go_ret
        rw [H2.out]
        exact ⟨_, _, rfl, by simp, rfl⟩

set_option maxRecDepth 100000 in
theorem containsNot_impl (v : Value) (rs : List Nat) (w : World) (hv : RdV w v (fl rs)) (hl : rs.length ≤ 1099511627776) :
    Calls Try.prog 85 #[v, .func (.func 86) #[] #[]] w (RetB (!allFin rs) w) := by
  have Hv := Lib.hid hv
  clear hv
  go_enter Try.func85, Try.ntmps85
  go_wp2_with (go_at_call 97; refine (indexNot_impl _ _ _ Hv.out hl).mono ?_; rintro e w' ⟨j, m, rfl, hj, rfl⟩)
  all_goals
    go_ret
    exact ⟨_, by simp [*], rfl⟩

set_option maxRecDepth 100000 in
theorem areFinite_impl (v : Value) (rs : List Nat) (w : World) (hv : RdV w v (fl rs)) (hl : rs.length ≤ 1099511627776) :
    Calls Try.prog 75 #[v] w (RetB (allFin rs) w) := by
  have Hv := Lib.hid hv
  clear hv
  go_enter Try.func75, Try.ntmps75
  go_wp2_with (go_at_call 85; refine (containsNot_impl _ _ _ Hv.out hl).mono ?_; rintro e w' ⟨m, rfl, rfl⟩)
  go_ret
  exact ⟨_, by simp, rfl⟩

end Go.Proofs.Ytklonahkacikbaa

/- Complex numbers and lists of them: finite ones; of the program and of the reference. Conditions: lengths of at most 2^40. -/
namespace Go.Proofs.Ytklonahkacikbaa
set_option linter.unusedSimpArgs false
set_option linter.unusedVariables false
open Go Go.RowKit

def cx (rs : List C2) : List Value := rs.map cxv
@[simp] theorem cx_length (rs : List C2) : (cx rs).length = rs.length := by simp [cx]
theorem cx_get {rs : List C2} {i : Nat} (h : i < rs.length) : (cx rs)[i]? = some (cxv rs[i]) := by simp [cx, h]
theorem cx_one (rs : List C2) : ∀ u ∈ cx rs, u.oneCell' = true := by
  intro u hu
  simp only [cx, List.mem_map] at hu
  obtain ⟨r, _, rfl⟩ := hu
  rfl
theorem cx_take {rs : List C2} {k : Nat} (h : k < rs.length) : cx (rs.take k) ++ [cxv rs[k]] = cx (rs.take (k + 1)) := by
  rw [List.take_succ_eq_append_getElem h, cx, cx, List.map_append]; rfl
theorem cx_takes (rs : List C2) (n : Nat) : cx (rs.take n) = (cx rs).take n := by rw [cx, cx, List.map_take]
theorem infoC : (Try.prog.info? 31).map (fun i => (i.zero, i.size, i.bytes)) = some (some (.complex .f32 0 0), 1, 8) := by kernel_rfl
theorem RdV.openC {w : World} {v : Value} {rs : List C2} (h : RdV w v (cx rs)) : (rs = [] ∧ ∃ ao cap, v = .slice ao 0 cap) ∨
    ∃ b off cap, v = .slice (some ⟨b, off, none⟩) rs.length cap ∧ b < w.heap.size ∧ (rs.length ≤ cap ∧ cap ≤ maxLen) ∧ ∀ i (_ : i < rs.length), w.cell? ⟨b, off + i, none⟩ = some (.complex .f32 rs[i].1 rs[i].2) := by
  by_cases hn : rs = []
  · subst hn
    obtain ⟨ao, cap, rfl, _⟩ := h.shape
    exact .inl ⟨rfl, ao, cap, rfl⟩
  · obtain ⟨b, off, cap, rfl, hb, hc, hr⟩ := h.open (by simpa [cx] using hn)
    rw [cx_length] at hc hr ⊢
    exact .inr ⟨b, off, cap, rfl, hb, hc, fun i hi => by rw [hr i hi, cx_get hi]; rfl⟩

/-- Both parts finite. -/
def finC (z : C2) : Bool := finF z.1 && finF z.2
def allFinC (rs : List C2) : Bool := rs.all fun r => finC (nc r)
theorem allFinC_true_iff (rs : List C2) : allFinC rs = true ↔ ∀ i (h : i < rs.length), finC (nc rs[i]) = true := by
  simp only [allFinC, List.all_eq_true]
  constructor
  · intro h i hi; exact h _ (List.getElem_mem hi)
  · intro h x hx
    obtain ⟨i, hi, rfl⟩ := List.getElem_of_mem hx
    exact h i hi
theorem allFinC_false {rs : List C2} {i : Nat} (h : i < rs.length) (hf : finC (nc rs[i]) = false) : allFinC rs = false := by
  cases ha : allFinC rs with
  | false => rfl
  | true => rw [allFinC_true_iff] at ha; rw [ha i h] at hf; cases hf
def FinUptoC (rs : List C2) (k : Nat) : Prop := ∀ i (h : i < rs.length), i < k → finC (nc rs[i]) = true
theorem FinUptoC.zero (rs : List C2) : FinUptoC rs 0 := fun _ _ h => absurd h (by omega)
theorem FinUptoC.succ {rs : List C2} {k : Nat} (h : FinUptoC rs k) (hk : k < rs.length) (hf : finC (nc rs[k]) = true) : FinUptoC rs (k + 1) := fun i hi hik => by
  by_cases e : i = k
  · subst e; exact hf
  · exact h i hi (by omega)
theorem FinUptoC.all {rs : List C2} {k : Nat} (h : FinUptoC rs k) (hk : rs.length ≤ k) : allFinC rs = true := (allFinC_true_iff rs).2 fun i hi => h i hi (by omega)

set_option maxRecDepth 100000 in
theorem cfin1_spec (z : C2) (w : World) : Calls Try.prog 43 #[.complex .f32 z.1 z.2] w (RetB (finC (nc z)) w) := by
  have H := Lib.hid (show finC (nc z) = (finF (nrm .f32 z.1) && finF (nrm .f32 z.2)) from rfl)
  rw [H.out]
  generalize z.1 = a
  generalize z.2 = b
  cases h : finF (nrm .f32 a) <;> cases h2 : finF (nrm .f32 b) <;>
  · go_enter Try.func43, Try.ntmps43
    go_wp2_with (go_at_call 64; refine (isFinite_spec _ _).mono ?_; rintro e w' ⟨m, rfl, rfl⟩)
    go_ret
    exact ⟨_, by first | rfl | simp, by first | rfl | (simp; rfl)⟩

theorem rd_two (w : World) (a b : Nat) : RdV (w.alloc (.cells #[.float .f32 a, .float .f32 b] 34)) (.slice (some ⟨w.heap.size, 0, none⟩) 2 2) (fl [a, b]) := by
  have hc : ∀ j, (w.alloc (.cells #[.float .f32 a, .float .f32 b] 34)).cell? ⟨w.heap.size, j, none⟩ = #[Value.float .f32 a, Value.float .f32 b][j]? := fun j => World.cell?_alloc_new w _ _ j
  refine ⟨_, 2, rfl, ⟨Nat.le_refl _, by decide⟩, .inr ⟨w.heap.size, 0, rfl, fun i hi => ?_⟩⟩
  have h2 : i = 0 ∨ i = 1 := by simp at hi; omega
  rcases h2 with rfl | rfl
  · exact hc 0
  · exact hc 1

set_option maxRecDepth 100000 in
theorem cfin1_impl (z : C2) (w : World) : Calls Try.prog 73 #[.complex .f32 z.1 z.2] w (RB (finC (nc z)) w) := by
  have ha : allFin [z.1, z.2] = finC (nc z) := by simp [allFin, finC, nc]
  have Ha := Lib.hid ha
  clear ha
  go_enter Try.func73, Try.ntmps73
  go_wp2_with fail
  (go_at_call 75; ((with_reducible refine (areFinite_impl _ [z.1, z.2] _ (rd_two w z.1 z.2) (by simp)).mono ?_)))
  rintro e w' ⟨m, rfl, rfl⟩
  rw [Ha.out]
  go_wp2_with fail
  go_ret
  exact ⟨rfl, below_drewN ((Below.refl _ _).alloc (Nat.le_refl _) _) _⟩
theorem notFin1_impl (z : C2) (w : World) : Calls Try.prog 72 #[.complex .f32 z.1 z.2] w (RB (!finC (nc z)) w) := by
  go_enter Try.func72, Try.ntmps72
  go_wp2_with (go_at_call 73; refine (cfin1_impl _ _).mono ?_; rintro e w' ⟨rfl, hb⟩)
  go_ret
  exact ⟨rfl, hb⟩

set_option maxRecDepth 100000 in
set_option maxHeartbeats 400000 in
theorem cfinite_spec (v : Value) (rs : List C2) (w : World) (hv : RdV w v (cx rs)) (hl : rs.length ≤ 1099511627776) :
    Calls Try.prog 19 #[v] w (RetB (allFinC rs) w) := by
  rcases hv.openC with ⟨rfl, ao, cap, rfl⟩ | ⟨b, off, cap, rfl, hb, hcp, hc⟩
  · clear hv
    go_enter Try.func19, Try.ntmps19
    go_wp2
    refine wp_loop_rounds 1 ?_
    rw [rounds_succ]
    go_wp2
    go_ret
    exact ⟨0, rfl, rfl⟩
  · have Hc := Lib.hid hc
    clear hc hv
    go_enter Try.func19, Try.ntmps19
    go_wp2
    go_loopw [3] (fun i wr => ∃ k m : Nat, k ≤ rs.length ∧ i = .int .i64 k ∧ wr = w.drewN m ∧ FinUptoC rs k) (fun i _ => rs.length - (intOf i).toNat)
    case atStart => exact ⟨0, 0, Nat.zero_le _, rfl, rfl, FinUptoC.zero rs⟩
    case round =>
      obtain ⟨k, m, hk, rfl, rfl, hf⟩ := hrel
      by_cases hlt : k < rs.length
      · have c1 := Hc.out k hlt
        by_cases hx : finC (nc rs[k]) = true
        · have H2 := Lib.hid (hf.succ hlt hx)
          clear hf
          go_wp2_with (go_at_call 43; refine (cfin1_spec _ _).mono ?_; rintro e w' ⟨m, rfl, rfl⟩)
          go_roundw
          case rel => exact ⟨k + 1, _, by omega, by go_num, by first | rfl | simp [Nat.add_assoc], H2.out⟩
          case measure => simp [intOf]; omega
        · have hx : finC (nc rs[k]) = false := by simpa using hx
          have H2 := Lib.hid (allFinC_false hlt hx)
          clear hf
          go_wp2_with (go_at_call 43; refine (cfin1_spec _ _).mono ?_; rintro e w' ⟨m, rfl, rfl⟩)
          go_ret
          rw [H2.out]
          exact ⟨_, rfl, by first | rfl | (simp; rfl)⟩
      · have H2 := Lib.hid (FinUptoC.all hf (by omega))
        clear hf
        go_wp2
        go_ret
        rw [H2.out]
        exact ⟨_, rfl, rfl⟩

def RetIxB (b : Bool) (w : World) (e : Ending) (w' : World) : Prop := ∃ (j : Int), e = .returned (.int .i64 j) ∧ decide (0 ≤ j) = b ∧ Below w.heap.size w w'

set_option maxRecDepth 100000 in
set_option maxHeartbeats 400000 in
theorem cindexNot_impl (v : Value) (rs : List C2) (w : World) (hv : RdV w v (cx rs)) (hl : rs.length ≤ 1099511627776) :
    Calls Try.prog 84 #[v, .func (.func 72) #[] #[]] w (RetIxB (!allFinC rs) w) := by
  rcases hv.openC with ⟨rfl, ao, cap, rfl⟩ | ⟨b, off, cap, rfl, hb, hcp, hc⟩
  · clear hv
    go_enter Try.func84, Try.ntmps84
    go_wp2
    refine wp_loop_rounds 1 ?_
    rw [rounds_succ]
    go_wp2
    go_ret
    exact ⟨-1, rfl, rfl, Below.refl _ _⟩
  · have Hc := Lib.hid hc
    clear hc hv
    go_enter Try.func84, Try.ntmps84
    go_wp2
    go_loopw [8] (fun i wr => ∃ k : Nat, k ≤ rs.length ∧ i = .int .i64 k ∧ Below w.heap.size w wr ∧ FinUptoC rs k) (fun i _ => rs.length - (intOf i).toNat)
    case atStart => exact ⟨0, Nat.zero_le _, rfl, Below.refl _ _, FinUptoC.zero rs⟩
    case round =>
      obtain ⟨k, hk, rfl, hbel, hf⟩ := hrel
      have Hb := Lib.hid hbel
      by_cases hlt : k < rs.length
      · have c1 := (hbel.cell (p := ⟨b, off + k, none⟩) hb).trans (Hc.out k hlt)
        clear hbel
        by_cases hx : finC (nc rs[k]) = true
        · have H2 := Lib.hid (hf.succ hlt hx)
          clear hf
          go_wp2_with (go_at_call 72; refine (notFin1_impl _ _).mono ?_; rintro e w' ⟨rfl, hb1⟩)
          go_roundw
          case rel => exact ⟨k + 1, by omega, by go_num, Hb.out.trans (hb1.mono Hb.out.size), H2.out⟩
          case measure => simp [intOf]; omega
        · have hx : finC (nc rs[k]) = false := by simpa using hx
          have H2 := Lib.hid (allFinC_false hlt hx)
          clear hf
          go_wp2_with (go_at_call 72; refine (notFin1_impl _ _).mono ?_; rintro e w' ⟨rfl, hb1⟩)
          go_ret
          rw [H2.out]
          exact ⟨_, rfl, by simp, Hb.out.trans (hb1.mono Hb.out.size)⟩
      · have H2 := Lib.hid (FinUptoC.all hf (by omega))
        clear hf hbel
        go_wp2
        go_ret
        rw [H2.out]
        exact ⟨_, rfl, rfl, Hb.out⟩

theorem ccontainsNot_impl (v : Value) (rs : List C2) (w : World) (hv : RdV w v (cx rs)) (hl : rs.length ≤ 1099511627776) :
    Calls Try.prog 71 #[v, .func (.func 72) #[] #[]] w (RB (!allFinC rs) w) := by
  have Hv := Lib.hid hv
  clear hv
  go_enter Try.func71, Try.ntmps71
  go_wp2_with (go_at_call 84; refine (cindexNot_impl _ _ _ Hv.out hl).mono ?_; rintro e w' ⟨j, rfl, hj, hb⟩)
  go_ret
  exact ⟨by simp [hj], hb⟩

theorem allFinite_impl (v : Value) (rs : List C2) (w : World) (hv : RdV w v (cx rs)) (hl : rs.length ≤ 1099511627776) :
    Calls Try.prog 51 #[v] w (RB (allFinC rs) w) := by
  have Hv := Lib.hid hv
  clear hv
  go_enter Try.func51, Try.ntmps51
  go_wp2_with (go_at_call 71; refine (ccontainsNot_impl _ _ _ Hv.out hl).mono ?_; rintro e w' ⟨rfl, hb⟩)
  go_ret
  exact ⟨by simp, hb⟩

end Go.Proofs.Ytklonahkacikbaa

/- Trimmed lists of complex numbers, valid polynomials, polynomials of lists; of the program and of the reference. Conditions: lists of 1 to 17 numbers. -/
namespace Go.Proofs.Ytklonahkacikbaa
set_option linter.unusedSimpArgs false
set_option linter.unusedVariables false
open Go Go.RowKit

theorem nrm0 : nrm .f32 0 = 0 := by decide +kernel
/-- Both parts are 0. -/
def zeroC (z : C2) : Bool := fcmp .eql .f32 z.1 (nrm .f32 0) && fcmp .eql .f32 z.2 (nrm .f32 0)
@[go_sem high] theorem complex_eql0 (t : TypeId) (a b : Nat) : binOp .eql t (.complex .f32 a b) (.complex .f32 0 0) = pure (.bool (zeroC (nc (a, b)))) := by
  unfold zeroC nc
  rw [fcmp_nrm, fcmp_nrm]
  simp [binOp, Op.complexOp, Op.Complex.cmp, Op.floatCmp, asBool, fcmp]
@[go_sem high] theorem complex_neq0 (t : TypeId) (a b : Nat) : binOp .neq t (.complex .f32 a b) (.complex .f32 0 0) = pure (.bool (!zeroC (nc (a, b)))) := by
  unfold zeroC nc
  rw [fcmp_nrm, fcmp_nrm]
  simp [binOp, Op.complexOp, Op.Complex.cmp, Op.floatCmp, asBool, fcmp]
/-- The length that is left when the last zeros are gone. -/
def trimN (F : List C2) : Nat → Nat
  | 0 => 0
  | 1 => 1
  | n + 2 => if zeroC (F.getD (n + 1) (0, 0)) = true then trimN F (n + 1) else n + 2
theorem trimN_le (F : List C2) (n : Nat) : trimN F n ≤ n := by
  induction n with
  | zero => exact Nat.le_refl _
  | succ n ih =>
    cases n with
    | zero => exact Nat.le_refl _
    | succ n =>
      unfold trimN
      split
      · omega
      · omega
theorem trimN_pos (F : List C2) {n : Nat} (h : 0 < n) : 0 < trimN F n := by
  induction n with
  | zero => omega
  | succ n ih =>
    cases n with
    | zero => exact Nat.one_pos
    | succ n =>
      unfold trimN
      split
      · exact ih (by omega)
      · omega
theorem trimN_last (F : List C2) (n : Nat) : trimN F n ≤ 1 ∨ zeroC (F.getD (trimN F n - 1) (0, 0)) = false := by
  induction n with
  | zero => left; exact Nat.zero_le _
  | succ n ih =>
    cases n with
    | zero => left; exact Nat.le_refl _
    | succ n =>
      unfold trimN
      split
      · exact ih
      · right; rename_i h; simpa using h
theorem trimN_step {F : List C2} {n : Nat} (h1 : 1 < n) (h : zeroC (F.getD (n - 1) (0, 0)) = true) : trimN F n = trimN F (n - 1) := by
  obtain ⟨m, rfl⟩ : ∃ m, n = m + 2 := ⟨n - 2, by omega⟩
  have h' : zeroC (F.getD (m + 1) (0, 0)) = true := by simpa using h
  rw [trimN, if_pos h']
  rfl
theorem trimN_stop {F : List C2} {n : Nat} (h1 : 1 < n) (h : zeroC (F.getD (n - 1) (0, 0)) = false) : trimN F n = n := by
  obtain ⟨m, rfl⟩ : ∃ m, n = m + 2 := ⟨n - 2, by omega⟩
  have h' : zeroC (F.getD (m + 1) (0, 0)) = false := by simpa using h
  rw [trimN, if_neg (by rw [h']; simp)]
theorem trimN_small {F : List C2} {n : Nat} (h1 : n ≤ 1) : trimN F n = n := by
  have : n = 0 ∨ n = 1 := by omega
  rcases this with rfl | rfl <;> rfl

/-- A trimmed list is a polynomial's, if its numbers are finite. -/
def validF (F : List C2) : Bool := F.all finC && (decide (F.length = 1) || !zeroC (F.getD (F.length - 1) (0, 0)))
def trimF (F : List C2) : List C2 := F.take (trimN F F.length)
def polyF (F : List C2) : List C2 × Bool := if validF (trimF F) = true then (trimF F, true) else ([], false)
theorem trimF_length (F : List C2) : (trimF F).length = trimN F F.length := by
  have := trimN_le F F.length
  simp [trimF]; omega

theorem getD_nc (rs : List C2) (k : Nat) : (rs.map nc).getD k (0, 0) = nc (rs.getD k (0, 0)) := by
  simp only [List.getD, List.getElem?_map]
  cases rs[k]? with
  | none => simp [nc, nrm0]
  | some x => rfl
theorem polyF_le {F : List C2} : (polyF F).1.length ≤ F.length := by
  unfold polyF
  split
  · have := trimN_le F F.length; simp [trimF_length]; exact this
  · simp

set_option maxRecDepth 100000 in
set_option maxHeartbeats 400000 in
theorem trim_spec (b off cap : Nat) (rs : List C2) (w : World) (hv : RdV w (.slice (some ⟨b, off, none⟩) rs.length cap) (cx rs)) (hn : rs ≠ []) (hl : rs.length ≤ 1000) :
    Calls Try.prog 44 #[.slice (some ⟨b, off, none⟩) rs.length cap] w fun e w' => e = .returned (.slice (some ⟨b, off, none⟩) (trimN (rs.map nc) rs.length) cap) ∧ w = w' := by
  have h0 : 0 < rs.length := List.length_pos_iff.2 hn
  rcases hv.openC with ⟨rfl, _⟩ | ⟨b', off', cap', hve, hb, hcp, hc⟩
  · exact absurd rfl hn
  simp only [Value.slice.injEq, Option.some.injEq, Addr.mk.injEq, and_true, true_and] at hve
  obtain ⟨⟨rfl, rfl⟩, rfl⟩ := hve
  have Hc := Lib.hid hc
  clear hc hv
  go_enter Try.func44, Try.ntmps44
  go_wp2
  go_loop [3] (fun i => ∃ k : Nat, 1 ≤ k ∧ k ≤ rs.length ∧ i = .int .i64 k ∧ trimN (rs.map nc) k = trimN (rs.map nc) rs.length) (fun i => (intOf i).toNat)
  case atStart => exact ⟨rs.length, h0, Nat.le_refl _, rfl, rfl⟩
  case round =>
    obtain ⟨k, hk0, hk, rfl, hf⟩ := hrel
    have c1 := Hc.out (k - 1) (by omega)
    have hz : zeroC ((rs.map nc).getD (k - 1) (0, 0)) = zeroC (nc (rs[k - 1]'(by omega))) := by simp [List.getD, show k - 1 < rs.length by omega]
    by_cases h1 : 1 < k
    · cases h2 : zeroC (nc (rs[k - 1]'(by omega)))
      · have H2 := Lib.hid ((trimN_stop h1 (hz.trans h2)).symm.trans hf)
        clear hf hz
        generalize (rs[k - 1]'(by omega)) = x at *
        go_wp2
        go_ret
        rw [← H2.out]
        exact ⟨rfl, rfl⟩
      · have H2 := Lib.hid ((trimN_step h1 (hz.trans h2)).symm.trans hf)
        clear hf hz
        generalize (rs[k - 1]'(by omega)) = x at *
        go_wp2
        go_round
        case rel => exact ⟨k - 1, by omega, by omega, by go_num, H2.out⟩
        case measure => simp [intOf]; omega
    · have H2 := Lib.hid ((trimN_small (F := rs.map nc) (show k ≤ 1 by omega)).symm.trans hf)
      clear hf hz c1
      go_wp2
      go_ret
      rw [← H2.out]
      exact ⟨rfl, rfl⟩

theorem allFinC_map (rs : List C2) : allFinC rs = (rs.map nc).all finC := by simp [allFinC, List.all_map, Function.comp_def]
theorem validF_map (rs : List C2) (h : 1 ≤ rs.length) : validF (rs.map nc) = (allFinC rs && (decide (rs.length = 1) || !zeroC (nc (rs[rs.length - 1]'(by omega))))) := by
  unfold validF
  rw [← allFinC_map, List.length_map, getD_nc]
  simp [List.getD, show rs.length - 1 < rs.length by omega]

set_option maxRecDepth 100000 in
set_option maxHeartbeats 400000 in
theorem valid_impl (v : Value) (rs : List C2) (w : World) (hv : RdV w v (cx rs)) (h1 : 1 ≤ rs.length) (h2 : rs.length ≤ 17) : Calls Try.prog 50 #[.agg #[v]] w (RB (validF (rs.map nc)) w) := by
  have HF := Lib.hid (validF_map rs h1)
  rcases hv.openC with ⟨rfl, _⟩ | ⟨b, off, cap, rfl, hb, hcp, hc⟩
  · simp at h1
  have c1 := hc (rs.length - 1) (by omega)
  have Hv := Lib.hid hv
  rw [HF.out]
  clear hc hv HF
  generalize (rs[rs.length - 1]'(by omega)) = x at *
  by_cases hn : rs.length = 1
  · have hd : decide (rs.length = 1) = true := by simpa using hn
    rw [hd, Bool.true_or, Bool.and_true]
    clear c1 hd
    have he : ((rs.length : Int) == 1) = true := by rw [hn]; rfl
    clear hn
    cases ha : allFinC rs <;>
    · go_enter Try.func50, Try.ntmps50
      go_wp2_with (go_at_call 51; go_must (refine (allFinite_impl _ rs _ (Hv.out.alloc _) (by omega)).mono ?_); rintro e w' ⟨rfl, hb1⟩; obtain ⟨chb1, fhb1⟩ := bcell hb1; have zhb1 := hb1.size; (try simp only [World.size_alloc, World.size_setCell, World.size_drew] at zhb1); (try have lhb1 : w.heap.size < w'.heap.size := by omega))
      go_ret
      exact ⟨by simp, by (repeat' (first | (with_reducible exact Below.refl _ _) | (with_reducible assumption) | (with_reducible refine Below.alloc ?_ ?_ _) | (with_reducible refine Below.setCell ?_ ?_ _) | (with_reducible refine Below.drew ?_) | (with_reducible refine Below.via (by assumption) ?_ ?_) | go_size))⟩
  · have hd : decide (rs.length = 1) = false := by simpa using hn
    rw [hd, Bool.false_or]
    have he : ((rs.length : Int) == 1) = false := by simp; omega
    clear hd hn
    cases ha : allFinC rs
    · go_enter Try.func50, Try.ntmps50
      go_wp2_with (go_at_call 51; go_must (refine (allFinite_impl _ rs _ (Hv.out.alloc _) (by omega)).mono ?_); rintro e w' ⟨rfl, hb1⟩; obtain ⟨chb1, fhb1⟩ := bcell hb1; have zhb1 := hb1.size; (try simp only [World.size_alloc, World.size_setCell, World.size_drew] at zhb1); (try have lhb1 : w.heap.size < w'.heap.size := by omega))
      go_ret
      exact ⟨by simp, by (repeat' (first | (with_reducible exact Below.refl _ _) | (with_reducible assumption) | (with_reducible refine Below.alloc ?_ ?_ _) | (with_reducible refine Below.setCell ?_ ?_ _) | (with_reducible refine Below.drew ?_) | (with_reducible refine Below.via (by assumption) ?_ ?_) | go_size))⟩
    · cases hz : zeroC (nc x) <;>
      · go_enter Try.func50, Try.ntmps50
        go_wp2_with (go_at_call 51; go_must (refine (allFinite_impl _ rs _ (Hv.out.alloc _) (by omega)).mono ?_); rintro e w' ⟨rfl, hb1⟩; obtain ⟨chb1, fhb1⟩ := bcell hb1; have zhb1 := hb1.size; (try simp only [World.size_alloc, World.size_setCell, World.size_drew] at zhb1); (try have lhb1 : w.heap.size < w'.heap.size := by omega))
        go_ret
        exact ⟨by simp, by (repeat' (first | (with_reducible exact Below.refl _ _) | (with_reducible assumption) | (with_reducible refine Below.alloc ?_ ?_ _) | (with_reducible refine Below.setCell ?_ ?_ _) | (with_reducible refine Below.drew ?_) | (with_reducible refine Below.via (by assumption) ?_ ?_) | go_size))⟩

set_option maxRecDepth 100000 in
set_option maxHeartbeats 400000 in
theorem is_spec (p : Nat) (v : Value) (rs : List C2) (w : World) (hp : w.cell? ⟨p, 0, none⟩ = some v) (hv : RdV w v (cx rs)) (h1 : 1 ≤ rs.length) (h2 : rs.length ≤ 17) : Calls Try.prog 45 #[.pointer (some ⟨p, 0, none⟩)] w (RetB (validF (rs.map nc)) w) := by
  have HF := Lib.hid (validF_map rs h1)
  rcases hv.openC with ⟨rfl, _⟩ | ⟨b, off, cap, rfl, hb, hcp, hc⟩
  · simp at h1
  have c1 := hc (rs.length - 1) (by omega)
  have Hv := Lib.hid hv
  rw [HF.out]
  clear hc hv HF
  generalize (rs[rs.length - 1]'(by omega)) = x at *
  by_cases hn : rs.length = 1
  · have hd : decide (rs.length = 1) = true := by simpa using hn
    rw [hd, Bool.true_or, Bool.and_true]
    clear c1 hd
    have he : ((rs.length : Int) == 1) = true := by rw [hn]; rfl
    clear hn
    cases ha : allFinC rs <;>
    · go_enter Try.func45, Try.ntmps45
      go_wp2_with (go_at_call 19; go_must (refine (cfinite_spec _ rs _ Hv.out (by omega)).mono ?_); rintro e w' ⟨m, rfl, rfl⟩)
      go_ret
      exact ⟨_, by simp, rfl⟩
  · have hd : decide (rs.length = 1) = false := by simpa using hn
    rw [hd, Bool.false_or]
    have he : ((rs.length : Int) == 1) = false := by simp; omega
    clear hd hn
    cases ha : allFinC rs
    · go_enter Try.func45, Try.ntmps45
      go_wp2_with (go_at_call 19; go_must (refine (cfinite_spec _ rs _ Hv.out (by omega)).mono ?_); rintro e w' ⟨m, rfl, rfl⟩)
      go_ret
      exact ⟨_, by simp, rfl⟩
    · cases hz : zeroC (nc x) <;>
      · go_enter Try.func45, Try.ntmps45
        go_wp2_with (go_at_call 19; go_must (refine (cfinite_spec _ rs _ Hv.out (by omega)).mono ?_); rintro e w' ⟨m, rfl, rfl⟩)
        go_ret
        exact ⟨_, by simp, rfl⟩

/-- A polynomial of the call's own, and whether it is there. -/
def RetP (F : List C2 × Bool) (B : Nat) (w : World) (e : Ending) (w' : World) : Prop := ∃ v qs, e = .returned (.tuple #[.agg #[v], .bool F.2]) ∧ qs.map nc = F.1 ∧ OwV 31 w' B v (cx qs) ∧ Below w.heap.size w w'
theorem grown_set2 (w : World) (g j : Nat) (u : Value) : w.grownBy (w.setCell ⟨g, j, none⟩ u) (some g) :=
  ⟨rfl, rfl, rfl, by simp [World.setCell], fun k _ hk => Below.heap_setCell _ _ _ _ (fun e => hk (by simp at e; rw [e]))⟩
theorem OwV.setOther {e : TypeId} {w : World} {B g j : Nat} {v : Value} {xs : List Value} (h : OwV e w B v xs) (hg : v.ownBlock = none ∨ v.ownBlock ≠ some g) (u : Value) : OwV e (w.setCell ⟨g, j, none⟩ u) B v xs := h.kept (grown_set2 _ _ _ _) hg
theorem trimF_map (rs : List C2) : (rs.take (trimN (rs.map nc) rs.length)).map nc = trimF (rs.map nc) := by rw [trimF, List.length_map, List.map_take]

set_option maxRecDepth 100000 in
set_option maxHeartbeats 400000 in
theorem give_spec (v : Value) (rs : List C2) (w : World) (hv : RdV w v (cx rs)) (hn : rs ≠ []) (hl : rs.length ≤ 17) : Calls Try.prog 20 #[v] w (RetP (polyF (rs.map nc)) w.heap.size w) := by
  have h0 : 0 < rs.length := List.length_pos_iff.2 hn
  have HT := Lib.hid (trimF_map rs)
  have t0 := trimN_pos (rs.map nc) h0
  have t1 := trimN_le (rs.map nc) rs.length
  have HP := Lib.hid (show polyF (rs.map nc) = if validF (trimF (rs.map nc)) = true then (trimF (rs.map nc), true) else ([], false) from rfl)
  rw [HP.out, ← HT.out]
  clear HP HT
  rcases hv.openC with ⟨rfl, _⟩ | ⟨b, off, cap, rfl, hb, hcp, hc⟩
  · exact absurd rfl hn
  clear hc
  have Hr := Lib.hid hv
  have Ht := Lib.hid (hv.take (n := trimN (rs.map nc) rs.length) (c := cap) (by simpa using t1) (by omega) hcp.2)
  have hq : (rs.take (trimN (rs.map nc) rs.length)).length = trimN (rs.map nc) rs.length := by simp; omega
  rw [← cx_takes] at Ht
  generalize hqs : rs.take (trimN (rs.map nc) rs.length) = qs at *
  clear hqs hv
  have T := Lib.hid (fun w1 h => trim_spec b off cap rs w1 h hn (by omega))
  generalize trimN (rs.map nc) rs.length = n at *
  subst hq
  have hnq : cx qs ≠ [] := by rw [← List.length_pos_iff, cx_length]; exact t0
  cases hval : validF (qs.map nc)
  · go_enter Try.func20, Try.ntmps20
    go_wp2_with (first | (go_at_call 44; go_must (refine (T.out _ (Hr.out.below (by (repeat' (first | (with_reducible exact Below.refl _ _) | (with_reducible assumption) | (with_reducible refine Below.alloc ?_ ?_ _) | (with_reducible refine Below.setCell ?_ ?_ _) | (with_reducible refine Below.drew ?_) | (with_reducible refine Below.via (by assumption) ?_ ?_) | go_size))))).mono ?_); rintro e w' ⟨rfl, rfl⟩) | (at_builtin; go_must (refine wpList_cloneV (.complex .f32 0 0) 8 infoC rfl (cx_one qs) (by decide) rfl _ _ rfl Try.underlying25 (Ht.out.below (by (repeat' (first | (with_reducible exact Below.refl _ _) | (with_reducible assumption) | (with_reducible refine Below.alloc ?_ ?_ _) | (with_reducible refine Below.setCell ?_ ?_ _) | (with_reducible refine Below.drew ?_) | (with_reducible refine Below.via (by assumption) ?_ ?_) | go_size)))) hnq (by simp; omega) rfl rfl (by simp) ?_; intro g1 cap1 w1 hg1 ho1 hb1; obtain ⟨chb1, fhb1⟩ := bcell hb1; have zhb1 := hb1.size; (try simp only [World.size_alloc, World.size_setCell, World.size_drew] at zhb1 hg1); have l0 : w.heap.size < w1.heap.size := (by omega); have x0 : w1.cell? ⟨w.heap.size, 0, none⟩ = some (.slice none 0 0) := (hb1.cell (p := ⟨w.heap.size, 0, none⟩) (by simp)).trans (World.cell?_alloc_new w #[.slice none 0 0] _ 0); have f0 : w1.frozen? ⟨w.heap.size, 0, none⟩ = false := (hb1.frozen (p := ⟨w.heap.size, 0, none⟩) (by simp)).trans (by go_simp); have Ho := Lib.hid ho1; rw [cx_length] at Ho ⊢; clear ho1 chb1 fhb1)) | (go_at_call 45; go_must (refine (is_spec _ _ qs _ (by go_simp) (Ho.out.rd.below (by (repeat' (first | (with_reducible exact Below.refl _ _) | (with_reducible assumption) | (with_reducible refine Below.alloc ?_ ?_ _) | (with_reducible refine Below.setCell ?_ ?_ _) | (with_reducible refine Below.drew ?_) | (with_reducible refine Below.via (by assumption) ?_ ?_) | go_size)))) (by omega) (by omega)).mono ?_); rintro e w' ⟨m, rfl, rfl⟩))
    (try simp only [Exit.inBlock, Exit.then]); refine bodyPost_ret (by simp [results, Try.results20, go_sem, *]; try rfl) rfl ?_
    exact ⟨_, [], rfl, rfl, .inl ⟨rfl, rfl⟩, by (repeat' (first | (with_reducible exact Below.refl _ _) | (with_reducible assumption) | (with_reducible refine Below.alloc ?_ ?_ _) | (with_reducible refine Below.setCell ?_ ?_ _) | (with_reducible refine below_drewN ?_ _) | (with_reducible refine Below.via (by assumption) ?_ ?_) | go_size))⟩
  · go_enter Try.func20, Try.ntmps20
    go_wp2_with (first | (go_at_call 44; go_must (refine (T.out _ (Hr.out.below (by (repeat' (first | (with_reducible exact Below.refl _ _) | (with_reducible assumption) | (with_reducible refine Below.alloc ?_ ?_ _) | (with_reducible refine Below.setCell ?_ ?_ _) | (with_reducible refine Below.drew ?_) | (with_reducible refine Below.via (by assumption) ?_ ?_) | go_size))))).mono ?_); rintro e w' ⟨rfl, rfl⟩) | (at_builtin; go_must (refine wpList_cloneV (.complex .f32 0 0) 8 infoC rfl (cx_one qs) (by decide) rfl _ _ rfl Try.underlying25 (Ht.out.below (by (repeat' (first | (with_reducible exact Below.refl _ _) | (with_reducible assumption) | (with_reducible refine Below.alloc ?_ ?_ _) | (with_reducible refine Below.setCell ?_ ?_ _) | (with_reducible refine Below.drew ?_) | (with_reducible refine Below.via (by assumption) ?_ ?_) | go_size)))) hnq (by simp; omega) rfl rfl (by simp) ?_; intro g1 cap1 w1 hg1 ho1 hb1; obtain ⟨chb1, fhb1⟩ := bcell hb1; have zhb1 := hb1.size; (try simp only [World.size_alloc, World.size_setCell, World.size_drew] at zhb1 hg1); have l0 : w.heap.size < w1.heap.size := (by omega); have x0 : w1.cell? ⟨w.heap.size, 0, none⟩ = some (.slice none 0 0) := (hb1.cell (p := ⟨w.heap.size, 0, none⟩) (by simp)).trans (World.cell?_alloc_new w #[.slice none 0 0] _ 0); have f0 : w1.frozen? ⟨w.heap.size, 0, none⟩ = false := (hb1.frozen (p := ⟨w.heap.size, 0, none⟩) (by simp)).trans (by go_simp); have Ho := Lib.hid ho1; rw [cx_length] at Ho ⊢; clear ho1 chb1 fhb1)) | (go_at_call 45; go_must (refine (is_spec _ _ qs _ (by go_simp) (Ho.out.rd.below (by (repeat' (first | (with_reducible exact Below.refl _ _) | (with_reducible assumption) | (with_reducible refine Below.alloc ?_ ?_ _) | (with_reducible refine Below.setCell ?_ ?_ _) | (with_reducible refine Below.drew ?_) | (with_reducible refine Below.via (by assumption) ?_ ?_) | go_size)))) (by omega) (by omega)).mono ?_); rintro e w' ⟨m, rfl, rfl⟩))
    (try simp only [Exit.inBlock, Exit.then]); refine bodyPost_ret (by simp [results, Try.results20, go_sem, *]; try rfl) rfl ?_
    refine ⟨_, qs, rfl, rfl, OwV.setOther (g := w.heap.size) (j := 0) ?_ (by right; simp [Value.ownBlock]; omega) _, by (repeat' (first | (with_reducible exact Below.refl _ _) | (with_reducible assumption) | (with_reducible refine Below.alloc ?_ ?_ _) | (with_reducible refine Below.setCell ?_ ?_ _) | (with_reducible refine below_drewN ?_ _) | (with_reducible refine Below.via (by assumption) ?_ ?_) | go_size))⟩
    exact (Ho.out.below ((Below.refl _ _).alloc (Nat.le_refl _) _)).mono (by simp)

end Go.Proofs.Ytklonahkacikbaa
