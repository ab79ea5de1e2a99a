/- Copies of lists of floats; sums of families, of the program and of the reference; FnExactFamilySum returns true for all arguments. Conditions: none. -/
import Derived.Test.YtcbaanidbkjmcaaLawRow
namespace Go.Proofs.Ytcbaanidbkjmcaa
open Go Go.RowKit

/-- A new slice that reads as 'rs', word by word; nothing that was there has turned. -/
def RetCopy (rs : List Nat) (w : World) (e : Ending) (w' : World) : Prop :=
  ∃ v, e = .returned v ∧ w'.ownsRow w.heap.size 22 1 v rs.length (rs.map (Value.float .f32)) ∧ Below w.heap.size w w'

def CopyUpto (rs : List Nat) (j : Nat) (ys : List Value) : Prop := ∀ q, q < j → ys[q]? = some (.float .f32 (rs.getD q 0))
theorem CopyUpto.set {rs : List Nat} {n : Nat} {ys : List Value} (h : CopyUpto rs n ys) (hn : n < ys.length) : CopyUpto rs (n + 1) (ys.set n (.float .f32 (rs.getD n 0))) := fun j hj => by
  by_cases e : j = n
  · subst e; simp [hn]
  · rw [List.getElem?_set_ne (by omega)]; exact h j (by omega)
theorem CopyUpto.all {rs : List Nat} {ys : List Value} (h : CopyUpto rs rs.length ys) (hl : ys.length = rs.length) : ys = rs.map (Value.float .f32) := by
  apply List.ext_getElem?
  intro i
  by_cases hi : i < rs.length
  · rw [h i hi]; simp [List.getD, hi]
  · rw [List.getElem?_eq_none (by omega), List.getElem?_eq_none (by simp; omega)]

set_option maxRecDepth 100000 in
set_option maxHeartbeats 400000 in
theorem copy_floats (v : Value) (rs : List Nat) (w : World) (hv : RdF w v rs) (hl : rs.length ≤ 1099511627776) :
    Calls Try.prog 17 #[v] w (RetCopy rs w) := by
  obtain ⟨i0, hi, hz0, hz1, hz2⟩ := info_parts info22
  obtain ⟨ao, cap, rfl, hv⟩ := hv
  have Hv := Lib.hid hv
  clear hv
  go_enter Try.func17, Try.ntmps17
  go_wp2_with (at_make; refine wpList_make_full _ rfl _ _ 31 rfl w.heap.size 22 i0 (.float .f32 0) 1 Try.underlying31 hi hz0 hz1 .i64 .i64 _ _ rs.length rfl rfl rfl rfl (by rw [hz2]; omega) (by unfold maxLen; omega) (Nat.le_refl _) ?_; intro w1 hown1 hgrow1)
  go_loopw [4] (fun i wr => ∃ (j : Nat) (ys : List Value), j ≤ rs.length ∧ i = .int .i64 j ∧ wr.ownsRow w.heap.size 22 1 (.slice (some ⟨w.heap.size, 0, none⟩) rs.length rs.length) rs.length ys ∧ CopyUpto rs j ys ∧ Below w.heap.size w wr) (fun i _ => rs.length - (intOf i).toNat)
  case atStart => exact ⟨0, _, Nat.zero_le _, rfl, hown1, fun _ h => absurd h (by omega), (Below.refl _ _).grown hgrow1 (Nat.le_refl _) (by simp)⟩
  case round =>
    obtain ⟨j, ys, hj, rfl, hown2, hm, hbel⟩ := hrel
    by_cases hlt : j < rs.length
    · obtain ⟨b, off, rfl, hc⟩ := Hv.out.resolve_left (fun e => by rw [e] at hlt; simp at hlt)
      have hlen : ys.length = rs.length := by simpa using hown2.1
      have c1 : wr.cell? ⟨b, off + j, none⟩ = some (.float .f32 (rs.getD j 0)) := by
        rw [hbel.cell (World.block_lt_of_cell? w _ (hc j hlt)), hc j hlt]; simp [List.getD, hlt]
      have c2 := hown2.cellAt j (by omega)
      rw [List.getElem?_eq_getElem (show j < ys.length by omega)] at c2
      have hfz := hown2.frozenAt j
      have H2 := Lib.hid (hown2.stored j (.float .f32 (rs.getD j 0)))
      have H3 := Lib.hid (hm.set (by omega))
      generalize ys[j]'(by omega) = old at c2
      have Hb := Lib.hid hbel
      clear hm hlen hbel hgrow1 hown1 hc
      generalize rs.getD j 0 = x at *
      go_wp2
      go_roundw
      case rel => exact ⟨j + 1, _, by omega, by go_num, H2.out.1, H3.out, Hb.out.trans ⟨H2.out.2.os, H2.out.2.tape, H2.out.2.output, H2.out.2.size, fun k hk => H2.out.2.block k (Nat.lt_of_lt_of_le hk Hb.out.size) (by simp; omega)⟩⟩
      case measure => simp [intOf]; omega
    · obtain rfl : j = rs.length := by omega
      have hlen : ys.length = rs.length := by simpa using hown2.1
      have e := Lib.hid (hm.all hlen)
      clear hlen hm
      go_wp2
      go_ret
      exact ⟨_, rfl, by rw [← e.out]; exact hown2, hbel⟩

/-- The two numbers of a sum after j steps from the end. -/
def sumS (kind : Int) (x : Nat) (ws : List Nat) : Nat → Nat × Nat
  | 0 => (nrm .f32 0, nrm .f32 0)
  | j + 1 =>
    let p := sumS kind x ws j
    let k := ws.length - 1 - j
    let A := ruleF kind k
    (fop .sub .f32 (fop .add .f32 (ws.getD k 0) (fop .mul .f32 (fop .add .f32 (fop .mul .f32 A.1 x) A.2.1) p.1)) (fop .mul .f32 (ruleF kind ((k : Int) + 1)).2.2 p.2), p.1)

def sumOk (kind : Int) (ws : List Nat) (x : Nat) : Bool := inB 0 kind 4 && inB 1 ws.length 17 && ws.all finF && finF x
def familySumF (kind : Int) (ws : List Nat) (x : Nat) : Nat × Bool :=
  if sumOk kind ws x = true then (numF (sumS kind x ws ws.length).1, finF (sumS kind x ws ws.length).1) else (nrm .f32 0, false)

def SumRel (kind : Int) (x : Nat) (ws : List Nat) (w : World) (u v i : Value) (wr : World) : Prop :=
  ∃ (c : Nat) (z : Int) (ur vr m : Nat), c ≤ ws.length ∧ i = .int .i64 z ∧ z = (c : Int) - 1 ∧ u = .float .f32 ur ∧ v = .float .f32 vr ∧ nrm .f32 ur = (sumS kind x ws (ws.length - c)).1 ∧ nrm .f32 vr = (sumS kind x ws (ws.length - c)).2 ∧ wr = w.drewN m

set_option maxRecDepth 100000 in
set_option maxHeartbeats 400000 in
theorem familySum_impl (kind : Int) (v : Value) (rs : List Nat) (x : Nat) (w : World) (hv : RdF w v rs) (hl : rs.length ≤ 1099511627776) :
    Calls Try.prog 18 #[.int .i64 kind, v, .float .f32 x] w (RetNum (familySumF kind (rs.map (nrm .f32)) (nrm .f32 x)).1 (familySumF kind (rs.map (nrm .f32)) (nrm .f32 x)).2 w) := by
  have Hv := Lib.hid hv
  obtain ⟨ao, cap, rfl, hc⟩ := hv
  by_cases hno : sumOk kind (rs.map (nrm .f32)) (nrm .f32 x) = true
  · simp only [sumOk, Bool.and_eq_true, inB_true, List.length_map] at hno
    obtain ⟨⟨⟨hk, hn⟩, ha⟩, hx⟩ := hno
    rw [← allFin_map] at ha
    have H := Lib.hid (show familySumF kind (rs.map (nrm .f32)) (nrm .f32 x) = (numF (sumS kind (nrm .f32 x) (rs.map (nrm .f32)) rs.length).1, finF (sumS kind (nrm .f32 x) (rs.map (nrm .f32)) rs.length).1) by
      rw [familySumF, if_pos (by simp only [sumOk, Bool.and_eq_true, inB_true, List.length_map]; exact ⟨⟨⟨hk, hn⟩, by rw [← allFin_map]; exact ha⟩, hx⟩)]; simp)
    obtain ⟨b, off, rfl, hcell⟩ := hc.resolve_left (fun e => by rw [e] at hn; simp at hn)
    have Hc := Lib.hid hcell
    have hkb : inB 0 kind 4 = true := inB_true.2 hk
    have hn1 : 1 ≤ (rs.length : Int) := hn.1
    have hn2 : (rs.length : Int) ≤ 17 := hn.2
    clear hc hcell hk hn
    go_enter Try.func18, Try.ntmps18
    go_wp2_with (first | (go_at_call 45; refine (within_impl _ _ _ _).mono ?_; rintro e w' ⟨rfl, rfl⟩) | (go_at_call 46; refine (areFinite_impl _ _ _ (by exact Hv.out) (by omega)).mono ?_; rintro e w' ⟨m, rfl, rfl⟩) | (go_at_call 39; refine (isFinite_impl _ _).mono ?_; rintro e w' ⟨m, rfl, rfl⟩))
    go_loopw [8, 9, 10] (fun u q i wr => SumRel kind (nrm .f32 x) (rs.map (nrm .f32)) w u q i wr) (fun _ _ i _ => (intOf i + 1).toNat)
    case atStart => exact ⟨rs.length, _, 0, 0, _, by simp, rfl, rfl, rfl, rfl, by simp [sumS], by simp [sumS], rfl⟩
    case round =>
      obtain ⟨c, z, ur, vr, m, hcl, rfl, hz, rfl, rfl, hu, hq, rfl⟩ := hrel
      rw [List.length_map] at hcl hu hq
      by_cases h0 : c = 0
      · subst h0
        obtain rfl : z = -1 := by omega
        have Hu := Lib.hid hu
        clear hu hq hz
        go_wp2_with (first | (go_at_call 40; refine (number_impl _ _).mono ?_; rintro e w' ⟨r, m, rfl, hr, rfl⟩))
        go_ret2
        rw [H.out]
        rw [Hu.out, Nat.sub_zero] at hr ⊢
        exact ⟨_, _, rfl, hr, by first | rfl | (rw [World.drewN_drewN])⟩
      · obtain ⟨c, rfl⟩ : ∃ q, c = q + 1 := ⟨c - 1, by omega⟩
        obtain rfl : z = (c : Int) := by omega
        have c1 := Hc.out c (by omega)
        have hy : nrm .f32 rs[c] = (rs.map (nrm .f32)).getD c 0 := by simp [List.getD, show c < rs.length by omega]
        have hst : sumS kind (nrm .f32 x) (rs.map (nrm .f32)) (rs.length - c) = (fop .sub .f32 (fop .add .f32 ((rs.map (nrm .f32)).getD c 0) (fop .mul .f32 (fop .add .f32 (fop .mul .f32 (ruleF kind c).1 (nrm .f32 x)) (ruleF kind c).2.1) (sumS kind (nrm .f32 x) (rs.map (nrm .f32)) (rs.length - (c + 1))).1)) (fop .mul .f32 (ruleF kind ((c : Int) + 1)).2.2 (sumS kind (nrm .f32 x) (rs.map (nrm .f32)) (rs.length - (c + 1))).2), (sumS kind (nrm .f32 x) (rs.map (nrm .f32)) (rs.length - (c + 1))).1) := by
          rw [show rs.length - c = (rs.length - (c + 1)) + 1 by omega]
          simp only [sumS, List.length_map]
          rw [show rs.length - 1 - (rs.length - (c + 1)) = c by omega]
        have Hst := Lib.hid hst
        have Hu := Lib.hid hu
        have Hq := Lib.hid hq
        have Hy := Lib.hid hy
        clear hst hu hq hz hy
        generalize rs[c] = y at c1 Hy
        have j1 : (0 : Int) ≤ (c : Int) := by omega
        have j2 : (c : Int) ≤ 16 := by omega
        have j3 : (c : Int) < (rs.length : Int) := by omega
        go_wp2_with (first | (with_reducible refine wpList_fop rfl _ _ _ _ _ rfl rfl .f32 _ _ rfl rfl ?_; intro r m hr) | (go_at_call 38; refine (rule_impl _ _ _ (by omega) (by omega)).mono ?_; rintro e w' ⟨ra, rb, rc, m, rfl, ha, hb, hc, rfl⟩))
        go_roundw
        case rel =>
          refine ⟨c, _, _, _, _, by simp; omega, rfl, rfl, rfl, rfl, ?_, ?_, by first | rfl | (simp only [World.drewN_drewN]; rfl)⟩
          · rw [List.length_map, Hst.out]; simp only [*, Hu.out, Hq.out, Hy.out]
          · rw [List.length_map, Hst.out]; exact Hu.out
        case measure => simp [intOf] <;> omega
  · have H := Lib.hid (show familySumF kind (rs.map (nrm .f32)) (nrm .f32 x) = (nrm .f32 0, false) by rw [familySumF, if_neg hno])
    have hx : ∀ (e : Ending) (w' : World), (∃ m, e = .returned (.tuple #[.float .f32 0, .bool false]) ∧ w' = w.drewN m) → RetNum (familySumF kind (rs.map (nrm .f32)) (nrm .f32 x)).1 (familySumF kind (rs.map (nrm .f32)) (nrm .f32 x)).2 w e w' := by
      rintro e w' ⟨m, rfl, rfl⟩; rw [H.out]; exact ⟨_, m, rfl, rfl, rfl⟩
    refine Calls.mono ?_ hx
    clear hx H
    simp only [sumOk, Bool.and_eq_true, not_and, Bool.not_eq_true, List.length_map, ← allFin_map] at hno
    have hl1 : (rs.length : Int) ≤ 1099511627776 := by omega
    by_cases hk : inB 0 kind 4 = true
    · have hkb : inB 0 kind 4 = true := hk
      by_cases hn1 : (rs.length : Int) < 1
      · clear hno hc
        go_enter Try.func18, Try.ntmps18
        go_wp2_with (first | (go_at_call 45; refine (within_impl _ _ _ _).mono ?_; rintro e w' ⟨rfl, rfl⟩) | (go_at_call 46; refine (areFinite_impl _ _ _ (by exact Hv.out) (by omega)).mono ?_; rintro e w' ⟨m, rfl, rfl⟩) | (go_at_call 39; refine (isFinite_impl _ _).mono ?_; rintro e w' ⟨m, rfl, rfl⟩))
        go_ret2
        exact ⟨0, rfl, rfl⟩
      · by_cases hn2 : 17 < (rs.length : Int)
        · clear hno hc
          go_enter Try.func18, Try.ntmps18
          go_wp2_with (first | (go_at_call 45; refine (within_impl _ _ _ _).mono ?_; rintro e w' ⟨rfl, rfl⟩) | (go_at_call 46; refine (areFinite_impl _ _ _ (by exact Hv.out) (by omega)).mono ?_; rintro e w' ⟨m, rfl, rfl⟩) | (go_at_call 39; refine (isFinite_impl _ _).mono ?_; rintro e w' ⟨m, rfl, rfl⟩))
          go_ret2
          exact ⟨0, rfl, rfl⟩
        · have hin : inB 1 rs.length 17 = true := inB_true.2 (by omega)
          by_cases ha : allFin rs = true
          · have hx := hno ⟨⟨hk, hin⟩, ha⟩
            clear hno hc hin
            go_enter Try.func18, Try.ntmps18
            go_wp2_with (first | (go_at_call 45; refine (within_impl _ _ _ _).mono ?_; rintro e w' ⟨rfl, rfl⟩) | (go_at_call 46; refine (areFinite_impl _ _ _ (by exact Hv.out) (by omega)).mono ?_; rintro e w' ⟨m, rfl, rfl⟩) | (go_at_call 39; refine (isFinite_impl _ _).mono ?_; rintro e w' ⟨m, rfl, rfl⟩))
            go_ret2
            exact ⟨_, rfl, rfl⟩
          · have ha : allFin rs = false := by simpa using ha
            clear hno hc hin
            go_enter Try.func18, Try.ntmps18
            go_wp2_with (first | (go_at_call 45; refine (within_impl _ _ _ _).mono ?_; rintro e w' ⟨rfl, rfl⟩) | (go_at_call 46; refine (areFinite_impl _ _ _ (by exact Hv.out) (by omega)).mono ?_; rintro e w' ⟨m, rfl, rfl⟩) | (go_at_call 39; refine (isFinite_impl _ _).mono ?_; rintro e w' ⟨m, rfl, rfl⟩))
            go_ret2
            exact ⟨_, rfl, rfl⟩
    · have hkb : inB 0 kind 4 = false := by simpa using hk
      clear hno hc
      go_enter Try.func18, Try.ntmps18
      go_wp2_with (first | (go_at_call 45; refine (within_impl _ _ _ _).mono ?_; rintro e w' ⟨rfl, rfl⟩) | (go_at_call 46; refine (areFinite_impl _ _ _ (by exact Hv.out) (by omega)).mono ?_; rintro e w' ⟨m, rfl, rfl⟩) | (go_at_call 39; refine (isFinite_impl _ _).mono ?_; rintro e w' ⟨m, rfl, rfl⟩))
      go_ret2
      exact ⟨0, rfl, rfl⟩

set_option maxRecDepth 100000 in
set_option maxHeartbeats 400000 in
theorem familySum_spec (kind : Int) (v : Value) (rs : List Nat) (x : Nat) (w : World) (hv : RdF w v rs) (hl : rs.length ≤ 1099511627776) :
    Calls Try.prog 16 #[.int .i64 kind, v, .float .f32 x] w (RetNum (familySumF kind (rs.map (nrm .f32)) (nrm .f32 x)).1 (familySumF kind (rs.map (nrm .f32)) (nrm .f32 x)).2 w) := by
  have Hv := Lib.hid hv
  obtain ⟨ao, cap, rfl, hc⟩ := hv
  by_cases hno : sumOk kind (rs.map (nrm .f32)) (nrm .f32 x) = true
  · simp only [sumOk, Bool.and_eq_true, inB_true, List.length_map] at hno
    obtain ⟨⟨⟨hk, hn⟩, ha⟩, hx⟩ := hno
    rw [← allFin_map] at ha
    have H := Lib.hid (show familySumF kind (rs.map (nrm .f32)) (nrm .f32 x) = (numF (sumS kind (nrm .f32 x) (rs.map (nrm .f32)) rs.length).1, finF (sumS kind (nrm .f32 x) (rs.map (nrm .f32)) rs.length).1) by
      rw [familySumF, if_pos (by simp only [sumOk, Bool.and_eq_true, inB_true, List.length_map]; exact ⟨⟨⟨hk, hn⟩, by rw [← allFin_map]; exact ha⟩, hx⟩)]; simp)
    obtain ⟨b, off, rfl, hcell⟩ := hc.resolve_left (fun e => by rw [e] at hn; simp at hn)
    have Hc := Lib.hid hcell
    have hkb : kindB kind 0 = true := by unfold kindB; rw [show inB 0 kind 4 = true from inB_true.2 hk]; rfl
    have hn1 : 1 ≤ (rs.length : Int) := hn.1
    have hn2 : (rs.length : Int) ≤ 17 := hn.2
    clear hc hcell hk hn
    go_enter Try.func16, Try.ntmps16
    go_wp2_with (first | (go_at_call 35; refine (family_spec _ _ _).mono ?_; rintro e w' ⟨rfl, rfl⟩) | (go_at_call 42; refine (finite_spec _ _ _ (by exact Hv.out) (by omega)).mono ?_; rintro e w' ⟨m, rfl, rfl⟩) | (go_at_call 43; refine (isFinite_spec _ _).mono ?_; rintro e w' ⟨m, rfl, rfl⟩))
    go_loopw [9, 10, 11] (fun u q i wr => SumRel kind (nrm .f32 x) (rs.map (nrm .f32)) w u q i wr) (fun _ _ i _ => (intOf i + 1).toNat)
    case atStart => exact ⟨rs.length, _, 0, 0, _, by simp, rfl, rfl, rfl, rfl, by simp [sumS], by simp [sumS], rfl⟩
    case round =>
      obtain ⟨c, z, ur, vr, m, hcl, rfl, hz, rfl, rfl, hu, hq, rfl⟩ := hrel
      rw [List.length_map] at hcl hu hq
      by_cases h0 : c = 0
      · subst h0
        obtain rfl : z = -1 := by omega
        have Hu := Lib.hid hu
        clear hu hq hz
        go_wp2_with (first | (go_at_call 44; refine (number_spec _ _).mono ?_; rintro e w' ⟨r, m, rfl, hr, rfl⟩))
        go_ret2
        rw [H.out]
        rw [Hu.out, Nat.sub_zero] at hr ⊢
        exact ⟨_, _, rfl, hr, by first | rfl | (rw [World.drewN_drewN])⟩
      · obtain ⟨c, rfl⟩ : ∃ q, c = q + 1 := ⟨c - 1, by omega⟩
        obtain rfl : z = (c : Int) := by omega
        have c1 := Hc.out c (by omega)
        have hy : nrm .f32 rs[c] = (rs.map (nrm .f32)).getD c 0 := by simp [List.getD, show c < rs.length by omega]
        have hst : sumS kind (nrm .f32 x) (rs.map (nrm .f32)) (rs.length - c) = (fop .sub .f32 (fop .add .f32 ((rs.map (nrm .f32)).getD c 0) (fop .mul .f32 (fop .add .f32 (fop .mul .f32 (ruleF kind c).1 (nrm .f32 x)) (ruleF kind c).2.1) (sumS kind (nrm .f32 x) (rs.map (nrm .f32)) (rs.length - (c + 1))).1)) (fop .mul .f32 (ruleF kind ((c : Int) + 1)).2.2 (sumS kind (nrm .f32 x) (rs.map (nrm .f32)) (rs.length - (c + 1))).2), (sumS kind (nrm .f32 x) (rs.map (nrm .f32)) (rs.length - (c + 1))).1) := by
          rw [show rs.length - c = (rs.length - (c + 1)) + 1 by omega]
          simp only [sumS, List.length_map]
          rw [show rs.length - 1 - (rs.length - (c + 1)) = c by omega]
        have Hst := Lib.hid hst
        have Hu := Lib.hid hu
        have Hq := Lib.hid hq
        have Hy := Lib.hid hy
        clear hst hu hq hz hy
        generalize rs[c] = y at c1 Hy
        have j1 : (0 : Int) ≤ (c : Int) := by omega
        have j2 : (c : Int) ≤ 16 := by omega
        have j3 : (c : Int) < (rs.length : Int) := by omega
        go_wp2_with (first | (with_reducible refine wpList_fop rfl _ _ _ _ _ rfl rfl .f32 _ _ rfl rfl ?_; intro r m hr) | (go_at_call 36; refine (rule_spec _ _ _ (by omega) (by omega)).mono ?_; rintro e w' ⟨ra, rb, rc, m, rfl, ha, hb, hc, rfl⟩))
        go_roundw
        case rel =>
          refine ⟨c, _, _, _, _, by simp; omega, rfl, rfl, rfl, rfl, ?_, ?_, by first | rfl | (simp only [World.drewN_drewN]; rfl)⟩
          · rw [List.length_map, Hst.out]; simp only [*, Hu.out, Hq.out, Hy.out]
          · rw [List.length_map, Hst.out]; exact Hu.out
        case measure => simp [intOf] <;> omega
  · have H := Lib.hid (show familySumF kind (rs.map (nrm .f32)) (nrm .f32 x) = (nrm .f32 0, false) by rw [familySumF, if_neg hno])
    have hx : ∀ (e : Ending) (w' : World), (∃ m, e = .returned (.tuple #[.float .f32 0, .bool false]) ∧ w' = w.drewN m) → RetNum (familySumF kind (rs.map (nrm .f32)) (nrm .f32 x)).1 (familySumF kind (rs.map (nrm .f32)) (nrm .f32 x)).2 w e w' := by
      rintro e w' ⟨m, rfl, rfl⟩; rw [H.out]; exact ⟨_, m, rfl, rfl, rfl⟩
    refine Calls.mono ?_ hx
    clear hx H
    simp only [sumOk, Bool.and_eq_true, not_and, Bool.not_eq_true, List.length_map, ← allFin_map] at hno
    have hl1 : (rs.length : Int) ≤ 1099511627776 := by omega
    by_cases hk : inB 0 kind 4 = true
    · have hkb : kindB kind 0 = true := by unfold kindB; rw [show inB 0 kind 4 = true from hk]; rfl
      by_cases hn1 : (rs.length : Int) < 1
      · clear hno hc
        go_enter Try.func16, Try.ntmps16
        go_wp2_with (first | (go_at_call 35; refine (family_spec _ _ _).mono ?_; rintro e w' ⟨rfl, rfl⟩) | (go_at_call 42; refine (finite_spec _ _ _ (by exact Hv.out) (by omega)).mono ?_; rintro e w' ⟨m, rfl, rfl⟩) | (go_at_call 43; refine (isFinite_spec _ _).mono ?_; rintro e w' ⟨m, rfl, rfl⟩))
        go_ret2
        exact ⟨0, rfl, rfl⟩
      · by_cases hn2 : 17 < (rs.length : Int)
        · clear hno hc
          go_enter Try.func16, Try.ntmps16
          go_wp2_with (first | (go_at_call 35; refine (family_spec _ _ _).mono ?_; rintro e w' ⟨rfl, rfl⟩) | (go_at_call 42; refine (finite_spec _ _ _ (by exact Hv.out) (by omega)).mono ?_; rintro e w' ⟨m, rfl, rfl⟩) | (go_at_call 43; refine (isFinite_spec _ _).mono ?_; rintro e w' ⟨m, rfl, rfl⟩))
          go_ret2
          exact ⟨0, rfl, rfl⟩
        · have hin : inB 1 rs.length 17 = true := inB_true.2 (by omega)
          by_cases ha : allFin rs = true
          · have hx := hno ⟨⟨hk, hin⟩, ha⟩
            clear hno hc hin
            go_enter Try.func16, Try.ntmps16
            go_wp2_with (first | (go_at_call 35; refine (family_spec _ _ _).mono ?_; rintro e w' ⟨rfl, rfl⟩) | (go_at_call 42; refine (finite_spec _ _ _ (by exact Hv.out) (by omega)).mono ?_; rintro e w' ⟨m, rfl, rfl⟩) | (go_at_call 43; refine (isFinite_spec _ _).mono ?_; rintro e w' ⟨m, rfl, rfl⟩))
            go_ret2
            exact ⟨_, rfl, rfl⟩
          · have ha : allFin rs = false := by simpa using ha
            clear hno hc hin
            go_enter Try.func16, Try.ntmps16
            go_wp2_with (first | (go_at_call 35; refine (family_spec _ _ _).mono ?_; rintro e w' ⟨rfl, rfl⟩) | (go_at_call 42; refine (finite_spec _ _ _ (by exact Hv.out) (by omega)).mono ?_; rintro e w' ⟨m, rfl, rfl⟩) | (go_at_call 43; refine (isFinite_spec _ _).mono ?_; rintro e w' ⟨m, rfl, rfl⟩))
            go_ret2
            exact ⟨_, rfl, rfl⟩
    · have hkb : kindB kind 0 = false := by unfold kindB; rw [show inB 0 kind 4 = false by simpa using hk]; rfl
      clear hno hc
      go_enter Try.func16, Try.ntmps16
      go_wp2_with (first | (go_at_call 35; refine (family_spec _ _ _).mono ?_; rintro e w' ⟨rfl, rfl⟩) | (go_at_call 42; refine (finite_spec _ _ _ (by exact Hv.out) (by omega)).mono ?_; rintro e w' ⟨m, rfl, rfl⟩) | (go_at_call 43; refine (isFinite_spec _ _).mono ?_; rintro e w' ⟨m, rfl, rfl⟩))
      go_ret2
      exact ⟨0, rfl, rfl⟩

end Go.Proofs.Ytcbaanidbkjmcaa
