/- Rests of wholes: the program's walk. Conditions: valid wholes. -/
import Derived.Test.YtlnjkjogedbhfaaI22
import Derived.Deep.RegionHeld3
namespace Go.Proofs.Ytlnjkjogedbhfaa
open Go Go.RowKit
set_option linter.unusedSimpArgs false
set_option linter.unusedVariables false

section
variable {ops : Array Oper} {o : Oper} {a : Act} {K : Act → World → Prop} {Q : Exit → Act → World → Prop} {E : Prop}
/-- One number more, as a step of a region that draws. -/
theorem step_pushI {t : TypeId} {w : World} {B : Nat} {v : Value} {zs : List Int} {y : Int} (hgd : o.guard = none) (s x : Operand) (ho : o.op = .call { callee := .builtin .append, args := #[s, x], argTypes := #[t, t] })
    (ht : Try.prog.underlying t = some (.slice 2)) (hown : RowI w B v zs) (hl : zs.length ≤ 1099511627776) (hB : B ≤ w.heap.size)
    (hs : a.eval s = v) (g : Nat) (hx : a.eval x = .slice (some ⟨g, 0, none⟩) 1 1) (hc : w.cell? ⟨g, 0, none⟩ = some (.int .i64 y))
    (h : ∀ v' w', RowI w' B v' (zs ++ [y]) → Below B w w' → K (a.put o.dst v') w') :
    if Region.wanted o (yielded ops a.tmps) = true then Oper.wp Try.prog o a w K Q else E := by
  have hi2 := info2
  cases hi : Try.prog.info? 2 with
  | none => rw [hi] at hi2; cases hi2
  | some i =>
  rw [hi] at hi2
  simp only [Option.map_some, Option.some.injEq, Prod.mk.injEq] at hi2
  refine step_append_lies w hgd s x t ho B 2 i (.int .i64 0) 1 8 ht hi hi2.1 hi2.2.1 hi2.2.2 rfl (by decide) v zs.length (cellsI zs) hs hown ⟨g, 0, none⟩ 1 1 [.int .i64 y] hx (by simp) ?_ ?_ (by decide) (by unfold maxLen; omega) (by omega) hB w.heap.size rfl ?_
  · intro j u hj
    cases j with
    | zero => simp only [List.getElem?_cons_zero, Option.some.injEq] at hj; subst hj; simpa [Addr.add] using hc
    | succ j => simp at hj
  · intro u hu; simp only [List.mem_singleton] at hu; subst hu; rfl
  · intro g' cap w1 hown1 hgrow hat hlt
    refine h _ w1 (by simpa [RowI, cellsI] using hown1) ?_
    refine (Below.refl B w).grown hgrow hB (fun k hk => ?_)
    rcases hown.2 with ⟨rfl, _⟩ | ⟨g', _, _, rfl, hb, _⟩
    · simp [Value.ownBlock] at hk
    · simp [Value.ownBlock] at hk; omega
end

theorem atZ_bd {zs : List Int} {M : Int} (hM : 0 ≤ M) (h : BdI M zs) (k : Int) : -M ≤ atZ zs k ∧ atZ zs k ≤ M := by
  unfold atZ
  split
  · exact h _
  · constructor <;> omega
theorem stepE_bd {a b : List Int} (ha : BdI 1000000 a) (hb : BdI 1000000 b) (k : Nat) : (-1000000000000 ≤ a.getD k 0 * lastZ b ∧ a.getD k 0 * lastZ b ≤ 1000000000000) ∧ (∀ j, -1000000000000 ≤ lastZ a * atZ b j ∧ lastZ a * atZ b j ≤ 1000000000000) := by
  constructor
  · have := mul_bound (M := 1000000) (by omega) (ha k) (hb (b.length - 1))
    unfold lastZ; omega
  · intro j
    have := mul_bound (M := 1000000) (by omega) (ha (a.length - 1)) (atZ_bd (by omega) hb j)
    unfold lastZ; omega
def ROpt (F : Option (List Int)) (w : World) (e : Ending) (w' : World) : Prop := ∃ v, e = .returned (.tuple #[.agg #[v], .bool F.isSome]) ∧ RdI w' v (F.getD []) ∧ Below w.heap.size w w'

/-- What holds at the head of the loop: the boxes of both wholes and of the result. -/
def RI (w : World) (aob : Option Addr) (cb : Nat) (b : List Int) (F : Option (List Int)) (g : Nat) (wr : World) : Prop :=
  ∃ A aoA cA, wr.cell? ⟨w.heap.size, 0, none⟩ = some (.slice aoA A.length cA) ∧ wr.cell? ⟨w.heap.size + 1, 0, none⟩ = some (.slice aob b.length cb) ∧ wr.cell? ⟨w.heap.size + 1 + 1, 0, none⟩ = some (.slice none 0 0) ∧
    wr.frozen? ⟨w.heap.size, 0, none⟩ = false ∧ wr.frozen? ⟨w.heap.size + 1 + 1, 0, none⟩ = false ∧
    RdO wr w.heap.size (w.heap.size + 3) (.slice aoA A.length cA) A ∧ Vld A ∧ restZ A b = F ∧ meas A = g ∧ Below w.heap.size w wr

set_option maxRecDepth 100000 in
set_option maxHeartbeats 4000000 in
theorem rest_walk (va vb : Value) (a b : List Int) (w : World) (ha : RdI w va a) (hb : RdI w vb b) (hva : Vld a) (hvb : Vld b) : Calls Try.prog 112 #[.agg #[va], .agg #[vb]] w (ROpt (restZ a b) w) := by
  have Ha := Lib.hid ha
  have Hb := Lib.hid hb
  have Hvb := Lib.hid hvb
  have hlb := hvb.len
  have hlb1 := List.length_pos_iff.2 hvb.ne
  obtain ⟨aoa, ca, rfl⟩ := ha.shape
  obtain ⟨bb, ob, cb, rfl, hbs, hcb⟩ := hb.open hvb.ne
  have Hcb := Lib.hid (fun (w' : World) (h : Below w.heap.size w w') i (hi : i < b.length) => (h.cell (p := ⟨bb, ob + i, none⟩) hbs).trans (hcb i hi))
  clear ha hb hcb hvb
  go_enter Try.func112, Try.ntmps112
  go_wp2
  go_loopg [6, 7] (meas a) (fun g u1 u2 wr => RI w (some ⟨bb, ob, none⟩) cb b (restZ a b) g wr)
  case atStart => exact ⟨a, _, _, by go_simp, by go_simp, by go_simp, by go_simp, by go_simp, RdO.ofOld Ha.out hva.ne (by (repeat' (first | (with_reducible exact Below.refl _ _) | (with_reducible assumption) | (with_reducible refine Below.alloc ?_ ?_ _) | (with_reducible refine Below.setCell ?_ ?_ _) | (with_reducible refine Below.drew ?_) | (with_reducible refine Below.via (by assumption) ?_ ?_) | go_size))) (Nat.le_refl _), hva, rfl, rfl, by (repeat' (first | (with_reducible exact Below.refl _ _) | (with_reducible assumption) | (with_reducible refine Below.alloc ?_ ?_ _) | (with_reducible refine Below.setCell ?_ ?_ _) | (with_reducible refine Below.drew ?_) | (with_reducible refine Below.via (by assumption) ?_ ?_) | go_size))⟩
  case round =>
    obtain ⟨A, aoA, cA, x0, x1, x2, y0, y2, hA, hvA, hre, hme, hbel⟩ := hrel
    have hA' := Lib.hid hA
    have HvA := Lib.hid hvA
    have Hre := Lib.hid hre
    have Hme := Lib.hid hme
    have hlA := hvA.len
    have hlA1 := List.length_pos_iff.2 hvA.ne
    clear hA hvA hre hme hva
    have s0 := World.block_lt_of_cell? _ _ x0
    have s1 := World.block_lt_of_cell? _ _ x1
    have s2 := World.block_lt_of_cell? _ _ x2
    simp only at s0 s1 s2
    cases hz : zeroB A
    · have Hz := Lib.hid hz
      by_cases hab : b.length ≤ A.length
      · go_wp2
        go_region_held3 (fun w' => w'.cell? ⟨w.heap.size, 0, none⟩ = some (.slice aoA A.length cA) ∧ w'.cell? ⟨w.heap.size + 1, 0, none⟩ = some (.slice (some ⟨bb, ob, none⟩) b.length cb))
          (((try dsimp only); (try go_split_ands); refine ⟨?_, ?_⟩ <;> (first | assumption  | (rw [b1.cell (by first | omega | (simp <;> omega))]; assumption) | (refine (((Below.refl _ _).alloc (Nat.le_refl _) _).cell (by first | omega | (simp <;> omega))).trans (by assumption)) | (go_keep; done))))
          (first
            | (go_at_call 93; ((with_reducible refine (noWhole_impl _ A _ (hA'.out.rd.below (by (repeat' (first | (with_reducible exact Below.refl _ _) | (with_reducible assumption) | (with_reducible refine Below.alloc ?_ ?_ _) | (with_reducible refine Below.setCell ?_ ?_ _) | (with_reducible refine Below.drew ?_) | (with_reducible refine Below.via (by assumption) ?_ ?_) | go_size)))) (by omega)).mono ?_); rintro e w1 ⟨rfl, b1⟩; have z1 := b1.size; (try simp only [World.size_alloc, World.size_drew, World.size_setCell] at z1)))
            | (go_at_call 79; ((with_reducible refine (degree_exact aoA A.length cA _ (by omega)).mono ?_); rintro e w' ⟨rfl, rfl⟩))
            | (go_at_call 79; ((with_reducible refine (degree_exact (some ⟨bb, ob, none⟩) b.length cb _ (by omega)).mono ?_); rintro e w' ⟨rfl, rfl⟩)))
        obtain ⟨bA, oA, cA2, hAe, hAb, hAn, hAc⟩ := hA'.out.open HvA.out.ne
        simp only [Value.slice.injEq, true_and] at hAe
        obtain ⟨rfl, rfl⟩ := hAe
        have HcA := Lib.hid (fun (w' : World) (h : Below wr.heap.size wr w') i (hi : i < A.length) => (h.cell (p := ⟨bA, oA + i, none⟩) hAb).trans (hAc i hi))
        clear hAc
        have Hl := Lib.hid (show A.getD (A.length - 1) 0 = lastZ A from rfl)
        obtain ⟨c1, f1⟩ := bcell b1
        have l0 : w.heap.size < w1.heap.size := by omega
        have l1 : w.heap.size + 1 < w1.heap.size := by omega
        have l2 : w.heap.size + 1 + 1 < w1.heap.size := by omega
        go_wp2
        go_region_held3 (fun w' => w'.cell? ⟨w.heap.size, 0, none⟩ = some (.slice (some ⟨bA, oA, none⟩) A.length cA) ∧ w'.cell? ⟨w.heap.size + 1, 0, none⟩ = some (.slice (some ⟨bb, ob, none⟩) b.length cb))
          (((try dsimp only); (try go_split_ands); refine ⟨?_, ?_⟩ <;> (first | assumption  | (rw [b1.cell (by first | omega | (simp <;> omega))]; assumption) | (refine (((Below.refl _ _).alloc (Nat.le_refl _) _).cell (by first | omega | (simp <;> omega))).trans (by assumption)) | (go_keep; done))))
          (first
            | (go_at_call 80; ((with_reducible refine (last_exact bA oA _ cA (lastZ A) _ hlA1 (by omega) (by first | omega | (simp; omega)) (by rw [← Hl.out]; exact HcA.out _ (by (repeat' (first | (with_reducible exact Below.refl _ _) | (with_reducible assumption) | (with_reducible refine Below.alloc ?_ ?_ _) | (with_reducible refine Below.setCell ?_ ?_ _) | (with_reducible refine Below.drew ?_) | (with_reducible refine Below.via (by assumption) ?_ ?_) | go_size))) _ (by omega))).mono ?_); rintro e w' ⟨rfl, rfl⟩))
            | (go_at_call 79; ((with_reducible refine (degree_exact (some ⟨bA, oA, none⟩) A.length cA _ (by omega)).mono ?_); rintro e w' ⟨rfl, rfl⟩))
            | (go_at_call 79; ((with_reducible refine (degree_exact (some ⟨bb, ob, none⟩) b.length cb _ (by omega)).mono ?_); rintro e w' ⟨rfl, rfl⟩)))
        generalize hw3 : ((((w1.alloc _).alloc _).alloc _).alloc _).alloc _ = w3
        have HX := Lib.hid hw3
        clear hw3
        have hb3 : Below wr.heap.size wr w3 := by rw [← HX.out]; (repeat' (first | (with_reducible exact Below.refl _ _) | (with_reducible assumption) | (with_reducible refine Below.alloc ?_ ?_ _) | (with_reducible refine Below.setCell ?_ ?_ _) | (with_reducible refine Below.drew ?_) | (with_reducible refine Below.via (by assumption) ?_ ?_) | go_size))
        have z3 := hb3.size
        have q0 := (hb3.cell (p := ⟨w.heap.size, 0, none⟩) s0).trans x0
        have q1 := (hb3.cell (p := ⟨w.heap.size + 1, 0, none⟩) s1).trans x1
        have q2 := (hb3.cell (p := ⟨w.heap.size + 1 + 1, 0, none⟩) s2).trans x2
        have f0 := (hb3.frozen (p := ⟨w.heap.size, 0, none⟩) s0).trans y0
        have f2 := (hb3.frozen (p := ⟨w.heap.size + 1 + 1, 0, none⟩) s2).trans y2
        have m0 : w.heap.size < w3.heap.size := by omega
        have m1 : w.heap.size + 1 < w3.heap.size := by omega
        have m2 : w.heap.size + 1 + 1 < w3.heap.size := by omega
        have hmv : IntKind.i64.wrap ((A.length : Int) - 1 - ((b.length : Int) - 1)) = (A.length : Int) - b.length := by rw [IntWalk.i64_in _ ⟨by omega, by omega⟩]; omega
        have Hb3 := Lib.hid (hb3.mono (Nat.le_refl _))
        have Hbw := Lib.hid (hbel.trans (hb3.mono (by omega)))
        have HA3 := Lib.hid (hA'.out.below hb3)
        clear b1 c1 f1 z1 x0 x1 x2 y0 y2 hb3 hbel l0 l1 l2 hz
        rw [hmv]
        go_wp2
        go_loopw [8, 32] (fun ov i wr => ∃ k : Nat, k ≤ A.length ∧ i = .int .i64 k ∧ RowI wr w3.heap.size ov (buildZ (stepE A b) k) ∧ Below w3.heap.size w3 wr) (fun _ i _ => A.length - (intOf i).toNat)
        case atStart => exact ⟨0, Nat.zero_le _, rfl, RowI.emptyB (by simp) (by simp <;> omega), by (repeat' (first | (with_reducible exact Below.refl _ _) | (with_reducible assumption) | (with_reducible refine Below.alloc ?_ ?_ _) | (with_reducible refine Below.setCell ?_ ?_ _) | (with_reducible refine Below.drew ?_) | (with_reducible refine Below.via (by assumption) ?_ ?_) | go_size))⟩
        case round =>
          obtain ⟨k, hk, rfl, hrow, hbel⟩ := hrel
          by_cases hlt : k < A.length
          · have hsz := hbel.size
            have hlen : (buildZ (stepE A b) k).length ≤ 1099511627776 := by rw [buildZ_length]; omega
            have Hn := Lib.hid (show buildZ (stepE A b) k ++ [stepE A b k] = buildZ (stepE A b) (k + 1) from buildZ_succ _ k)
            have c1 := HcA.out wr (Hb3.out.trans (hbel.mono Hb3.out.size)) k hlt
            have bd1 := stepE_bd HvA.out.bd Hvb.out.bd k
            have e1 := (hbel.cell (p := ⟨w.heap.size + 1, 0, none⟩) m1).trans q1
            have n1 : w.heap.size + 1 < wr.heap.size := by omega
            have Hbb := Lib.hid (Hbw.out.trans (hbel.mono (by omega)))
            have Hl2 := Lib.hid (show b.getD (b.length - 1) 0 = lastZ b from rfl)
            have Rb := Lib.hid (show ∀ w', Below w.heap.size w w' → RdI w' (.slice (some ⟨bb, ob, none⟩) b.length cb) b from fun w' h => Hb.out.below h)
            have Hrow := Lib.hid hrow
            have HE := Lib.hid (show A.getD k 0 * lastZ b - lastZ A * atZ b ((k : Int) - ((A.length : Int) - b.length)) = stepE A b k from rfl)
            have bd2 := bd1.2 ((k : Int) - ((A.length : Int) - b.length))
            have bd3 := bd1.1
            have hkw : IntKind.i64.wrap ((k : Int) - ((A.length : Int) - b.length)) = (k : Int) - ((A.length : Int) - b.length) := IntWalk.i64_in _ ⟨by omega, by omega⟩
            have hm1 : IntKind.i64.wrap (A.getD k 0 * lastZ b) = A.getD k 0 * lastZ b := IntWalk.i64_in _ ⟨by omega, by omega⟩
            have hm2 : IntKind.i64.wrap (lastZ A * atZ b ((k : Int) - ((A.length : Int) - b.length))) = lastZ A * atZ b ((k : Int) - ((A.length : Int) - b.length)) := IntWalk.i64_in _ ⟨by omega, by omega⟩
            have hm3 : IntKind.i64.wrap (A.getD k 0 * lastZ b - lastZ A * atZ b ((k : Int) - ((A.length : Int) - b.length))) = A.getD k 0 * lastZ b - lastZ A * atZ b ((k : Int) - ((A.length : Int) - b.length)) := IntWalk.i64_in _ ⟨by omega, by omega⟩
            clear bd1 hrow
            generalize A.getD k 0 = x at *
            generalize hj : (k : Int) - ((A.length : Int) - b.length) = j at *
            generalize hy : atZ b j = y at *
            go_wp2
            go_region_held3 (fun w' => w'.cell? ⟨w.heap.size + 1, 0, none⟩ = some (.slice (some ⟨bb, ob, none⟩) b.length cb))
              (((try dsimp only); (try go_split_ands); (first | assumption  | (rw [hb1.cell (by first | omega | (simp <;> omega))]; assumption) | (refine (((Below.refl _ _).alloc (Nat.le_refl _) _).cell (by first | omega | (simp <;> omega))).trans (by assumption)) | (go_keep; done))))
              (first
                | (go_at_call 80; ((with_reducible refine (last_exact bb ob _ cb (lastZ b) _ hlb1 (by omega) (by first | omega | (simp; omega)) (by rw [← Hl2.out]; exact Hcb.out _ (by have h := Hbb.out; (repeat' (first | (with_reducible exact Below.refl _ _) | (with_reducible assumption) | (with_reducible refine Below.alloc ?_ ?_ _) | (with_reducible refine Below.setCell ?_ ?_ _) | (with_reducible refine Below.drew ?_) | (with_reducible refine Below.via (by assumption) ?_ ?_) | go_size))) _ (by omega))).mono ?_); rintro e w' ⟨rfl, rfl⟩))
                | (go_at_call 89; ((with_reducible refine (integerAt_impl _ b j _ (Rb.out _ (by have h := Hbb.out; (repeat' (first | (with_reducible exact Below.refl _ _) | (with_reducible assumption) | (with_reducible refine Below.alloc ?_ ?_ _) | (with_reducible refine Below.setCell ?_ ?_ _) | (with_reducible refine Below.drew ?_) | (with_reducible refine Below.via (by assumption) ?_ ?_) | go_size)))) (by omega)).mono ?_); rintro e w' ⟨rfl, rfl⟩; rw [hy])) 
                | (refine step_pushI (B := w3.heap.size) (zs := buildZ (stepE A b) k) (y := x * lastZ b - lastZ A * y) rfl _ _ rfl int64S_under (Hrow.out.below (by (repeat' (first | (with_reducible exact Below.refl _ _) | (with_reducible assumption) | (with_reducible refine Below.alloc ?_ ?_ _) | (with_reducible refine Below.setCell ?_ ?_ _) | (with_reducible refine Below.drew ?_) | (with_reducible refine Below.via (by assumption) ?_ ?_) | go_size)))) hlen (by first | omega | (simp; omega)) rfl _ rfl (by go_simp) ?_; intro v1 w2 hr1 hb1))
            go_wp2
            go_roundw
            case rel => exact ⟨k + 1, by omega, by go_num, by rw [← Hn.out, ← HE.out]; exact hr1, by refine Below.trans ?_ hb1; (repeat' (first | (with_reducible exact Below.refl _ _) | (with_reducible assumption) | (with_reducible refine Below.alloc ?_ ?_ _) | (with_reducible refine Below.setCell ?_ ?_ _) | (with_reducible refine Below.drew ?_) | (with_reducible refine Below.via (by assumption) ?_ ?_) | go_size))⟩
            case measure => simp [intOf]; omega
          · obtain rfl : k = A.length := by omega
            have hsz := hbel.size
            have Hrow := Lib.hid hrow
            have e0 := (hbel.cell (p := ⟨w.heap.size, 0, none⟩) m0).trans q0
            have e1 := (hbel.cell (p := ⟨w.heap.size + 1, 0, none⟩) m1).trans q1
            have e2 := (hbel.cell (p := ⟨w.heap.size + 1 + 1, 0, none⟩) m2).trans q2
            have g0 := (hbel.frozen (p := ⟨w.heap.size, 0, none⟩) m0).trans f0
            have g2 := (hbel.frozen (p := ⟨w.heap.size + 1 + 1, 0, none⟩) m2).trans f2
            have Hbb := Lib.hid (Hbw.out.trans (hbel.mono (by omega)))
            clear hrow hbel q0 q1 q2 f0 f2
            go_wp2_with fail
            (go_at_call 86; ((with_reducible refine (whole_impl _ _ _ w3.heap.size Hrow.out.own (by rw [buildZ_length]; omega)).mono ?_); rintro e w5 ⟨v5, rfl, ho5, hb5⟩))
            have z5 := hb5.size
            have hsl : (stepZ A b).length = A.length := buildZ_length _ _
            have hne : stepZ A b ≠ [] := by intro h; rw [h] at hsl; simp at hsl; omega
            have Ho5 := Lib.hid (show OwI w5 w3.heap.size v5 (trimZ (stepZ A b)) from ho5)
            have hTt := trimZ_trd hne
            have hTl : (trimZ (stepZ A b)).length ≤ 17 := by rw [trimZ_length]; exact Nat.le_trans (trimTo_le _ _) (by omega)
            have Hgo := Lib.hid (fun h => restZ_go (b := b) HvA.out.ne Hvb.out.ne hab Hz.out h)
            have Hno := Lib.hid (fun h => restZ_none (b := b) HvA.out.ne Hvb.out.ne hab Hz.out h)
            have Hms := Lib.hid (step_meas (b := b) HvA.out.ne Hvb.out.ne hab Hz.out)
            have x0 := (hb5.cell (p := ⟨w.heap.size, 0, none⟩) (by simp only; omega)).trans e0
            have x1 := (hb5.cell (p := ⟨w.heap.size + 1, 0, none⟩) (by simp only; omega)).trans e1
            have x2 := (hb5.cell (p := ⟨w.heap.size + 1 + 1, 0, none⟩) (by simp only; omega)).trans e2
            have y0 := (hb5.frozen (p := ⟨w.heap.size, 0, none⟩) (by simp only; omega)).trans g0
            have y2 := (hb5.frozen (p := ⟨w.heap.size + 1 + 1, 0, none⟩) (by simp only; omega)).trans g2
            have Hb5 := Lib.hid (Hbb.out.trans (hb5.mono (by omega)))
            clear ho5 hb5 e0 e1 e2 g0 g2
            generalize trimZ (stepZ A b) = T at *
            have HR := Lib.hid ((RdO.ofOwn (lo := w.heap.size) (hi := w.heap.size + 3) Ho5.out (by omega)))
            obtain ⟨p5, c5, rfl⟩ := Ho5.out.rd.shape
            have k0 : w.heap.size < w5.heap.size := by omega
            have k1 : w.heap.size + 1 < w5.heap.size := by omega
            have k2 : w.heap.size + 1 + 1 < w5.heap.size := by omega
            have hTl1 := List.length_pos_iff.2 hTt.ne
            cases hv : validB T
            · have Hf := Lib.hid (show restZ a b = none by rw [← Hre.out]; exact Hno.out hv)
              have Hv := Lib.hid hv
              clear hv
              go_wp2_with fail
              (go_at_call 24; ((with_reducible refine (valid_impl _ T _ ((HR.out.setCell (by simp) (by simp) _).rd) (by omega)).mono ?_); rintro e w6 ⟨rfl, hb6⟩))
              obtain ⟨c6, f6⟩ := bcell hb6
              have z6 := hb6.size
              (try simp only [World.size_alloc, World.size_drew, World.size_setCell] at z6)
              have j0 : w.heap.size < w6.heap.size := by omega
              have j2 : w.heap.size + 1 + 1 < w6.heap.size := by omega
              rw [Hv.out]
              go_wp2_with fail
              (try simp only [Exit.inBlock, Exit.then]); refine bodyPost_ret (by simp [results, Try.results112, go_sem, *]; try rfl) rfl ?_
              rw [Hf.out]
              exact ⟨_, rfl, (OwI.nil _ w.heap.size).rd, by have h := Hb5.out; (repeat' (first | (with_reducible exact Below.refl _ _) | (with_reducible assumption) | (with_reducible refine Below.alloc ?_ ?_ _) | (with_reducible refine Below.setCell ?_ ?_ _) | (with_reducible refine Below.drew ?_) | (with_reducible refine Below.via (by assumption) ?_ ?_) | go_size))⟩
            · have Hv := Lib.hid hv
              have HvT := Lib.hid (validB_iff.1 hv)
              clear hv
              go_wp2_with fail
              (go_at_call 24; ((with_reducible refine (valid_impl _ T _ ((HR.out.setCell (by simp) (by simp) _).rd) (by omega)).mono ?_); rintro e w6 ⟨rfl, hb6⟩))
              obtain ⟨c6, f6⟩ := bcell hb6
              have z6 := hb6.size
              (try simp only [World.size_alloc, World.size_drew, World.size_setCell] at z6)
              have j0 : w.heap.size < w6.heap.size := by omega
              have j1 : w.heap.size + 1 < w6.heap.size := by omega
              have j2 : w.heap.size + 1 + 1 < w6.heap.size := by omega
              rw [Hv.out]
              go_wp2_with fail
              go_roundg (meas T)
              case measure => rw [← Hme.out]; exact Hms.out
              case rel =>
                have h := Hb5.out
                exact ⟨T, _, _, by go_simp, by go_simp, by go_simp, by go_simp, by go_simp, (HR.out.setCell (by simp) (by simp) _).below hb6, HvT.out, by rw [← Hgo.out Hv.out]; exact Hre.out, rfl, by (repeat' (first | (with_reducible exact Below.refl _ _) | (with_reducible assumption) | (with_reducible refine Below.alloc ?_ ?_ _) | (with_reducible refine Below.setCell ?_ ?_ _) | (with_reducible refine Below.drew ?_) | (with_reducible refine Below.via (by assumption) ?_ ?_) | go_size))⟩
      · have Hf := Lib.hid (show restZ a b = some A by rw [← Hre.out, restZ_stop (.inr (by omega))])
        have Rn := Lib.hid hA'.out.rd
        go_wp2
        go_region_held3 (fun w' => w'.cell? ⟨w.heap.size, 0, none⟩ = some (.slice aoA A.length cA) ∧ w'.cell? ⟨w.heap.size + 1, 0, none⟩ = some (.slice (some ⟨bb, ob, none⟩) b.length cb))
          (((try dsimp only); (try go_split_ands); refine ⟨?_, ?_⟩ <;> (first | assumption  | (rw [b1.cell (by first | omega | (simp <;> omega))]; assumption) | (refine (((Below.refl _ _).alloc (Nat.le_refl _) _).cell (by first | omega | (simp <;> omega))).trans (by assumption)) | (go_keep; done))))
          (first
            | (go_at_call 93; ((with_reducible refine (noWhole_impl _ A _ (hA'.out.rd.below (by (repeat' (first | (with_reducible exact Below.refl _ _) | (with_reducible assumption) | (with_reducible refine Below.alloc ?_ ?_ _) | (with_reducible refine Below.setCell ?_ ?_ _) | (with_reducible refine Below.drew ?_) | (with_reducible refine Below.via (by assumption) ?_ ?_) | go_size)))) (by omega)).mono ?_); rintro e w1 ⟨rfl, b1⟩; have z1 := b1.size; (try simp only [World.size_alloc, World.size_drew, World.size_setCell] at z1)))
            | (go_at_call 79; ((with_reducible refine (degree_exact aoA A.length cA _ (by omega)).mono ?_); rintro e w' ⟨rfl, rfl⟩))
                    | (go_at_call 79; ((with_reducible refine (degree_exact (some ⟨bb, ob, none⟩) b.length cb _ (by omega)).mono ?_); rintro e w' ⟨rfl, rfl⟩)))
        generalize hw3 : (w1.alloc _).alloc _ = w3
        have HX := Lib.hid hw3
        clear hw3
        have hb3 : Below wr.heap.size wr w3 := by rw [← HX.out]; (repeat' (first | (with_reducible exact Below.refl _ _) | (with_reducible assumption) | (with_reducible refine Below.alloc ?_ ?_ _) | (with_reducible refine Below.setCell ?_ ?_ _) | (with_reducible refine Below.drew ?_) | (with_reducible refine Below.via (by assumption) ?_ ?_) | go_size))
        have z3 := hb3.size
        have q0 := (hb3.cell (p := ⟨w.heap.size, 0, none⟩) s0).trans x0
        have q2 := (hb3.cell (p := ⟨w.heap.size + 1 + 1, 0, none⟩) s2).trans x2
        have f2 := (hb3.frozen (p := ⟨w.heap.size + 1 + 1, 0, none⟩) s2).trans y2
        have m0 : w.heap.size < w3.heap.size := by omega
        have m2 : w.heap.size + 1 + 1 < w3.heap.size := by omega
        clear x0 x1 x2 y0 y2 b1 z1 hz
        go_wp2
        (try simp only [Exit.inBlock, Exit.then]); refine bodyPost_ret (by simp [results, Try.results112, go_sem, *]; try rfl) rfl ?_
        rw [Hf.out]
        exact ⟨_, rfl, (RdO.setCell (hA'.out.below hb3) (by simp only; omega) (by simp only; omega) _).rd, Below.setCell (hbel.trans (hb3.mono (by omega))) (by simp only; omega) _⟩
    · have Hf := Lib.hid (show restZ a b = some A by rw [← Hre.out, restZ_stop (.inl hz)])
      have Hzt := Lib.hid hz
      clear hz
      go_wp2
      go_region_with (go_at_call 93; ((with_reducible refine (noWhole_impl _ A _ (hA'.out.rd.below (by (repeat' (first | (with_reducible exact Below.refl _ _) | (with_reducible assumption) | (with_reducible refine Below.alloc ?_ ?_ _) | (with_reducible refine Below.setCell ?_ ?_ _) | (with_reducible refine Below.drew ?_) | (with_reducible refine Below.via (by assumption) ?_ ?_) | go_size)))) (by omega)).mono ?_); rintro e w1 ⟨rfl, b1⟩; rw [Hzt.out]; have z1 := b1.size; (try simp only [World.size_alloc, World.size_drew, World.size_setCell] at z1)))
      all_goals
        have hb3 : Below wr.heap.size wr w1 := by (repeat' (first | (with_reducible exact Below.refl _ _) | (with_reducible assumption) | (with_reducible refine Below.alloc ?_ ?_ _) | (with_reducible refine Below.setCell ?_ ?_ _) | (with_reducible refine Below.drew ?_) | (with_reducible refine Below.via (by assumption) ?_ ?_) | go_size))
        have z3 := hb3.size
        have q0 := (hb3.cell (p := ⟨w.heap.size, 0, none⟩) s0).trans x0
        have q2 := (hb3.cell (p := ⟨w.heap.size + 1 + 1, 0, none⟩) s2).trans x2
        have f2 := (hb3.frozen (p := ⟨w.heap.size + 1 + 1, 0, none⟩) s2).trans y2
        have m0 : w.heap.size < w1.heap.size := by omega
        have m2 : w.heap.size + 1 + 1 < w1.heap.size := by omega
        clear x0 x1 x2 y0 y2 b1 z1
        go_wp2
        (try simp only [Exit.inBlock, Exit.then]); refine bodyPost_ret (by simp [results, Try.results112, go_sem, *]; try rfl) rfl ?_
        rw [Hf.out]
        exact ⟨_, rfl, (RdO.setCell (hA'.out.below hb3) (by simp only; omega) (by simp only; omega) _).rd, Below.setCell (hbel.trans (hb3.mono (by omega))) (by simp only; omega) _⟩

end Go.Proofs.Ytlnjkjogedbhfaa
