/- Rows of integers that are made, and written. Conditions: lengths of at most 2^40. -/
import Derived.Test.YtlnjkjogedbhfaaI6
import Derived.StillTailTactics
import Derived.Laws.OwnMore
namespace Go.Proofs.Ytlnjkjogedbhfaa
open Go Go.RowKit
set_option linter.unusedSimpArgs false
set_option linter.unusedVariables false

theorem made_zeros (n : Nat) : (madeCells (Value.int .i64 0).cells (n * 1)).toList = cellsI (List.replicate n 0) := by
  rw [Nat.mul_one, show (Value.int .i64 0).cells = #[Value.int .i64 0] from rfl, toList_madeCells_one]
  simp [cellsI]

section
variable {ops : Array Oper} {rest : List Oper} {o : Oper} {a : Act} {Q : Exit → Act → World → Prop}
/-- A new list of zeros. -/
theorem wpList_makeI (w : World) (hg : o.guard = none) (l c : Operand) (t : TypeId) (hop : o.op = Op.makeSlice t l c) (ht : Try.prog.underlying t = some (.slice 2))
    (L C : Int) (n : Nat) (hl : a.eval l = .int .i64 L) (hc : a.eval c = .int .i64 C) (hL : L = (n : Int)) (hC : C = (n : Int)) (hn : n ≤ 1099511627776)
    (hK : ∀ w', RowI w' w.heap.size (.slice (some ⟨w.heap.size, 0, none⟩) n n) (List.replicate n 0) → Below w.heap.size w w' → w.heap.size < w'.heap.size → wpList Try.prog ops Q rest (a.put o.dst (.slice (some ⟨w.heap.size, 0, none⟩) n n)) w') :
    wpList Try.prog ops Q (o :: rest) a w := by
  have hi2 := info2
  cases hi : Try.prog.info? 2 with
  | none => rw [hi] at hi2; cases hi2
  | some i =>
  rw [hi] at hi2
  simp only [Option.map_some, Option.some.injEq, Prod.mk.injEq] at hi2
  refine wpList_make_full w hg l c t hop w.heap.size 2 i _ 1 ht hi hi2.1 hi2.2.1 .i64 .i64 L C n hl hc hL hC (by rw [hi2.2.2]; omega) (by unfold maxLen; omega) (Nat.le_refl _) ?_
  intro w1 hown hgrow
  rw [made_zeros] at hown
  refine hK w1 (by simpa [RowI] using hown) ((Below.refl _ _).grown hgrow (Nat.le_refl _) (by simp)) ?_
  rcases hown.2 with ⟨h, _⟩ | ⟨g, _, _, h, _, hg, _⟩
  · simp at h
  · simp only [Value.slice.injEq, Option.some.injEq, Addr.mk.injEq, and_true, true_and] at h
    rw [h.1]
    exact (Array.getElem?_eq_some_iff.1 hg).1
end

theorem RowI.set {w : World} {B g n cap : Nat} {zs : List Int} (h : RowI w B (.slice (some ⟨g, 0, none⟩) n cap) zs) (j : Nat) (y : Int) : RowI (w.setCell ⟨g, j, none⟩ (.int .i64 y)) B (.slice (some ⟨g, 0, none⟩) n cap) (zs.set j y) := by
  have hn : zs.length = n := by
    rcases h.2 with ⟨h, _⟩ | ⟨g, _, _, h, _, hg, _⟩
    · simp at h
    · simp only [Value.slice.injEq] at h; exact h.2.1.symm
  subst hn
  have := (World.ownsRow.stored h j (.int .i64 y)).1
  simpa [RowI, cellsI, List.map_set] using this
theorem RowI.cell {w : World} {B g n cap : Nat} {zs : List Int} (h : RowI w B (.slice (some ⟨g, 0, none⟩) n cap) zs) {j : Nat} (hj : j < zs.length) : w.cell? ⟨g, j, none⟩ = some (.int .i64 (zs.getD j 0)) := by
  have hn : zs.length = n := by
    rcases h.2 with ⟨h, _⟩ | ⟨g, _, _, h, _, hg, _⟩
    · simp at h
    · simp only [Value.slice.injEq] at h; exact h.2.1.symm
  subst hn
  rw [World.ownsRow.cellAt h j (by omega), cellsI_get hj]
theorem RowI.frozen {w : World} {B g n cap : Nat} {zs : List Int} (h : RowI w B (.slice (some ⟨g, 0, none⟩) n cap) zs) (j : Nat) : w.frozen? ⟨g, j, none⟩ = false := by
  have hn : zs.length = n := by
    rcases h.2 with ⟨h, _⟩ | ⟨g, _, _, h, _, hg, _⟩
    · simp at h
    · simp only [Value.slice.injEq] at h; exact h.2.1.symm
  subst hn
  exact World.ownsRow.frozenAt h j
theorem RowI.alloc {w : World} {B : Nat} {v : Value} {zs : List Int} (h : RowI w B v zs) (o : Obj) : RowI (w.alloc o) B v zs := World.ownsRow.alloc h o
theorem RowI.below {w w' : World} {B : Nat} {v : Value} {zs : List Int} (h : RowI w B v zs) (hb : Below w.heap.size w w') : RowI w' B v zs := ownsRow_below h hb

/-! The product, as both texts make it. -/
def addAt (o : List Int) (j : Nat) (d : Int) : List Int := o.set j (o.getD j 0 + d)
def mulRow (x : Int) (b : List Int) (i : Nat) (o : List Int) : Nat → List Int
  | 0 => o
  | k + 1 => addAt (mulRow x b i o k) (i + k) (x * b.getD k 0)
def mulRows (a b o : List Int) : Nat → List Int
  | 0 => o
  | i + 1 => mulRow (a.getD i 0) b i (mulRows a b o i) b.length
def mulZ (a b : List Int) : List Int := mulRows a b (List.replicate (a.length + b.length - 1) 0) a.length
theorem addAt_length (o : List Int) (j : Nat) (d : Int) : (addAt o j d).length = o.length := by simp [addAt]
theorem mulRow_length (x : Int) (b : List Int) (i : Nat) (o : List Int) : ∀ k, (mulRow x b i o k).length = o.length
  | 0 => rfl
  | k + 1 => by rw [mulRow, addAt_length, mulRow_length x b i o k]
theorem mulRows_length (a b o : List Int) : ∀ i, (mulRows a b o i).length = o.length
  | 0 => rfl
  | i + 1 => by rw [mulRows, mulRow_length, mulRows_length a b o i]
theorem mulZ_length (a b : List Int) : (mulZ a b).length = a.length + b.length - 1 := by rw [mulZ, mulRows_length, List.length_replicate]
theorem addAt_get (o : List Int) (j : Nat) (d : Int) (q : Nat) (hj : j < o.length) : (addAt o j d).getD q 0 = o.getD q 0 + if q = j then d else 0 := by
  by_cases e : q = j
  · subst e; simp [addAt, List.getD, hj]
  · rw [if_neg e, Int.add_zero, addAt]
    simp only [List.getD]
    rw [List.getElem?_set_ne (by omega)]
theorem mulRow_bound {x : Int} {b : List Int} {i : Nat} {o : List Int} {M C : Int} (hM : 0 ≤ M) (hx : ∀ k, -M ≤ x * b.getD k 0 ∧ x * b.getD k 0 ≤ M) (hi : i + b.length ≤ o.length) (ho : BdI C o) :
    ∀ k, k ≤ b.length → ∀ q, -(C + if q < i + k then M else 0) ≤ (mulRow x b i o k).getD q 0 ∧ (mulRow x b i o k).getD q 0 ≤ C + if q < i + k then M else 0
  | 0, _, q => by
    have := ho q
    rw [mulRow]
    split <;> omega
  | k + 1, hk, q => by
    have h1 := mulRow_bound hM hx hi ho k (by omega) q
    have h2 := hx k
    rw [mulRow, addAt_get _ _ _ _ (by rw [mulRow_length]; omega)]
    by_cases e : q = i + k
    · subst e
      rw [if_neg (by omega)] at h1
      rw [if_pos rfl, if_pos (by omega)]
      omega
    · rw [if_neg e]
      by_cases e2 : q < i + k
      · rw [if_pos e2] at h1
        rw [if_pos (by omega)]
        omega
      · rw [if_neg e2] at h1
        rw [if_neg (by omega)]
        omega
theorem mulRows_bound {a b o : List Int} {M : Int} (hM : 0 ≤ M) (hx : ∀ i k, -M ≤ a.getD i 0 * b.getD k 0 ∧ a.getD i 0 * b.getD k 0 ≤ M) (ho : BdI 0 o) (hl : a.length + b.length - 1 ≤ o.length) :
    ∀ i, i ≤ a.length → BdI (i * M) (mulRows a b o i)
  | 0, _ => by simpa [mulRows] using ho
  | i + 1, hi => fun q => by
    have ih := mulRows_bound hM hx ho hl i (by omega)
    have h1 := mulRow_bound (x := a.getD i 0) (b := b) (i := i) hM (hx i) (by rw [mulRows_length]; omega) ih b.length (Nat.le_refl _) q
    have e : ((i + 1 : Nat) : Int) * M = i * M + M := by rw [Int.natCast_add, Int.add_mul]; simp
    rw [mulRows, e]
    split at h1 <;> omega

theorem bdI_zero (n : Nat) : BdI 0 (List.replicate n 0) := fun i => by
  simp only [List.getD, List.getElem?_replicate]
  split <;> simp
theorem mul_bound {M x y : Int} (hM : 0 ≤ M) (h1 : -M ≤ x ∧ x ≤ M) (h2 : -M ≤ y ∧ y ≤ M) : -(M * M) ≤ x * y ∧ x * y ≤ M * M := by
  have h : (x * y).natAbs ≤ (M * M).natAbs := by
    rw [Int.natAbs_mul, Int.natAbs_mul]
    exact Nat.mul_le_mul (by omega) (by omega)
  have : 0 ≤ M * M := Int.mul_nonneg hM hM
  omega
theorem mul_le_const {i : Nat} {n M : Int} (hM : 0 ≤ M) (h : (i : Int) ≤ n) : (i : Int) * M ≤ n * M := Int.mul_le_mul_of_nonneg_right h hM

set_option maxRecDepth 100000 in
set_option maxHeartbeats 800000 in
theorem product_impl (va vb : Value) (a b : List Int) (w : World) (ha : RdI w va a) (hb : RdI w vb b) (hla : 0 < a.length) (hlb : 0 < b.length) (hla2 : a.length ≤ 100) (hlb2 : b.length ≤ 100) (hba : BdI 1000000 a) (hbb : BdI 1000000 b) : Calls Try.prog 84 #[va, vb] w fun e w' => ∃ v, e = .returned v ∧ RowI w' w.heap.size v (mulZ a b) ∧ Below w.heap.size w w' := by
  have Ha := Lib.hid ha
  have Hb := Lib.hid hb
  obtain ⟨ba, oa, ca, rfl, hsa, hca⟩ := ha.open (List.ne_nil_of_length_pos hla)
  obtain ⟨bb, ob, cb, rfl, hsb, hcb⟩ := hb.open (List.ne_nil_of_length_pos hlb)
  have Hca := Lib.hid hca
  have Hcb := Lib.hid hcb
  clear ha hb hca hcb
  have Hm := Lib.hid (fun i k => mul_bound (M := 1000000) (by omega) (hba i) (hbb k))
  have Hbd := Lib.hid (mulRows_bound (a := a) (b := b) (o := List.replicate (a.length + b.length - 1) 0) (M := 1000000 * 1000000) (by omega) Hm.out (bdI_zero _) (by rw [List.length_replicate]; omega))
  clear hba hbb
  go_enter Try.func84, Try.ntmps84
  go_wp2_with (at_make; refine wpList_makeI _ rfl _ _ _ rfl int64S_under _ _ (a.length + b.length - 1) rfl rfl (by omega) (by omega) (by omega) ?_; intro w1 hrow1 hbel1 hlt1)
  go_loopw [19] (fun i wr => ∃ k : Nat, k ≤ a.length ∧ i = .int .i64 k ∧ RowI wr w.heap.size (.slice (some ⟨w.heap.size, 0, none⟩) (a.length + b.length - 1) (a.length + b.length - 1)) (mulRows a b (List.replicate (a.length + b.length - 1) 0) k) ∧ Below w.heap.size w wr) (fun i _ => a.length - (intOf i).toNat)
  case atStart => exact ⟨0, Nat.zero_le _, rfl, hrow1, hbel1⟩
  case round =>
    obtain ⟨i, hi, rfl, hrow, hbel⟩ := hrel
    by_cases hlt : i < a.length
    · have c1 := (hbel.cell (p := ⟨ba, oa + i, none⟩) hsa).trans (Hca.out i hlt)
      have Hx := Lib.hid (show a.getD i 0 = a.getD i 0 from rfl)
      generalize hxe : a.getD i 0 = x at c1
      have Hxe := Lib.hid hxe
      have Hrow := Lib.hid hrow
      have Hbel := Lib.hid hbel
      clear hrow hbel hxe Hx hrow1 hbel1
      go_wp2
      go_loopw [26] (fun kk w2 => ∃ k : Nat, k ≤ b.length ∧ kk = .int .i64 k ∧ RowI w2 w.heap.size (.slice (some ⟨w.heap.size, 0, none⟩) (a.length + b.length - 1) (a.length + b.length - 1)) (mulRow x b i (mulRows a b (List.replicate (a.length + b.length - 1) 0) i) k) ∧ Below w.heap.size w w2) (fun kk _ => b.length - (intOf kk).toNat)
      case atStart => exact ⟨0, Nat.zero_le _, rfl, Hrow.out, Hbel.out⟩
      case round =>
        obtain ⟨k, hk, rfl, hrow2, hbel2⟩ := hrel
        by_cases hltk : k < b.length
        · have Hl := Lib.hid (show (mulRow x b i (mulRows a b (List.replicate (a.length + b.length - 1) 0) i) k).length = a.length + b.length - 1 by rw [mulRow_length, mulRows_length, List.length_replicate])
          have c2 := hrow2.cell (j := i + k) (by rw [Hl.out]; omega)
          have c3 := hrow2.frozen (i + k)
          have c4 := (hbel2.cell (p := ⟨bb, ob + k, none⟩) hsb).trans (Hcb.out k hltk)
          have hp := Hm.out i k
          rw [Hxe.out] at hp
          have hbd := mulRow_bound (x := x) (b := b) (i := i) (o := mulRows a b (List.replicate (a.length + b.length - 1) 0) i) (M := 1000000 * 1000000) (C := i * (1000000 * 1000000)) (by omega) (by rw [← Hxe.out]; exact Hm.out i) (by rw [mulRows_length, List.length_replicate]; omega) (Hbd.out i (by omega)) k (by omega) (i + k)
          rw [if_neg (by omega)] at hbd
          have hc100 := mul_le_const (i := i) (n := 100) (M := 1000000 * 1000000) (by omega) (by omega)
          have H2 := Lib.hid (hrow2.set (i + k) ((mulRow x b i (mulRows a b (List.replicate (a.length + b.length - 1) 0) i) k).getD (i + k) 0 + x * b.getD k 0))
          have H3 := Lib.hid hbel2
          clear hrow2 hbel2
          generalize hoe : (mulRow x b i (mulRows a b (List.replicate (a.length + b.length - 1) 0) i) k).getD (i + k) 0 = old at *
          generalize hye : b.getD k 0 = y at *
          generalize hpe : x * y = xy at *
          have Hoe := Lib.hid hoe
          have Hye := Lib.hid hye
          have Hpe := Lib.hid hpe
          clear hoe hye
          go_wp2
          go_roundw
          case rel =>
            refine ⟨k + 1, by omega, by go_num, ?_, ?_⟩
            · rw [mulRow, addAt, Hoe.out, Hye.out, Hpe.out]; exact H2.out
            · have h3 := H3.out; (repeat' (first | (with_reducible exact Below.refl _ _) | (with_reducible assumption) | (with_reducible refine Below.alloc ?_ ?_ _) | (with_reducible refine Below.setCell ?_ ?_ _) | (with_reducible refine Below.drew ?_) | (with_reducible refine Below.via (by assumption) ?_ ?_) | go_size))
          case measure => simp [intOf]; omega
        · obtain rfl : k = b.length := by omega
          have Hr2 := Lib.hid hrow2
          have Hb2 := Lib.hid hbel2
          clear hrow2 hbel2
          go_wp2
          go_roundw
          case rel =>
            refine ⟨i + 1, by omega, by go_num, ?_, Hb2.out⟩
            rw [mulRows, Hxe.out]; exact Hr2.out
          case measure => simp [intOf]; omega
    · obtain rfl : i = a.length := by omega
      have Hr2 := Lib.hid hrow
      have Hb2 := Lib.hid hbel
      clear hrow hbel
      go_wp2
      go_ret
      exact ⟨_, rfl, Hr2.out, Hb2.out⟩

set_option maxRecDepth 100000 in
set_option maxHeartbeats 800000 in
theorem mul_spec (va vb : Value) (a b : List Int) (w : World) (ha : RdI w va a) (hb : RdI w vb b) (hla : 0 < a.length) (hlb : 0 < b.length) (hla2 : a.length ≤ 100) (hlb2 : b.length ≤ 100) (hba : BdI 1000000 a) (hbb : BdI 1000000 b) : Calls Try.prog 67 #[va, vb] w fun e w' => ∃ v, e = .returned v ∧ RowI w' w.heap.size v (mulZ a b) ∧ Below w.heap.size w w' := by
  have Ha := Lib.hid ha
  have Hb := Lib.hid hb
  obtain ⟨ba, oa, ca, rfl, hsa, hca⟩ := ha.open (List.ne_nil_of_length_pos hla)
  obtain ⟨bb, ob, cb, rfl, hsb, hcb⟩ := hb.open (List.ne_nil_of_length_pos hlb)
  have Hca := Lib.hid hca
  have Hcb := Lib.hid hcb
  clear ha hb hca hcb
  have Hm := Lib.hid (fun i k => mul_bound (M := 1000000) (by omega) (hba i) (hbb k))
  have Hbd := Lib.hid (mulRows_bound (a := a) (b := b) (o := List.replicate (a.length + b.length - 1) 0) (M := 1000000 * 1000000) (by omega) Hm.out (bdI_zero _) (by rw [List.length_replicate]; omega))
  clear hba hbb
  go_enter Try.func67, Try.ntmps67
  go_wp2_with (at_make; refine wpList_makeI _ rfl _ _ _ rfl int64S_under _ _ (a.length + b.length - 1) rfl rfl (by omega) (by omega) (by omega) ?_; intro w1 hrow1 hbel1 hlt1)
  go_loopw [17] (fun i wr => ∃ k : Nat, k ≤ a.length ∧ i = .int .i64 k ∧ RowI wr w.heap.size (.slice (some ⟨w.heap.size, 0, none⟩) (a.length + b.length - 1) (a.length + b.length - 1)) (mulRows a b (List.replicate (a.length + b.length - 1) 0) k) ∧ Below w.heap.size w wr) (fun i _ => a.length - (intOf i).toNat)
  case atStart => exact ⟨0, Nat.zero_le _, rfl, hrow1, hbel1⟩
  case round =>
    obtain ⟨i, hi, rfl, hrow, hbel⟩ := hrel
    by_cases hlt : i < a.length
    · have c1 := (hbel.cell (p := ⟨ba, oa + i, none⟩) hsa).trans (Hca.out i hlt)
      have Hx := Lib.hid (show a.getD i 0 = a.getD i 0 from rfl)
      generalize hxe : a.getD i 0 = x at c1
      have Hxe := Lib.hid hxe
      have Hrow := Lib.hid hrow
      have Hbel := Lib.hid hbel
      clear hrow hbel hxe Hx hrow1 hbel1
      go_wp2
      go_loopw [22] (fun kk w2 => ∃ k : Nat, k ≤ b.length ∧ kk = .int .i64 k ∧ RowI w2 w.heap.size (.slice (some ⟨w.heap.size, 0, none⟩) (a.length + b.length - 1) (a.length + b.length - 1)) (mulRow x b i (mulRows a b (List.replicate (a.length + b.length - 1) 0) i) k) ∧ Below w.heap.size w w2) (fun kk _ => b.length - (intOf kk).toNat)
      case atStart => exact ⟨0, Nat.zero_le _, rfl, Hrow.out, Hbel.out⟩
      case round =>
        obtain ⟨k, hk, rfl, hrow2, hbel2⟩ := hrel
        by_cases hltk : k < b.length
        · have Hl := Lib.hid (show (mulRow x b i (mulRows a b (List.replicate (a.length + b.length - 1) 0) i) k).length = a.length + b.length - 1 by rw [mulRow_length, mulRows_length, List.length_replicate])
          have c2 := hrow2.cell (j := i + k) (by rw [Hl.out]; omega)
          have c3 := hrow2.frozen (i + k)
          have c4 := (hbel2.cell (p := ⟨bb, ob + k, none⟩) hsb).trans (Hcb.out k hltk)
          have c5 := (hbel2.cell (p := ⟨ba, oa + i, none⟩) hsa).trans (Hca.out i hlt)
          rw [Hxe.out] at c5
          have hp := Hm.out i k
          rw [Hxe.out] at hp
          have hbd := mulRow_bound (x := x) (b := b) (i := i) (o := mulRows a b (List.replicate (a.length + b.length - 1) 0) i) (M := 1000000 * 1000000) (C := i * (1000000 * 1000000)) (by omega) (by rw [← Hxe.out]; exact Hm.out i) (by rw [mulRows_length, List.length_replicate]; omega) (Hbd.out i (by omega)) k (by omega) (i + k)
          rw [if_neg (by omega)] at hbd
          have hc100 := mul_le_const (i := i) (n := 100) (M := 1000000 * 1000000) (by omega) (by omega)
          have H2 := Lib.hid (hrow2.set (i + k) ((mulRow x b i (mulRows a b (List.replicate (a.length + b.length - 1) 0) i) k).getD (i + k) 0 + x * b.getD k 0))
          have H3 := Lib.hid hbel2
          clear hrow2 hbel2
          generalize hoe : (mulRow x b i (mulRows a b (List.replicate (a.length + b.length - 1) 0) i) k).getD (i + k) 0 = old at *
          generalize hye : b.getD k 0 = y at *
          generalize hpe : x * y = xy at *
          have Hoe := Lib.hid hoe
          have Hye := Lib.hid hye
          have Hpe := Lib.hid hpe
          clear hoe hye
          have q1 : IntKind.i64.wrap ((i : Int) + k) = (i : Int) + k := IntWalk.i64_in _ ⟨by omega, by omega⟩
          have q2 : (i : Int) + k < ((a.length + b.length - 1 : Nat) : Int) := by omega
          have q3 : ((i : Int) + k).toNat = i + k := by omega
          have q4 : IntKind.i64.wrap xy = xy := IntWalk.i64_in _ ⟨by omega, by omega⟩
          have q5 : IntKind.i64.wrap (old + xy) = old + xy := IntWalk.i64_in _ ⟨by omega, by omega⟩
          have q6 : (0 : Int) ≤ (i : Int) + k := by omega
          go_wp2
          go_still_tail 17, (by kernel_rfl)
          go_wp2
          go_roundw
          case rel =>
            refine ⟨k + 1, by omega, by go_num, ?_, ?_⟩
            · rw [mulRow, addAt, Hoe.out, Hye.out, Hpe.out]; exact H2.out
            · have h3 := H3.out; (repeat' (first | (with_reducible exact Below.refl _ _) | (with_reducible assumption) | (with_reducible refine Below.alloc ?_ ?_ _) | (with_reducible refine Below.setCell ?_ ?_ _) | (with_reducible refine Below.drew ?_) | (with_reducible refine Below.via (by assumption) ?_ ?_) | go_size))
          case measure => simp [intOf]; omega
        · obtain rfl : k = b.length := by omega
          have Hr2 := Lib.hid hrow2
          have Hb2 := Lib.hid hbel2
          clear hrow2 hbel2
          go_wp2
          go_roundw
          case rel =>
            refine ⟨i + 1, by omega, by go_num, ?_, Hb2.out⟩
            rw [mulRows, Hxe.out]; exact Hr2.out
          case measure => simp [intOf]; omega
    · obtain rfl : i = a.length := by omega
      have Hr2 := Lib.hid hrow
      have Hb2 := Lib.hid hbel
      clear hrow hbel
      go_wp2
      go_ret
      exact ⟨_, rfl, Hr2.out, Hb2.out⟩

end Go.Proofs.Ytlnjkjogedbhfaa
