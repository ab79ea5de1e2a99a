/- Products of lists of terms, of the program. Conditions: lists of 1 to 17 terms; what is narrowed fits float32. -/
import Derived.Test.YtfnhddaofllniaaGreatV21
import Derived.Test.YtfnhddaofllniaaGreatV9
import Derived.Test.YtfnhddaofllniaaGreatV12
namespace Go.Proofs.YtfnhddaofllniaaGreat
open Go Go.RowKit
set_option linter.unusedSimpArgs false
set_option linter.unusedVariables false

section
variable {ops : Array Oper} {rest : List Oper} {o : Oper} {a : Act} {Q : Exit → Act → World → Prop}
theorem wpList_makeV {e : TypeId} (w : World) (z : Value) (bytes : Nat) (hinfo : (Tryz.prog.info? e).map (fun i => (i.zero, i.size, i.bytes)) = some (some z, 1, bytes)) (hz : z.cells = #[z]) (hby : bytes ≤ 24)
    (hg : o.guard = none) (l c : Operand) (t : TypeId) (hop : o.op = Op.makeSlice t l c) (ht : Tryz.prog.underlying t = some (.slice e))
    (L C : Int) (n : Nat) (hl : a.eval l = .int .i64 L) (hc : a.eval c = .int .i64 C) (hL : L = (n : Int)) (hC : C = (n : Int)) (hn : n ≤ 1099511627776)
    (hK : ∀ w', RowV e w' w.heap.size (.slice (some ⟨w.heap.size, 0, none⟩) n n) (List.replicate n z) → Below w.heap.size w w' → w.heap.size < w'.heap.size → wpList Tryz.prog ops Q rest (a.put o.dst (.slice (some ⟨w.heap.size, 0, none⟩) n n)) w') :
    wpList Tryz.prog ops Q (o :: rest) a w := by
  cases hi : Tryz.prog.info? e with
  | none => rw [hi] at hinfo; cases hinfo
  | some i =>
  rw [hi] at hinfo
  simp only [Option.map_some, Option.some.injEq, Prod.mk.injEq] at hinfo
  have hb : i.bytes * n ≤ 281474976710656 := by
    rw [hinfo.2.2]
    have : bytes * n ≤ 24 * n := Nat.mul_le_mul_right _ hby
    omega
  refine wpList_make_full w hg l c t hop w.heap.size e i _ 1 ht hi hinfo.1 hinfo.2.1 .i64 .i64 L C n hl hc hL hC hb (by unfold maxLen; omega) (Nat.le_refl _) ?_
  intro w1 hown hgrow
  have hrep : (madeCells z.cells (n * 1)).toList = List.replicate n z := by
    rw [Nat.mul_one, hz, toList_madeCells_one]
  rw [hrep] at hown
  refine hK w1 (by unfold RowV; rw [List.length_replicate]; exact hown) ((Below.refl _ _).grown hgrow (Nat.le_refl _) (by simp)) ?_
  rcases hown.2 with ⟨h, _⟩ | ⟨g, _, _, h, _, hg, _⟩
  · simp at h
  · simp only [Value.slice.injEq, Option.some.injEq, Addr.mk.injEq, and_true, true_and] at h
    rw [h.1]
    exact (Array.getElem?_eq_some_iff.1 hg).1
end

def GQ (f1 : FuncId) (M A : C2) (f : FuncId) (_ : Array Value) (u : Value) : Prop := ∃ a b, u = .complex .f32 a b ∧ ((f = f1 ∧ nc (a, b) = M) ∨ (f ≠ f1 ∧ nc (a, b) = A))
/-- The sums so far: those before k are done, that of k holds i products. -/
def sumsF (F G : List C2) (t n k i : Nat) : List C2 := (List.range t).map fun j => if j < k then accF F G j n else if j = k then accF F G k i else (0, 0)
theorem sums_get {F G : List C2} {t n k i : Nat} (h : k < t) : (sumsF F G t n k i).getD k (0, 0) = accF F G k i := by
  simp [sumsF, List.getD, h]
theorem sums_set {F G : List C2} {t n k i : Nat} : (sumsF F G t n k i).set k (accF F G k (i + 1)) = sumsF F G t n k (i + 1) := by
  refine List.ext_getElem (by simp [sumsF]) fun j h1 h2 => ?_
  rw [List.getElem_set]
  simp only [sumsF, List.getElem_map, List.getElem_range]
  by_cases h : k = j
  · subst h; simp
  · rw [if_neg h]
    by_cases hj : j < k
    · rw [if_pos hj, if_pos hj]
    · rw [if_neg hj, if_neg hj, if_neg (fun e => h e.symm), if_neg (fun e => h e.symm)]
theorem sums_next {F G : List C2} {t n k : Nat} : sumsF F G t n k n = sumsF F G t n (k + 1) 0 := by
  refine List.map_congr_left fun j hj => ?_
  by_cases h : j < k
  · rw [if_pos h, if_pos (by omega)]
  · by_cases h2 : j = k
    · subst h2; rw [if_neg h, if_pos rfl, if_pos (by omega)]
    · rw [if_neg h, if_neg h2, if_neg (by omega)]
      split <;> rfl
set_option maxRecDepth 100000 in
set_option maxHeartbeats 4000000 in
theorem mulL_impl (va vb : Value) (fs gs : List C2) (w : World) (hv : RdV w va (cx fs)) (hu : RdV w vb (cx gs)) (h1 : 1 ≤ fs.length) (h2 : fs.length ≤ 17) (h3 : 1 ≤ gs.length) (h4 : gs.length ≤ 17) (Hs : RowKit.Hid (safeProd (fs.map nc) (gs.map nc)))
    (E : List C2) (HE : RowKit.Hid (prodF (fs.map nc) (gs.map nc) = E)) :
    Calls Tryz.prog 29 #[va, vb] w (RetCL E w) := by
  rcases hv.openC with ⟨rfl, _⟩ | ⟨b, off, cap, rfl, hb, hcp, hc⟩
  · simp at h1
  rcases hu.openC with ⟨rfl, _⟩ | ⟨d, doff, dcap, rfl, hd, hdp, hdc⟩
  · simp at h3
  have Hc := Lib.hid (show ∀ i, i < fs.length → w.cell? ⟨b, off + i, none⟩ = some (.complex .f32 (fs.getD i (0, 0)).1 (fs.getD i (0, 0)).2) from fun i hi => by
    rw [hc i hi]; simp [List.getD, hi])
  have Hd := Lib.hid (show ∀ i, i < gs.length → w.cell? ⟨d, doff + i, none⟩ = some (.complex .f32 (gs.getD i (0, 0)).1 (gs.getD i (0, 0)).2) from fun i hi => by
    rw [hdc i hi]; simp [List.getD, hi])
  have HN := Lib.hid (show prodF (fs.map nc) (gs.map nc) = (List.range (fs.length + gs.length - 1)).map (fun k => accF (fs.map nc) (gs.map nc) k fs.length) by unfold prodF; rw [List.length_map, List.length_map])
  have HLg := Lib.hid (show (gs.map nc).length = gs.length from List.length_map ..)
  have HLf := Lib.hid (show (fs.map nc).length = fs.length from List.length_map ..)
  have HGf := Lib.hid (fun i => getD_nc fs i)
  have HGg := Lib.hid (fun i => getD_nc gs i)
  have n0 := nrm0
  clear hc hdc hv hu hcp hdp
  generalize fs.map nc = F at *
  generalize gs.map nc = G at *
  generalize hn : fs.length = n at *
  generalize hm : gs.length = m at *
  have qm : IntKind.i64.wrap ((n : Int) + (m : Int)) = ((n + m : Nat) : Int) := by rw [IntWalk.i64_in _ ⟨by omega, by omega⟩]; omega
  have qm2 : IntKind.i64.wrap (((n + m : Nat) : Int) - 1) = ((n + m - 1 : Nat) : Int) := by rw [IntWalk.i64_in _ ⟨by omega, by omega⟩]; omega
  have qm3 : IntKind.i64.wrap ((n : Int) + (m : Int) - 1) = ((n + m - 1 : Nat) : Int) := by rw [IntWalk.i64_in _ ⟨by omega, by omega⟩]; omega
  generalize ht : n + m - 1 = t at *
  clear hn hm
  go_enter Tryz.func29, Tryz.ntmps29
  go_wp2_with (at_make; go_must (refine wpList_makeV _ (.complex .f32 0 0) 8 infoC rfl (by decide) rfl _ _ _ rfl Tryz.underlying25 (t : Int) (t : Int) t rfl rfl rfl rfl (by omega) ?_); intro w6 hu hq3 hl3)
  have HU := Lib.hid hu.own
  have HB := Lib.hid hq3
  clear hu hq3
  go_loopw [18] (fun iv wr => ∃ (k : Nat) (us : List C2), k ≤ t ∧ iv = .int .i64 (k : Int) ∧ us.length = t ∧ us.map nc = sumsF F G t n k 0 ∧ OwV 32 wr w.heap.size (.slice (some ⟨w.heap.size, 0, none⟩) t t) (cx us) ∧ Below w.heap.size w wr) (fun iv _ => t - (intOf iv).toNat)
  case atStart => exact ⟨0, List.replicate t (0, 0), Nat.zero_le _, rfl, by simp, by
    refine List.ext_getElem (by simp [sumsF]) fun j h1 h2 => ?_
    simp [sumsF, nc0, accF], by have := HU.out; rwa [show List.replicate t (Value.complex .f32 0 0) = cx (List.replicate t (0, 0)) by simp [cx, cxv]] at this, HB.out⟩
  case round =>
    obtain ⟨k, us, hk, rfl, hul, hus, hou, hbel⟩ := hrel
    have hsz := hbel.size
    by_cases hlt : k < t
    · have HUS := Lib.hid hus
      have HUL := Lib.hid hul
      have HOU := Lib.hid hou
      have Hb := Lib.hid hbel
      have j0 : (0 : Int) ≤ (k : Int) := by omega
      have j1 : (k : Int) < (t : Int) := by omega
      clear hus hul hou hbel
      go_wp2_with fail
      go_loopw [23] (fun iv wi => ∃ (i : Nat) (us : List C2), i ≤ n ∧ iv = .int .i64 (i : Int) ∧ us.length = t ∧ us.map nc = sumsF F G t n k i ∧ OwV 32 wi w.heap.size (.slice (some ⟨w.heap.size, 0, none⟩) t t) (cx us) ∧ Below w.heap.size w wi) (fun iv _ => n - (intOf iv).toNat)
      case atStart => exact ⟨0, us, Nat.zero_le _, rfl, HUL.out, HUS.out, HOU.out, Hb.out⟩
      case round =>
        obtain ⟨i, us2, hi, rfl, hul2, hus2, hou2, hb2⟩ := hrel
        have hsz2 := hb2.size
        have HUS2 := Lib.hid hus2
        have HUL2 := Lib.hid hul2
        have HOU2 := Lib.hid hou2
        have HB2 := Lib.hid hb2
        by_cases hin : i < n
        · have c1 : wr.cell? ⟨b, off + i, none⟩ = some (.complex .f32 (fs.getD i (0, 0)).1 (fs.getD i (0, 0)).2) := (hb2.cell (p := ⟨b, off + i, none⟩) hb).trans (Hc.out i hin)
          have k0 : (0 : Int) ≤ (i : Int) := by omega
          have k1 : (i : Int) < (n : Int) := by omega
          have qs1 : IntKind.i64.wrap ((k : Int) - (i : Int)) = (k : Int) - (i : Int) := IntWalk.i64_in _ ⟨by omega, by omega⟩
          by_cases hki : i ≤ k
          · by_cases hkm : k < m + i
            · obtain ⟨l, hl⟩ : ∃ l, k - i = l := ⟨_, rfl⟩
              have el : (k : Int) - (i : Int) = (l : Int) := by omega
              have HAC := Lib.hid (show accF F G k (i + 1) = addC (accF F G k i) (mulC (F.getD i (0, 0)) (G.getD l (0, 0))) by
                show (if i ≤ k ∧ k < G.length + i then _ else _) = _
                rw [if_pos ⟨hki, by rw [HLg.out]; exact hkm⟩, hl])
              have HF2 := Hs.out k i (by rw [HLf.out]; exact hin) hki (by rw [HLg.out]; exact hkm)
              rw [hl, HGf.out, HGg.out] at HF2
              have c2 : wr.cell? ⟨d, doff + l, none⟩ = some (.complex .f32 (gs.getD l (0, 0)).1 (gs.getD l (0, 0)).2) := (hb2.cell (p := ⟨d, doff + l, none⟩) hd).trans (Hd.out l (by omega))
              obtain ⟨c3, f3, g3⟩ := own_cell hou2 (i := k) (by omega)
              have HX3 := Lib.hid (show nc (us2.getD k (0, 0)) = accF F G k i by rw [← getD_nc, hus2, sums_get hlt])
              have Hx := Lib.hid (HGf.out i)
              have Hy := Lib.hid (HGg.out l)
              generalize fs.getD i (0, 0) = x at *
              generalize gs.getD l (0, 0) = y at *
              generalize us2.getD k (0, 0) = s at *
              obtain ⟨x1, x2⟩ := x
              obtain ⟨y1, y2⟩ := y
              obtain ⟨s1, s2⟩ := s
              have Hf := Lib.hid HF2
              have l0 : (0 : Int) ≤ (l : Int) := by omega
              have l1 : (l : Int) < (m : Int) := by omega
              clear HF2 hus2 hou2 hb2 hul2
              rw [el] at qs1
              have g0 : (0 : Int) ≤ (k : Int) - (i : Int) := by omega
              go_wp2_with fail
              refine wp_region_v 16 (GQ 76 (mulC (nc (x1, x2)) (nc (y1, y2))) (accF F G k (i + 1))) (by kernel_rfl) (by kernel_rfl) ?_
              simp only [List.take_succ_cons, List.take_zero, List.drop_succ_cons, List.drop_zero]
              repeat (apply wpV_det; (exact rfl); (intro nq; go_simp; rfl); (intro K hK; go_simp; refine hK.use ?_; clear hK K))
              (apply wpV_call; (exact rfl); (intro nq; go_simp; first | exact ⟨rfl, rfl⟩ | rfl); (intro nq; refine (mul_impl (x1, x2) (y1, y2) Hf _).mono ?_; rintro e w' ⟨a, b, m2, rfl, ha, hb, rfl⟩; exact ⟨_, rfl, ⟨a, b, rfl, .inl ⟨rfl, Prod.ext ha hb⟩⟩, nq + m2, by simp [Nat.add_assoc]⟩); (rintro u ⟨a1, b1, rfl, h⟩); (have hM : nc (a1, b1) = mulC (nc (x1, x2)) (nc (y1, y2)) := by rcases h with ⟨_, h⟩ | ⟨h, _⟩; exact h; exact absurd rfl h); clear h; (intro K hK; go_simp; refine hK.use ?_; clear hK K))
              repeat (apply wpV_det; (exact rfl); (intro nq; go_simp; rfl); (intro K hK; go_simp; refine hK.use ?_; clear hK K))
              (apply wpV_call; (exact rfl); (intro nq; go_simp; first | exact ⟨rfl, rfl⟩ | rfl); (intro nq; refine (plus_impl (s1, s2) (a1, b1) _).mono ?_; rintro e w' ⟨a, b, m2, rfl, ha, hb, rfl⟩; exact ⟨_, rfl, ⟨a, b, rfl, .inr ⟨by decide, by rw [HAC.out, Hx.out, Hy.out, ← hM, ← HX3.out]; exact Prod.ext ha hb⟩⟩, nq + m2, by simp [Nat.add_assoc]⟩); (rintro u ⟨g1, g2, rfl, h⟩); (have hG : nc (g1, g2) = accF F G k (i + 1) := by rcases h with ⟨h, _⟩ | ⟨_, h⟩; exact absurd h (by decide); exact h); clear h; (intro K hK; go_simp; refine hK.use ?_; clear hK K))
              have HG2 := Lib.hid hG
              clear hG hM
              repeat (apply wpV_det; (exact rfl); (intro nq; go_simp; rfl); (intro K hK; go_simp; refine hK.use ?_; clear hK K))
              refine wpV_nil (fun nq => ?_)
              have hou3 := HOU2.out.below (below_drewN (Below.refl _ _) nq)
              obtain ⟨c4, f4, g4⟩ := own_cell hou3 (i := k) (by have := HUL2.out; omega)
              have HOU3 := Lib.hid hou3
              have HB3 := Lib.hid (below_drewN HB2.out nq)
              clear c1 c2 c3 f3 hou3
              go_wp2_with fail
              go_roundw
              case rel => exact ⟨i + 1, us2.set k (g1, g2), by omega, by go_num, by rw [List.length_set, HUL2.out], by rw [map_set_nc, HUS2.out, HG2.out, sums_set], by rw [← cx_set]; exact HOU3.out.set k _, HB3.out.setCell (p := ⟨w.heap.size, k, none⟩) (by simp only; omega) _⟩
              case measure => simp [intOf]; omega
            · have HAC := Lib.hid (show accF F G k (i + 1) = accF F G k i by
                show (if i ≤ k ∧ k < G.length + i then _ else _) = _
                rw [if_neg (by rw [HLg.out]; omega)])
              obtain ⟨l, hl⟩ : ∃ l, k - i = l := ⟨_, rfl⟩
              have el : (k : Int) - (i : Int) = (l : Int) := by omega
              have l0 : (0 : Int) ≤ (l : Int) := by omega
              have l1 : ¬ ((l : Int) < (m : Int)) := by omega
              rw [el] at qs1
              clear hus2 hou2 hb2 hul2
              go_wp2_with fail
              go_roundw
              case rel => exact ⟨i + 1, us2, by omega, by go_num, HUL2.out, by rw [HUS2.out]; unfold sumsF; rw [HAC.out], HOU2.out, HB2.out⟩
              case measure => simp [intOf]; omega
          · have HAC := Lib.hid (show accF F G k (i + 1) = accF F G k i by
              show (if i ≤ k ∧ k < G.length + i then _ else _) = _
              rw [if_neg (by omega)])
            have l0 : ¬ ((0 : Int) ≤ (k : Int) - (i : Int)) := by omega
            have l2 : (k : Int) - (i : Int) < 0 := by omega
            have l3 : ¬ ((i : Int) ≤ (k : Int)) := by omega
            clear hus2 hou2 hb2 hul2
            go_wp2_with fail
            go_roundw
            case rel => exact ⟨i + 1, us2, by omega, by go_num, HUL2.out, by rw [HUS2.out]; unfold sumsF; rw [HAC.out], HOU2.out, HB2.out⟩
            case measure => simp [intOf]; omega
        · obtain rfl : i = n := by omega
          have HU3 := Lib.hid (show us2.map nc = sumsF F G t i (k + 1) 0 by rw [hus2, sums_next])
          clear hus2 hou2 hb2 hul2
          go_wp2_with fail
          go_roundw
          case rel => exact ⟨k + 1, us2, by omega, by go_num, HUL2.out, HU3.out, HOU2.out, HB2.out⟩
          case measure => simp [intOf]; omega
    · obtain rfl : k = t := by omega
      have Hq := Lib.hid (show us.map nc = E by
        rw [hus, ← HE.out, HN.out]
        refine List.map_congr_left fun j hj => ?_
        rw [if_pos (List.mem_range.1 hj)])
      have Hb := Lib.hid hbel
      have Ho := Lib.hid hou
      clear hus hbel hou
      go_wp2_with fail
      go_ret
      exact ⟨_, us, rfl, Hq.out, Ho.out, Hb.out⟩
end Go.Proofs.YtfnhddaofllniaaGreat

/- Every second term of a list, of the program. Conditions: lists of 2 to 17 numbers; the first or the second on. -/
namespace Go.Proofs.YtfnhddaofllniaaGreat
open Go Go.RowKit
set_option linter.unusedSimpArgs false
set_option linter.unusedVariables false

/-- Every second term, from number a on. -/
def evF (F : List C2) (a : Nat) : List C2 := (List.range ((F.length + 1 - a) / 2)).map fun j => F.getD (a + 2 * j) (0, 0)
/-- A list. -/
def RetRd (F : List C2) (w : World) (e : Ending) (w' : World) : Prop := ∃ v qs, e = .returned v ∧ qs.map nc = F ∧ RdV w' v (cx qs) ∧ Below w.heap.size w w'
theorem ev_succ (F : List C2) (a k : Nat) : (List.range (k + 1)).map (fun j => F.getD (a + 2 * j) (0, 0)) = (List.range k).map (fun j => F.getD (a + 2 * j) (0, 0)) ++ [F.getD (a + 2 * k) (0, 0)] := by simp [List.range_succ]
set_option maxRecDepth 100000 in
set_option maxHeartbeats 1000000 in
theorem second_impl (v : Value) (rs : List C2) (a : Nat) (w : World) (hv : RdV w v (cx rs)) (h1 : 2 ≤ rs.length) (h2 : rs.length ≤ 17) (ha : a ≤ 1) (E : List C2) (HE : RowKit.Hid (trimF (evF (rs.map nc) a) = E)) :
    Calls Tryz.prog 28 #[v, .int .i64 (a : Int)] w (RetRd E w) := by
  rcases hv.openC with ⟨rfl, _⟩ | ⟨b, off, cap, rfl, hb, hcp, hc⟩
  · simp at h1
  have Hc := Lib.hid (show ∀ i, i < rs.length → w.cell? ⟨b, off + i, none⟩ = some (.complex .f32 (rs.getD i (0, 0)).1 (rs.getD i (0, 0)).2) from fun i hi => by
    rw [hc i hi]; simp [List.getD, hi])
  have HN := Lib.hid (show evF (rs.map nc) a = (List.range ((rs.length + 1 - a) / 2)).map fun j => (rs.map nc).getD (a + 2 * j) (0, 0) by unfold evF; rw [List.length_map])
  have Hg := Lib.hid (fun i => getD_nc rs i)
  clear hc hv hcp
  generalize hm : (rs.length + 1 - a) / 2 = m at *
  go_enter Tryz.func28, Tryz.ntmps28
  go_wp2
  go_loopw [5, 6] (fun ov iv wr => ∃ (k : Nat) (qs : List C2), k ≤ m ∧ iv = .int .i64 ((a + 2 * k : Nat) : Int) ∧ RowV 32 wr w.heap.size ov (cx qs) ∧ qs.map nc = (List.range k).map (fun j => (rs.map nc).getD (a + 2 * j) (0, 0)) ∧ Below w.heap.size w wr) (fun _ iv _ => rs.length + 2 - (intOf iv).toNat)
  case atStart => exact ⟨0, [], Nat.zero_le _, rfl, row_nil (Nat.le_refl _) _, rfl, by (repeat' (first | (with_reducible exact Below.refl _ _) | (with_reducible assumption) | (with_reducible refine Below.alloc ?_ ?_ _) | (with_reducible refine Below.setCell ?_ ?_ _) | (with_reducible refine Below.drew ?_) | (with_reducible refine Below.via (by assumption) ?_ ?_) | go_size))⟩
  case round =>
    obtain ⟨k, qs, hk, rfl, hrow, hqs, hbel⟩ := hrel
    have hsz := hbel.size
    have hql : qs.length = k := by have := congrArg List.length hqs; simpa using this
    obtain ⟨i, hi⟩ : ∃ i, a + 2 * k = i := ⟨_, rfl⟩
    rw [hi]
    by_cases hlt : i < rs.length
    · have c1 := (hbel.cell (p := ⟨b, off + i, none⟩) hb).trans (Hc.out i hlt)
      have HX := Lib.hid (show (rs.map nc).getD (a + 2 * k) (0, 0) = nc (rs.getD i (0, 0)) by rw [hi, getD_nc])
      generalize rs.getD i (0, 0) = x at *
      obtain ⟨x1, x2⟩ := x
      have Hl := Lib.hid (show (cx qs).length ≤ 1099511627776 by simp; omega)
      have Hqs := Lib.hid hqs
      have Hb := Lib.hid hbel
      have HI := Lib.hid hi
      have j0 : (0 : Int) ≤ (i : Int) := by omega
      have j1 : (i : Int) < (rs.length : Int) := by omega
      have q2 : IntKind.i64.wrap ((i : Int) + 2) = ((a + 2 * (k + 1) : Nat) : Int) := by rw [IntWalk.i64_in _ ⟨by omega, by omega⟩]; omega
      have km : k + 1 ≤ m := by omega
      clear hqs hbel hql hi
      go_wp2_with (at_builtin; go_must (refine wpList_pushV (.complex .f32 0 0) 8 hrow infoC rfl rfl (by decide) rfl _ _ rfl Tryz.underlying25 Hl.out (by omega) rfl rfl rfl rfl rfl rfl ?_); intro v1 w1 hr1 hb1 hg1 ho1)
      go_roundw
      case rel => exact ⟨k + 1, qs ++ [(x1, x2)], km, by first | rfl | (rw [q2]) | go_num, by rw [← cx_push]; exact hr1, by rw [List.map_append, Hqs.out, ev_succ, HX.out]; rfl, Hb.out.trans hb1⟩
      case measure => have := HI.out; simp [intOf]; omega
    · obtain rfl : k = m := by omega
      have j1 : ¬ ((i : Int) < (rs.length : Int)) := by omega
      have Ht := Lib.hid (show trimF (qs.map nc) = E by rw [hqs, ← HN.out]; exact HE.out)
      have Hb := Lib.hid hbel
      have Hrd := Lib.hid hrow
      have Hql := Lib.hid hql
      have hq0 : qs ≠ [] := by intro h; rw [h] at hql; simp at hql; omega
      rcases hrow.rd.openC with ⟨h, _⟩ | ⟨b3, f3, cap3, rfl, hb3, hcp3, _⟩
      · exact absurd h hq0
      have T := Lib.hid (trim_impl b3 f3 cap3 qs wr hrow.rd hq0 (by omega))
      have t1 := trimN_le (qs.map nc) qs.length
      have TK := Lib.hid (show RdV wr (.slice (some ⟨b3, f3, none⟩) (trimN (qs.map nc) qs.length) cap3) (cx (qs.take (trimN (qs.map nc) qs.length))) by
        have := RdV.take (n := trimN (qs.map nc) qs.length) (c := cap3) hrow.rd (by rw [cx_length]; exact t1) (by omega) hcp3.2
        rwa [← cx_takes] at this)
      have TM := Lib.hid (show (qs.take (trimN (qs.map nc) qs.length)).map nc = E by rw [← Ht.out]; exact trimF_map qs)
      generalize trimN (qs.map nc) qs.length = tn at *
      clear hqs hbel hrow hi hql Hrd
      go_wp2_with fail
      refine T.out.mono ?_
      rintro e w' ⟨rfl, rfl⟩
      go_wp2_with fail
      go_ret
      exact ⟨_, _, rfl, TM.out, TK.out, Hb.out⟩
end Go.Proofs.YtfnhddaofllniaaGreat

/- Squared roots, plainly: even and odd terms, their products, the differences. Conditions: none. -/
namespace Go.Proofs.YtfnhddaofllniaaGreat
open Go
set_option linter.unusedSimpArgs false
set_option linter.unusedVariables false

/-- The even terms' product and the odd ones', moved up by one. -/
def eeF (P : List C2) : List C2 := prodF (trimF (evF P 0)) (trimF (evF P 0))
def ooF (P : List C2) : List C2 := (0, 0) :: prodF (trimF (evF P 1)) (trimF (evF P 1))
/-- A term of the squared polynomial. -/
def sqT (P : List C2) (k : Nat) : C2 := if (P.length - 1) % 2 = 1 then scaleC (subC ((eeF P).getD k (0, 0)) ((ooF P).getD k (0, 0))) (nrm .f32 3212836864) else subC ((eeF P).getD k (0, 0)) ((ooF P).getD k (0, 0))
def squareF (P : List C2) : List C2 := (List.range (max (eeF P).length (ooF P).length)).map (sqT P)
theorem square_succ (P : List C2) (k : Nat) : (List.range (k + 1)).map (sqT P) = (List.range k).map (sqT P) ++ [sqT P k] := by simp [List.range_succ]
/-- Nothing is too great. -/
def safeSquare (P : List C2) : Prop := safeProd (trimF (evF P 0)) (trimF (evF P 0)) ∧ safeProd (trimF (evF P 1)) (trimF (evF P 1))
theorem prodF_length (F G : List C2) : (prodF F G).length = F.length + G.length - 1 := by simp [prodF]
theorem evF_length (F : List C2) (a : Nat) : (evF F a).length = (F.length + 1 - a) / 2 := by simp [evF]
end Go.Proofs.YtfnhddaofllniaaGreat

/- Squared roots, plainly: the errors of their terms. Conditions: a polynomial of words whose terms are bounded. -/
namespace Go.Proofs.YtfnhddaofllniaaGreat
open Go
set_option linter.unusedSimpArgs false
set_option linter.unusedVariables false

/-- A step's share of error. -/
def ud : Rat := 1 / 16777000
theorem ud_ok : u1 * (1 + 40 * ud) + p2 (-100) ≤ ud ∧ 0 < ud ∧ ud ≤ 1 / 1048576 ∧ 0 ≤ u1 ∧ e1 ≤ p2 (-100) * p2 (-20) ∧ 0 < p2 (-20) ∧ 0 < p2 (-100) ∧ p2 (-20) ≤ 1 := by decide +kernel
theorem ud_step {E P T Q : Rat} (hE : E ≤ ud * P) (hP : P ≤ 40 * T) (hT : p2 (-20) ≤ T) (hQ : Q ≤ T + E) : E + (u1 * Q + e1) ≤ ud * (P + T) := by
  obtain ⟨a, b, c, d, e, f, g, h⟩ := ud_ok
  generalize u1 = u1 at *
  generalize e1 = e1 at *
  generalize ud = ud at *
  generalize p2 (-20) = p20 at *
  generalize p2 (-100) = p100 at *
  have h1 : E ≤ 40 * ud * T := Rat.le_trans hE (by have := Rat.mul_le_mul_of_nonneg_left hP (Rat.le_of_lt b); grind)
  have h2 : u1 * Q ≤ u1 * ((1 + 40 * ud) * T) := Rat.mul_le_mul_of_nonneg_left (by grind) d
  have h3 : p100 * p20 ≤ p100 * T := Rat.mul_le_mul_of_nonneg_left hT (Rat.le_of_lt g)
  have h4 : (u1 * (1 + 40 * ud) + p100) * T ≤ ud * T := Rat.mul_le_mul_of_nonneg_right a (by grind)
  grind
/-- A number is told up to an error. -/
structure Apx (v : C2) (V : Q2) (P M : Rat) : Prop where
  f : fC v
  e : N (cv v - V) ≤ ud * P
  m : N V ≤ M
  p : P ≤ 40 * M
  l : p2 (-20) ≤ M
  h : M ≤ p2 40
theorem Apx.cvN {v : C2} {V : Q2} {P M : Rat} (h : Apx v V P M) : N (cv v) ≤ M + ud * P ∧ N (cv v) ≤ 2 * M := by
  obtain ⟨a, b, c, d, e, f, g, k⟩ := ud_ok
  have t := N_tri (cv v) V
  have h1 := h.e
  have h2 := h.m
  have h3 := Rat.mul_le_mul_of_nonneg_left h.p (Rat.le_of_lt b)
  have h4 := h.l
  have h5 : ud * (40 * M) ≤ 1 / 1048576 * (40 * M) := Rat.mul_le_mul_of_nonneg_right c (by grind)
  exact ⟨by grind, by grind⟩
theorem Apx.mono {v : C2} {V : Q2} {P M P' M' : Rat} (h : Apx v V P M) (h1 : P ≤ P') (h2 : M ≤ M') (h3 : P' ≤ 40 * M') (h4 : M' ≤ p2 40) : Apx v V P' M' := by
  obtain ⟨a, b, _⟩ := ud_ok
  have := Rat.mul_le_mul_of_nonneg_left h1 (Rat.le_of_lt b)
  exact ⟨h.f, Rat.le_trans h.e this, Rat.le_trans h.m h2, h3, Rat.le_trans h.l h2, h4⟩
theorem e_four {a b c d e r : Rat} (h1 : a ≤ b + c) (h2 : c ≤ d + e) (h3 : b ≤ r) : a ≤ d + e + r := by grind
theorem e_five {a b c r : Rat} (h1 : a ≤ b + c) (h3 : b ≤ r) : a ≤ c + r := by grind
theorem e_two {a b d P Q : Rat} (h1 : a ≤ d * P) (h2 : b ≤ d * Q) : a + b ≤ d * (P + Q) := by grind
theorem e_mul {d P L M : Rat} : d * P * L ≤ d * (P * L) := by grind
theorem p2_41 : p2 40 + p2 40 = p2 41 := p2_two 40
theorem Apx.add {x y : C2} {V W : Q2} {P M Q L : Rat} (hx : Apx x V P M) (hy : Apx y W Q L) (hp : P + Q + (M + L) ≤ 40 * (M + L)) (hb : M + L ≤ p2 40) : Apx (addC x y) (V + W) (P + Q + (M + L)) (M + L) := by
  obtain ⟨c1, c2⟩ := hx.cvN
  obtain ⟨d1, d2⟩ := hy.cvN
  have t := N_add (cv x) (cv y)
  have b1 : N (cv x + cv y) ≤ p2 41 := by rw [← p2_41]; grind
  have nr := addC_near hx.f hy.f (lt_of_p2 b1 (by decide))
  have l1 := hx.l
  have l2 := hy.l
  have f := ud_ok.2.2.2.2.2.1
  refine ⟨nr.1, ?_, Rat.le_trans (N_add V W) (by have := hx.m; have := hy.m; grind), hp, by grind, hb⟩
  have e1' : N (cv (addC x y) - (V + W)) ≤ N (cv x - V) + N (cv y - W) + (u1 * N (cv x + cv y) + e1) := by
    have a1 := N_add (cv (addC x y) - (cv x + cv y)) ((cv x - V) + (cv y - W))
    have a2 := N_add (cv x - V) (cv y - W)
    have a3 : cv (addC x y) - (cv x + cv y) + ((cv x - V) + (cv y - W)) = cv (addC x y) - (V + W) := by refine q2e ?_ ?_ <;> (simp; grind)
    rw [a3] at a1
    have h5 := nr.2
    exact e_four a1 a2 h5
  refine Rat.le_trans e1' (ud_step (P := P + Q) (T := M + L) ?_ (by have := hx.p; have := hy.p; grind) (by grind) ?_)
  · have h8 := hx.e; have h9 := hy.e; exact e_two h8 h9
  · have a1 := N_tri (cv x) V
    have a2 := N_tri (cv y) W
    have := hx.m; have := hy.m; grind
theorem Apx.sub {x y : C2} {V W : Q2} {P M Q L : Rat} (hx : Apx x V P M) (hy : Apx y W Q L) (hp : P + Q + (M + L) ≤ 40 * (M + L)) (hb : M + L ≤ p2 40) : Apx (subC x y) (V - W) (P + Q + (M + L)) (M + L) := by
  obtain ⟨c1, c2⟩ := hx.cvN
  obtain ⟨d1, d2⟩ := hy.cvN
  have t := N_sub (cv x) (cv y)
  have b1 : N (cv x - cv y) ≤ p2 41 := by rw [← p2_41]; grind
  have nr := subC_near hx.f hy.f (lt_of_p2 b1 (by decide))
  have l1 := hx.l
  have l2 := hy.l
  have f := ud_ok.2.2.2.2.2.1
  refine ⟨nr.1, ?_, Rat.le_trans (N_sub V W) (by have := hx.m; have := hy.m; grind), hp, by grind, hb⟩
  have e1' : N (cv (subC x y) - (V - W)) ≤ N (cv x - V) + N (cv y - W) + (u1 * N (cv x - cv y) + e1) := by
    have a1 := N_add (cv (subC x y) - (cv x - cv y)) ((cv x - V) - (cv y - W))
    have a2 := N_sub (cv x - V) (cv y - W)
    have a3 : cv (subC x y) - (cv x - cv y) + ((cv x - V) - (cv y - W)) = cv (subC x y) - (V - W) := by refine q2e ?_ ?_ <;> (simp; grind)
    rw [a3] at a1
    have h5 := nr.2
    exact e_four a1 a2 h5
  refine Rat.le_trans e1' (ud_step (P := P + Q) (T := M + L) ?_ (by have := hx.p; have := hy.p; grind) (by grind) ?_)
  · have h8 := hx.e; have h9 := hy.e; exact e_two h8 h9
  · have a1 := N_tri (cv x) V
    have a2 := N_tri (cv y) W
    have := hx.m; have := hy.m; grind
/-- Times an exact number. -/
theorem Apx.mul {x y : C2} {V : Q2} {P M L : Rat} (hx : Apx x V P M) (hy : fC y) (hL : N (cv y) ≤ L) (hL1 : p2 (-20) ≤ L) (hL2 : L ≤ p2 40) (hl : p2 (-20) ≤ M * L) (hp : P * L + M * L ≤ 40 * (M * L)) (hb : M * L ≤ p2 40) :
    fit2 (timesF x y) ∧ Apx (mulC x y) (V * cv y) (P * L + M * L) (M * L) := by
  obtain ⟨c1, c2⟩ := hx.cvN
  have l1 := hx.l
  have f := ud_ok.2.2.2.2.2.1
  have M0 : 0 ≤ M := by grind
  have L0 : 0 ≤ L := by grind
  have h41 := p2_41
  have e40 : 0 ≤ p2 40 := by decide +kernel
  have b1 : N (cv x) ≤ p2 41 := by rw [← p2_41]; have := hx.h; grind
  have t := N_mul (cv x) (cv y)
  have t2 : N (cv x) * N (cv y) ≤ 2 * (M * L) := by
    have := mul_le c2 hL (N_nonneg _) (by grind : (0:Rat) ≤ 2 * M)
    grind
  have b2 : N (cv x * cv y) ≤ p2 41 := by rw [← p2_41]; grind
  obtain ⟨fit, nr⟩ := mulC_near hx.f hy (lt_of_p2 b1 (by decide)) (lt_of_p2 (Rat.le_trans hL hL2) (by decide)) (lt_of_p2 b2 (by decide))
  have hd : N (cv x * cv y - V * cv y) ≤ ud * (P * L) := by
    have a0 : cv x * cv y - V * cv y = (cv x - V) * cv y := by refine q2e ?_ ?_ <;> (simp; grind)
    rw [a0]
    exact Rat.le_trans (N_mul _ _) (Rat.le_trans (mul_le hx.e hL (N_nonneg _) (Rat.le_trans (N_nonneg _) hx.e)) (e_mul (M := 0)))
  have hm : N (V * cv y) ≤ M * L := Rat.le_trans (N_mul _ _) (mul_le hx.m hL (N_nonneg _) M0)
  refine ⟨fit, nr.1, ?_, hm, hp, hl, hb⟩
  have e1' : N (cv (mulC x y) - V * cv y) ≤ N (cv x * cv y - V * cv y) + (u1 * N (cv x * cv y) + e1) := by
    have a1 := N_add (cv (mulC x y) - cv x * cv y) (cv x * cv y - V * cv y)
    have a3 : cv (mulC x y) - cv x * cv y + (cv x * cv y - V * cv y) = cv (mulC x y) - V * cv y := by refine q2e ?_ ?_ <;> (simp; grind)
    rw [a3] at a1
    have h5 := nr.2
    exact e_five a1 h5
  refine Rat.le_trans e1' (ud_step (P := P * L) (T := M * L) hd (by
    have := Rat.mul_le_mul_of_nonneg_right hx.p L0
    grind) hl ?_)
  have a1 := N_tri (cv x * cv y) (V * cv y)
  grind
theorem ap_exact {x : C2} {M : Rat} (hx : fC x) (h : N (cv x) ≤ M) (h1 : p2 (-20) ≤ M) (h2 : M ≤ p2 40) : Apx x (cv x) 0 M := by
  have f := ud_ok.2.2.2.2.2.1
  refine ⟨hx, ?_, h, by grind, h1, h2⟩
  have : N (cv x - cv x) = 0 := by
    have a0 : cv x - cv x = zero2 := by refine q2e ?_ ?_ <;> (simp [zero2]; grind)
    rw [a0]; decide +kernel
  rw [this]; grind
/-- A factor is -1. -/
theorem scale_neg {x : C2} (hx : fC x) (hb : N (cv x) ≤ p2 60) : fC (scaleC x (nrm .f32 3212836864)) ∧ cv (scaleC x (nrm .f32 3212836864)) = -cv x := by
  have hk : fN .f32 (nrm .f32 3212836864) = true ∧ vN .f32 (nrm .f32 3212836864) = -1 := by decide +kernel
  have one : ∀ a : Nat, fN .f32 a = true → A (vN .f32 a) ≤ p2 60 → fN .f32 (fop .mul .f32 a (nrm .f32 3212836864)) = true ∧ vN .f32 (fop .mul .f32 a (nrm .f32 3212836864)) = -vN .f32 a := by
    intro a ha hb
    have e : vN .f32 a * vN .f32 (nrm .f32 3212836864) = -vN .f32 a := by rw [hk.2]; grind
    have r := fop_mul_res ha hk.1 (by rw [e, A_neg]; exact lt_of_p2 hb (by decide))
    rw [e] at r
    obtain ⟨m, e', h1, h2, h3⟩ := vN_lt .f32 ha
    exact ⟨r.1, r.exactA (by rw [A_neg]; exact h1) h2 h3⟩
  obtain ⟨a1, a2⟩ := one x.1 hx.1 (Rat.le_trans (re_le_N (cv x)) hb)
  obtain ⟨b1, b2⟩ := one x.2 hx.2 (Rat.le_trans (im_le_N (cv x)) hb)
  exact ⟨⟨a1, b1⟩, q2e a2 b2⟩
/-- A term of a product: its value, and the bounds of value and error. -/
def sumQ (g : Nat → Q2) (k : Nat) : Nat → Q2
  | 0 => zero2
  | i + 1 => if i ≤ k then sumQ g k i + g i * g (k - i) else sumQ g k i
def sumM (b : Nat → Rat) (k : Nat) : Nat → Rat
  | 0 => 1 / 1024
  | i + 1 => if i ≤ k then sumM b k i + b i * b (k - i) else sumM b k i
def sumP (b : Nat → Rat) (k : Nat) : Nat → Rat
  | 0 => 0
  | i + 1 => if i ≤ k then sumP b k i + b i * b (k - i) + (sumM b k i + b i * b (k - i)) else sumP b k i
theorem c10 : p2 (-20) ≤ 1 / 1024 ∧ (1:Rat) / 1024 ≤ p2 40 ∧ p2 (-20) ≤ p2 (-10) * p2 (-10) ∧ 0 ≤ p2 (-10) ∧ p2 12 * p2 12 = p2 24 ∧ 1 / 1024 + 16 * p2 24 ≤ p2 40 ∧ 0 ≤ p2 12 ∧ 0 ≤ p2 24 ∧ p2 12 ≤ p2 40 ∧ p2 (-20) ≤ p2 (-10) := by decide +kernel
theorem sum_ok {b : Nat → Rat} (hb : ∀ j, p2 (-10) ≤ b j ∧ b j ≤ p2 12) (k i : Nat) : 1 / 1024 ≤ sumM b k i ∧ sumM b k i ≤ 1 / 1024 + (i : Rat) * p2 24 ∧ 0 ≤ sumP b k i ∧ sumP b k i ≤ ((i : Rat) + 1) * sumM b k i := by
  obtain ⟨_, _, _, z10, z12, _, p12, p24, _⟩ := c10
  induction i with
  | zero => exact ⟨Rat.le_refl, by show (1:Rat) / 1024 ≤ 1 / 1024 + ((0:Nat):Rat) * p2 24; rw [show ((0:Nat):Rat) = 0 from rfl]; grind, Rat.le_refl, by show (0:Rat) ≤ (((0:Nat):Rat) + 1) * (1 / 1024); rw [show ((0:Nat):Rat) = 0 from rfl]; grind⟩
  | succ i ih =>
    obtain ⟨a1, a2, a3, a4⟩ := ih
    have ci : (((i + 1 : Nat) : Rat)) = (i : Rat) + 1 := by rw [Rat.natCast_add]; rfl
    have i0 : (0 : Rat) ≤ (i : Rat) := by exact_mod_cast Nat.zero_le i
    by_cases h : i ≤ k
    · have e1' : sumM b k (i + 1) = sumM b k i + b i * b (k - i) := if_pos h
      have e2' : sumP b k (i + 1) = sumP b k i + b i * b (k - i) + (sumM b k i + b i * b (k - i)) := if_pos h
      obtain ⟨l1, h1⟩ := hb i
      obtain ⟨l2, h2⟩ := hb (k - i)
      have m0 : 0 ≤ b i * b (k - i) := Rat.mul_nonneg (Rat.le_trans z10 l1) (Rat.le_trans z10 l2)
      have m1 : b i * b (k - i) ≤ p2 24 := by rw [← z12]; exact mul_le h1 h2 (Rat.le_trans z10 l2) p12
      have m2 : 0 ≤ (i : Rat) * (b i * b (k - i)) := Rat.mul_nonneg i0 m0
      rw [e1', e2', ci]
      exact ⟨by grind, by grind, by grind, by grind⟩
    · have e1' : sumM b k (i + 1) = sumM b k i := if_neg h
      have e2' : sumP b k (i + 1) = sumP b k i := if_neg h
      rw [e1', e2', ci]
      exact ⟨a1, by grind, a3, by grind⟩
theorem sum_last {g : Nat → Q2} {k l : Nat} (h : ∀ i, l ≤ i → g i = zero2) (m : Nat) (hm : l ≤ m) : sumQ g k m = sumQ g k l := by
  induction m with
  | zero => have : l = 0 := by omega
            subst this; rfl
  | succ m ih =>
    by_cases hl : l = m + 1
    · subst hl; rfl
    · rw [← ih (by omega)]
      show (if m ≤ k then _ else _) = _
      split
      · rw [h m (by omega)]
        refine q2e ?_ ?_ <;> (simp [zero2]; try grind)
      · rfl
theorem sum_over {g : Nat → Q2} {k l : Nat} (h : ∀ i, l ≤ i → g i = zero2) (hk : 2 * l ≤ k + 1) (m : Nat) (hm : m ≤ l) : sumQ g k m = zero2 := by
  induction m with
  | zero => rfl
  | succ m ih =>
    show (if m ≤ k then _ else _) = _
    rw [ih (by omega)]
    split
    · rw [h (k - m) (by omega)]
      refine q2e ?_ ?_ <;> (simp [zero2]; try grind)
    · rfl
theorem z_add (V W : Q2) (h : W = zero2) : V + W = V := by subst h; refine q2e ?_ ?_ <;> (simp [zero2]; try grind)
/-- The terms of a product of a list with itself. -/
theorem acc_ap {F : List C2} {b : Nat → Rat} (hb : ∀ j, p2 (-10) ≤ b j ∧ b j ≤ p2 12) (hf : ∀ j, fC (F.getD j (0, 0)) ∧ N (cv (F.getD j (0, 0))) ≤ b j) (hl : F.length ≤ 16) (k i : Nat) (hi : i ≤ F.length) :
    Apx (accF F F k i) (sumQ (fun j => cv (F.getD j (0, 0))) k i) (sumP b k i) (sumM b k i) := by
  obtain ⟨z1, z2, z3, z10, z12, z16, p12, p24, b40, l10⟩ := c10
  have SM : ∀ i, i ≤ 16 → p2 (-20) ≤ sumM b k i ∧ sumM b k i ≤ p2 40 ∧ sumP b k i ≤ 40 * sumM b k i := by
    intro i hi
    obtain ⟨a1, a2, a3, a4⟩ := sum_ok hb k i
    have i16 : (i : Rat) ≤ 16 := by exact_mod_cast hi
    have j1 := Rat.mul_le_mul_of_nonneg_right i16 p24
    have j2 := Rat.mul_le_mul_of_nonneg_right i16 (show 0 ≤ sumM b k i by grind)
    exact ⟨by grind, by grind, by grind⟩
  have cz0 : cv (0, 0) = zero2 := q2e (by decide +kernel) (by decide +kernel)
  induction i with
  | zero =>
    have h0 := ap_exact (x := (0, 0)) fC0.1 (M := 1 / 1024) (by rw [cz0]; decide +kernel) z1 z2
    rw [cz0] at h0
    exact h0
  | succ i ih =>
    have ih := ih (by omega)
    obtain ⟨s1, s2, s3⟩ := SM (i + 1) (by omega)
    by_cases h : i ≤ k
    · have q1 : sumQ (fun j => cv (F.getD j (0, 0))) k (i + 1) = sumQ (fun j => cv (F.getD j (0, 0))) k i + cv (F.getD i (0, 0)) * cv (F.getD (k - i) (0, 0)) := if_pos h
      have q2 : sumM b k (i + 1) = sumM b k i + b i * b (k - i) := if_pos h
      have q3 : sumP b k (i + 1) = sumP b k i + b i * b (k - i) + (sumM b k i + b i * b (k - i)) := if_pos h
      obtain ⟨l1, h1⟩ := hb i
      obtain ⟨l2, h2⟩ := hb (k - i)
      have m0 : p2 (-20) ≤ b i * b (k - i) := Rat.le_trans z3 (mul_le l1 l2 z10 (Rat.le_trans z10 l1))
      have m1 : b i * b (k - i) ≤ p2 40 := by
        have : b i * b (k - i) ≤ p2 24 := by rw [← z12]; exact mul_le h1 h2 (Rat.le_trans z10 l2) p12
        have : p2 24 ≤ p2 40 := p2_mono (by decide)
        grind
      by_cases hk : k < F.length + i
      · have q4 : accF F F k (i + 1) = addC (accF F F k i) (mulC (F.getD i (0, 0)) (F.getD (k - i) (0, 0))) := if_pos ⟨h, hk⟩
        have ea := ap_exact (hf i).1 (hf i).2 (Rat.le_trans l10 l1) (Rat.le_trans h1 b40)
        have f0 := ud_ok.2.2.2.2.2.1
        have mu := (ea.mul (hf (k - i)).1 (hf (k - i)).2 (Rat.le_trans l10 l2) (Rat.le_trans h2 b40) m0 (by grind) m1).2
        have ad := ih.add mu (by rw [q3, q2] at s3; grind) (by rw [q2] at s2; exact s2)
        rw [q1, q2, q3, q4]
        exact ad.mono (by grind) Rat.le_refl (by rw [q3, q2] at s3; exact s3) (by rw [q2] at s2; exact s2)
      · have q4 : accF F F k (i + 1) = accF F F k i := if_neg (fun hh => hk hh.2)
        have e0 : F.getD (k - i) (0, 0) = (0, 0) := by simp only [List.getD]; rw [List.getElem?_eq_none (by omega)]; rfl
        rw [q4, q1, e0, cz0, z_add _ _ (by refine q2e ?_ ?_ <;> (simp [zero2]; try grind))]
        obtain ⟨a1, a2, a3, a4⟩ := sum_ok hb k i
        have f0 := ud_ok.2.2.2.2.2.1
        exact ih.mono (by rw [q3]; grind) (by rw [q2]; grind) s3 s2
    · have q1 : sumQ (fun j => cv (F.getD j (0, 0))) k (i + 1) = sumQ (fun j => cv (F.getD j (0, 0))) k i := if_neg h
      have q2 : sumM b k (i + 1) = sumM b k i := if_neg h
      have q3 : sumP b k (i + 1) = sumP b k i := if_neg h
      have q4 : accF F F k (i + 1) = accF F F k i := if_neg (fun hh => h hh.1)
      rw [q1, q2, q3, q4]; exact ih
end Go.Proofs.YtfnhddaofllniaaGreat

/- Products of sums and differences of complex numbers. Conditions: none. -/
namespace Go.Proofs.YtfnhddaofllniaaGreat
set_option linter.unusedSimpArgs false
set_option linter.unusedVariables false
open Go

theorem q_split (e x : Q2) : (e + x) * (e - x) = e * e - x * x := q2e (by simp; grind) (by simp; grind)
theorem q_prod (z y : Q2) : z * y * (z * y) = z * z * (y * y) := q2e (by simp; grind) (by simp; grind)
end Go.Proofs.YtfnhddaofllniaaGreat
