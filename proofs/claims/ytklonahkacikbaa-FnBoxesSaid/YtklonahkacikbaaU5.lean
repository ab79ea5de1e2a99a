/- Boxes, workers and times. Conditions: those of the statements. -/
import Derived.Test.YtklonahkacikbaaU4
namespace Go.Proofs.Ytklonahkacikbaa
set_option linter.unusedSimpArgs false
set_option linter.unusedVariables false
open Go Go.RowKit

/-- A box: both ends and the size finite, the size above 0. -/
def boxF (lo hi : C2) : Bool := finC lo && finC hi && finC (subC hi lo) && fcmp .gtr .f32 (subC hi lo).1 (nrm .f32 0) && fcmp .gtr .f32 (subC hi lo).2 (nrm .f32 0)

theorem rd_c3 {w : World} {s : Nat} (hs : s = w.heap.size) (x y z : C2) : RdV (w.alloc (.cells #[.complex .f32 x.1 x.2, .complex .f32 y.1 y.2, .complex .f32 z.1 z.2] 31)) (.slice (some ⟨s, 0, none⟩) 3 3) (cx [x, y, z]) := by
  subst hs
  have hc : ∀ j, (w.alloc (.cells #[.complex .f32 x.1 x.2, .complex .f32 y.1 y.2, .complex .f32 z.1 z.2] 31)).cell? ⟨w.heap.size, j, none⟩ = #[Value.complex .f32 x.1 x.2, .complex .f32 y.1 y.2, .complex .f32 z.1 z.2][j]? := fun j => World.cell?_alloc_new w _ _ j
  refine ⟨_, 3, rfl, ⟨Nat.le_refl _, by decide⟩, .inr ⟨w.heap.size, 0, rfl, fun i hi => ?_⟩⟩
  have h3 : i = 0 ∨ i = 1 ∨ i = 2 := by simp at hi; omega
  rcases h3 with rfl | rfl | rfl
  · exact hc 0
  · exact hc 1
  · exact hc 2

set_option maxRecDepth 100000 in
theorem box_impl (lo hi : C2) (hb : boxF (nc lo) (nc hi) = true) (w : World) : Calls Try.prog 25 #[.complex .f32 lo.1 lo.2, .complex .f32 hi.1 hi.2] w (RB true w) := by
  unfold boxF at hb
  simp only [Bool.and_eq_true] at hb
  obtain ⟨⟨⟨⟨h1, h2⟩, h3⟩, h4⟩, h5⟩ := hb
  have H3 := Lib.hid h3
  have H4 := Lib.hid h4
  have H5 := Lib.hid h5
  have H1 := Lib.hid h1
  have H2 := Lib.hid h2
  clear h1 h2 h3 h4 h5
  go_enter Try.func25, Try.ntmps25
  go_wp2_with fail
  refine (minus_impl hi lo _).mono ?_
  rintro e w' ⟨a, b, m, rfl, ha, hb, rfl⟩
  have Hab := Lib.hid (show nc (a, b) = subC (nc hi) (nc lo) from Prod.ext ha hb)
  have Ha := Lib.hid (show fcmp .gtr .f32 (nrm .f32 a) (nrm .f32 0) = true by rw [ha]; exact H4.out)
  have Hb := Lib.hid (show fcmp .gtr .f32 (nrm .f32 b) (nrm .f32 0) = true by rw [hb]; exact H5.out)
  clear ha hb
  go_wp2_with fail
  (go_at_call 51; ((with_reducible refine (allFinite_impl _ [lo, hi, (a, b)] _ (rd_c3 (w := w.drewN m) (s := w.heap.size) rfl lo hi (a, b)) (by simp)).mono ?_); rintro e w2 ⟨rfl, hb2⟩))
  rw [show allFinC [lo, hi, (a, b)] = true by simp only [allFinC, List.all_cons, List.all_nil, Bool.and_true]; rw [H1.out, H2.out, Hab.out, H3.out]; rfl]
  have BB := Lib.hid (show Below w.heap.size w w2 from ((below_drewN (Below.refl _ _) m).alloc (Nat.le_refl _) _).trans (hb2.mono (by simp)))
  have ha := Ha.out
  have hb := Hb.out
  clear hb2
  go_wp2_with fail
  go_ret
  exact ⟨by simp, BB.out⟩

set_option maxRecDepth 100000 in
theorem box_spec (lo hi : C2) (hb : boxF (nc lo) (nc hi) = true) (w : World) : Calls Try.prog 60 #[.complex .f32 lo.1 lo.2, .complex .f32 hi.1 hi.2] w (RetB true w) := by
  unfold boxF at hb
  simp only [Bool.and_eq_true] at hb
  obtain ⟨⟨⟨⟨h1, h2⟩, h3⟩, h4⟩, h5⟩ := hb
  have H3 := Lib.hid h3
  have H4 := Lib.hid h4
  have H5 := Lib.hid h5
  have H1 := Lib.hid h1
  have H2 := Lib.hid h2
  clear h1 h2 h3 h4 h5
  go_enter Try.func60, Try.ntmps60
  go_wp2_with (with_reducible refine wpList_cadd rfl .sub (.inr rfl) _ _ _ _ rfl _ _ _ _ rfl rfl ?_; intro a b m ha hb)
  have Hab := Lib.hid (show nc (a, b) = subC (nc hi) (nc lo) from Prod.ext ha hb)
  have Ha := Lib.hid (show fcmp .gtr .f32 (nrm .f32 a) (nrm .f32 0) = true by rw [ha]; exact H4.out)
  have Hb := Lib.hid (show fcmp .gtr .f32 (nrm .f32 b) (nrm .f32 0) = true by rw [hb]; exact H5.out)
  clear ha hb
  refine (cfin1_spec lo _).mono ?_
  rw [H1.out]
  rintro e w' ⟨m1, rfl, rfl⟩
  go_wp2_with fail
  refine (cfin1_spec hi _).mono ?_
  rw [H2.out]
  rintro e w' ⟨m2, rfl, rfl⟩
  go_wp2_with fail
  refine (cfin1_spec (a, b) _).mono ?_
  rw [Hab.out, H3.out]
  rintro e w' ⟨m3, rfl, rfl⟩
  have ha := Ha.out
  have hb := Hb.out
  go_wp2_with fail
  go_ret
  exact ⟨_, by simp, rfl⟩

end Go.Proofs.Ytklonahkacikbaa

/- Terms of a list of complex numbers, 0 for one that is missing; of the reference. Conditions: lengths of at most 1000. -/
namespace Go.Proofs.Ytklonahkacikbaa
set_option linter.unusedSimpArgs false
set_option linter.unusedVariables false
open Go Go.RowKit

/-- A number of a list, 0 for one that is missing. -/
def catF (l : List C2) (k : Int) : C2 := if 0 ≤ k then l.getD k.toNat (0, 0) else (0, 0)
theorem catF_neg {l : List C2} {k : Int} (h : k < 0) : catF l k = (0, 0) := by rw [catF, if_neg (by omega)]
theorem catF_over {l : List C2} {k : Int} (h : (l.length : Int) ≤ k) : catF l k = (0, 0) := by
  unfold catF
  split
  · rw [List.getD, List.getElem?_eq_none (by omega)]; rfl
  · rfl
theorem catF_in {l : List C2} {k : Nat} : catF l k = l.getD k (0, 0) := by rw [catF, if_pos (by omega)]; simp
theorem catF_map (l : List C2) (k : Int) : catF (l.map nc) k = nc (catF l k) := by
  unfold catF
  split
  · exact getD_nc l _
  · exact nc0.symm

theorem term_spec (v : Value) (rs : List C2) (k : Int) (w : World) (hv : RdV w v (cx rs)) (hl : rs.length ≤ 1000) (h0 : -1000 ≤ k) (h1 : k ≤ 1000) :
    Calls Try.prog 46 #[v, .int .i64 k] w fun e w' => e = .returned (.complex .f32 (catF rs k).1 (catF rs k).2) ∧ w = w' := by
  by_cases k0 : k < 0
  · obtain ⟨ao, cap, rfl, _⟩ := hv.shape
    rw [cx_length]
    have H := Lib.hid (catF_neg (l := rs) k0)
    clear hv
    go_enter Try.func46, Try.ntmps46
    go_wp2
    go_ret
    rw [H.out]
    exact ⟨rfl, rfl⟩
  · by_cases k1 : (rs.length : Int) ≤ k
    · obtain ⟨ao, cap, rfl, _⟩ := hv.shape
      rw [cx_length]
      have H := Lib.hid (catF_over k1)
      clear hv
      go_enter Try.func46, Try.ntmps46
      go_wp2
      go_ret
      rw [H.out]
      exact ⟨rfl, rfl⟩
    · obtain ⟨n, rfl⟩ := Int.eq_ofNat_of_zero_le (show 0 ≤ k by omega)
      rcases hv.openC with ⟨rfl, _⟩ | ⟨b, off, cap, rfl, hb, hcp, hc⟩
      · exact absurd k1 (by simp)
      · have c1 := hc n (by omega)
        have H := Lib.hid (show catF rs n = rs[n]'(by omega) by rw [catF_in]; simp [List.getD, show n < rs.length by omega])
        clear hc hv
        generalize (rs[n]'(by omega)) = x at *
        obtain ⟨x1, x2⟩ := x
        go_enter Try.func46, Try.ntmps46
        go_wp2
        go_ret
        rw [H.out]
        exact ⟨rfl, rfl⟩

end Go.Proofs.Ytklonahkacikbaa

/- A drawn region whose operation 0 is a pure read that only the tail wants: it is taken first, the others then in the text's order. Conditions: none. -/
namespace Go.Proofs.Ytklonahkacikbaa
set_option linter.unusedSimpArgs false
set_option linter.unusedVariables false
open Go

section
variable {P : Program} {ops : Array Oper} {md : Region.Mode} {C : World → Prop} {G : FuncId → Array Value → Value → Prop}
structure HeadInv0 (md : Region.Mode) (ops : Array Oper) (n : Nat) (listed : Array Bool) : Prop where
  inv : HeadInv md ops n listed
  zero : listed.getD 0 true = true
theorem HeadInv0.set {n i : Nat} {listed : Array Bool} (h : HeadInv0 md ops n listed) (hi : i ∈ Region.ready md ops listed) (hin : i < n) : HeadInv0 md ops n (listed.setIfInBounds i true) := by
  refine ⟨h.inv.set hi hin, ?_⟩
  by_cases h0 : i = 0
  · subst h0
    rcases Nat.lt_or_ge 0 listed.size with h' | h'
    · simp [h']
    · simp [Array.getElem?_eq_none h']
  · rw [getD_set_ne true h0]; exact h.zero
def sink0 (md : Region.Mode) (ops : Array Oper) (n : Nat) : Bool :=
  (List.range n).all fun i => i == 0 || (List.range (n + 1)).any fun j => decide (i < j) && Region.waitsFor md ops j i
theorem tail_waits0 {n : Nat} {listed : Array Bool} (hs : sink0 md ops n = true) (hc : Region.chainB md ops n = true) (hn : n < ops.size) (inv0 : HeadInv0 md ops n listed) :
    ∀ (d i : Nat), n - i = d → i < n → listed.getD i true = false → ∀ t, n ≤ t → t ∉ Region.ready md ops listed := by
  have inv := inv0.inv
  intro d
  induction d using Nat.strongRecOn with
  | _ d ih =>
    intro i hd hi hun t ht hr
    obtain ⟨_, ot, hot, hall⟩ := mem_ready.1 hr
    have htlt : t < ops.size := (Array.getElem?_eq_some_iff.1 hot).1
    have hi0 : i ≠ 0 := by
      rintro rfl
      rw [inv0.zero] at hun
      cases hun
    by_cases htn : t = n
    · subst htn
      have h1 := List.all_eq_true.1 hs i (List.mem_range.2 hi)
      simp only [Bool.or_eq_true, beq_iff_eq, hi0, false_or] at h1
      obtain ⟨j, hj, hj2⟩ := List.any_eq_true.1 h1
      simp only [Bool.and_eq_true, decide_eq_true_eq] at hj2
      obtain ⟨oj, hoj, e, he, hb, hon⟩ := Region.waitsFor_spec hj2.2
      have hjle : j ≤ t := by have := List.mem_range.1 hj; omega
      by_cases hjt : j = t
      · subst hjt
        have : oj = ot := Option.some.inj (hoj.symm.trans hot)
        subst this
        have h2 := hall e he hb
        rw [hon, getD_both hun] at h2
        cases h2
      · cases hl : listed.getD j false with
        | true =>
          have h2 := inv.closed j oj hoj hl e he hb
          rw [hon, getD_both hun] at h2
          cases h2
        | false =>
          have hjs : j < listed.size := by rw [inv.size]; omega
          exact ih (t - j) (by omega) j rfl (by omega) (getD_in hjs hl) t (Nat.le_refl _) hr
    · have h1 := List.all_eq_true.1 hc t (List.mem_range.2 htlt)
      simp only [Bool.or_eq_true, decide_eq_true_eq] at h1
      rcases h1 with h1 | h1
      · omega
      · obtain ⟨o', ho', e, he, hb, hon⟩ := Region.waitsFor_spec h1
        have : o' = ot := Option.some.inj (ho'.symm.trans hot)
        subst this
        have h2 := hall e he hb
        rw [hon, getD_both (inv.tail (t - 1) (by omega) (by omega))] at h2
        cases h2

/-- An operation that may come up now may be taken first. -/
theorem wpAnyV_first0 {n i : Nat} {oi : Oper} {L : Array Bool → Act → Prop} (hi : ops[i]? = some oi) (hsel : ∀ (j : Nat) (o : Oper) cs b, ops[j]? = some o → o.op ≠ .select cs b) {w : World} (hw : C w) (hin : i < n)
    (hwait : ∀ listed, HeadInv0 md ops n listed → ∀ i, i < n → listed.getD i true = false → ∀ t, n ≤ t → t ∉ Region.ready md ops listed)
    (hdone : ∀ listed a, L listed a → ∀ j ∈ Region.ready md ops listed, n ≤ j) :
    ∀ (f : Nat) (listed : Array Bool) (a : Act), HeadInv0 md ops n listed →
      (∀ j oj, ops[j]? = some oj → j ≠ i → listed.getD j true = false → (∀ e ∈ oj.after, Region.binds md e = true → e.on ≠ i) → oi.apart ops oj = true) →
      i ∈ Region.ready md ops listed →
      vOne P ops C G oi (wpAnyV P md ops C G n L f (listed.setIfInBounds i true)) a → wpAnyV P md ops C G n L (f + 1) listed a := by
  have some_of : ∀ {K : Act → Prop} {a : Act}, vOne P ops C G oi K a → ∃ v, K (a.put oi.dst v) := by
    intro K a h
    cases hwi : Region.wanted oi (yielded ops a.tmps) with
    | true =>
      obtain ⟨g, ho⟩ := h.1 hwi
      obtain ⟨v, hv⟩ := g.outs hw
      exact ⟨v, ho v hv⟩
    | false => exact ⟨undef, h.2 hwi⟩
  intro f
  induction f with
  | zero =>
    intro listed a inv _ hr H
    have hun := (mem_ready.1 hr).1
    refine ⟨fun h => (by rw [h] at hr; cases hr), fun j hj => ?_⟩
    have hjn : j < n := by
      rcases Nat.lt_or_ge j n with h | h
      · exact h
      · exact absurd hj (hwait _ inv i hin hun j h)
    refine ⟨hjn, ?_⟩
    by_cases hji : j = i
    · subst hji; unfold vOp; simp only [hi]; exact H
    · obtain ⟨v, hv⟩ := some_of H
      have := hdone _ _ hv j (ready_mono hj hji)
      omega
  | succ f ih =>
    intro listed a inv hfree hr H
    have hun := (mem_ready.1 hr).1
    refine ⟨fun h => (by rw [h] at hr; cases hr), fun j hj => ?_⟩
    have hjn : j < n := by
      rcases Nat.lt_or_ge j n with h | h
      · exact h
      · exact absurd hj (hwait _ inv i hin hun j h)
    refine ⟨hjn, ?_⟩
    by_cases hji : j = i
    · subst hji; unfold vOp; simp only [hi]; exact H
    · obtain ⟨hjun, oj, hoj, hall⟩ := mem_ready.1 hj
      have hnot : ∀ e ∈ oj.after, Region.binds md e = true → e.on ≠ i := fun e he hb heq => by
        have h1 := hall e he hb
        rw [heq, getD_both hun] at h1
        cases h1
      have h1 : vOne P ops C G oi (vOne P ops C G oj (wpAnyV P md ops C G n L f ((listed.setIfInBounds i true).setIfInBounds j true))) a :=
        vOne_mono (fun a' h' => by
          have := (h'.2 j (ready_mono hj hji)).2
          unfold vOp at this
          simpa only [hoj] using this) H
      have h2 := vOne_swap (hfree j oj hoj hji hjun hnot) (fun cs b => hsel i oi cs b hi) (fun cs b => hsel j oj cs b hoj) hw h1
      have hfree' : ∀ k ok, ops[k]? = some ok → k ≠ i → (listed.setIfInBounds j true).getD k true = false →
          (∀ e ∈ ok.after, Region.binds md e = true → e.on ≠ i) → oi.apart ops ok = true := fun k ok hk hki hun' hno => by
        refine hfree k ok hk hki ?_ hno
        by_cases hjk : j = k
        · subst hjk; exact hjun
        · rw [getD_set_ne true hjk] at hun'; exact hun'
      unfold vOp
      simp only [hoj]
      refine vOne_mono (fun a' h3 => ih (listed.setIfInBounds j true) a' (inv.set hj hjn) hfree' (ready_mono hr (Ne.symm hji)) ?_) h2
      rw [Array.setIfInBounds_comm _ _ hji]
      exact h3

theorem wpAnyV_lex0 {n g : Nat} {Lq : Act → Prop} (hsel : Region.noSelect ops = true) {w : World} (hw : C w)
    (hwait : ∀ listed, HeadInv0 md ops n listed → ∀ i, i < n → listed.getD i true = false → ∀ t, n ≤ t → t ∉ Region.ready md ops listed) :
    ∀ (l : List Oper) (k : Nat) (listed : Array Bool) (a : Act), (∀ j, j < l.length → l[j]? = ops[k + j]?) → k + l.length = n → HeadInv0 md ops n listed →
    Region.lexHead md ops g l.length k listed = true → wpV P ops C G Lq l a →
    wpAnyV P md ops C G n (fun listed' a' => Region.seqB md ops g n listed' = true ∧ Lq a') l.length listed a
  | [], k, listed, a, _, hk, _, hB, h => by
    have : k = n := by simpa using hk
    subst this
    exact ⟨by simpa [Region.lexHead] using hB, h⟩
  | o :: l, k, listed, a, hl, hk, inv, hB, h => by
    have h0 : ops[k]? = some o := by simpa using (hl 0 (by simp)).symm
    simp only [List.length_cons, Region.lexHead, Bool.and_eq_true] at hB
    obtain ⟨⟨hr, hf⟩, hB'⟩ := hB
    have hkn : k < n := by simp only [List.length_cons] at hk; omega
    have hr' : k ∈ Region.ready md ops listed := by simpa using hr
    exact wpAnyV_first0 h0 (Region.noSelect_spec hsel) hw hkn hwait (fun listed' a' hL => seqB_ready hL.1) l.length listed a inv (Region.free_spec h0 hf) hr'
      (vOne_mono (fun a' h' => wpAnyV_lex0 hsel hw hwait l (k + 1) _ a' (fun j hj => by have := hl (j + 1) (by simp; omega); simpa [Nat.add_assoc, Nat.add_comm 1 j] using this) (by simp only [List.length_cons] at hk; omega) (inv.set hr' hkn) hB' h') h)


def lexV0 (md : Region.Mode) (ops : Array Oper) (n : Nat) : Bool :=
  Region.noSelect ops && decide (1 ≤ n) && decide (n < ops.size) && sink0 md ops n && Region.chainB md ops n && (Region.ready md ops (Array.replicate ops.size false)).contains 0 && Region.free md ops (Array.replicate ops.size false) 0 &&
    Region.lexHead md ops (ops.size - n) (n - 1) 1 ((Array.replicate ops.size false).setIfInBounds 0 true)

theorem wp_region_v0 {id : Nat} {Q : Exit → Act → World → Prop} {a : Act} {w : World} {l : List Oper} (n : Nat) (G : FuncId → Array Value → Value → Prop) (o0 : Oper) (v : Value) (hm : P.follows .mixedOrders = true) (h0 : l.toArray[0]? = some o0) (hB : lexV0 .any l.toArray n = true)
    (hQ : ∀ c a w, Q (.panic c) (a.put o0.dst v) w → Q (.panic c) a w) (hy : Yields P l.toArray o0 v a)
    (h : wpV P l.toArray (fun w' => ∃ m, w' = w.drewN m) G (fun a' => ∀ m, wpList P l.toArray Q (l.drop n) a' (w.drewN m)) ((l.drop 1).take (n - 1)) (a.put o0.dst v)) : (Code.region id l.toArray true).wp P Q a w := by
  simp only [lexV0, Bool.and_eq_true, decide_eq_true_eq] at hB
  obtain ⟨⟨⟨⟨⟨⟨⟨hsel, hn1⟩, hn⟩, hs⟩, hc⟩, hr0⟩, hf0⟩, hlex⟩ := hB
  have hnl : n < l.length := by simpa using hn
  have hwait : ∀ listed, HeadInv0 .any l.toArray n listed → ∀ i, i < n → listed.getD i true = false → ∀ t, n ≤ t → t ∉ Region.ready .any l.toArray listed :=
    fun listed inv i hi hun t ht => tail_waits0 hs hc hn inv _ i rfl hi hun t ht
  have htl : ((l.drop 1).take (n - 1)).length = n - 1 := by simp; omega
  have hdl : (l.drop n).length = l.toArray.size - n := by simp
  have inv0 : HeadInv .any l.toArray n (Array.replicate l.toArray.size false) :=
    ⟨by simp, fun j oj _ hl => (by rw [getD_replicate_false] at hl; cases hl), fun t _ ht => getD_in (by simpa using ht) (getD_replicate_false _ _)⟩
  have hr0' : 0 ∈ Region.ready .any l.toArray (Array.replicate l.toArray.size false) := by simpa using hr0
  have inv1 : HeadInv0 .any l.toArray n ((Array.replicate l.toArray.size false).setIfInBounds 0 true) :=
    ⟨inv0.set hr0' (by omega), by
      have : 0 < l.toArray.size := by simp; omega
      simp [this]⟩
  have hC : (fun w' : World => ∃ m, w' = w.drewN m) { w with drawn := w.drawn + 1 } := ⟨1, rfl⟩
  have H := wpAnyV_lex0 (md := .any) (g := l.toArray.size - n) hsel hC hwait ((l.drop 1).take (n - 1)) 1 _ _ (fun j hj => by
    rw [htl] at hj
    rw [List.getElem?_take, if_pos hj, List.getElem?_drop]
    simp) (by rw [htl]; omega) inv1 (by rw [htl]; exact hlex) h
  refine wp_region_any hm ?_
  have H2 := wpAny_of_v (Q' := Q) (g := l.toArray.size - n) (fun listed a' w' hw' hL => by
    obtain ⟨m, rfl⟩ := hw'
    have := wpAny_of_seq (md := .any) (Q' := Q) (l.drop n) n listed a' (w.drewN m) (fun j => by simp [List.getElem?_drop]) (by rw [hdl]; exact hL.1) (hL.2 m)
    rwa [hdl] at this) _ _ _ _ hC H
  rw [htl] at H2
  have key := wpAny_take h0 hsel hf0 hr0 hQ hy H2
  have e : n - 1 + (l.toArray.size - n) + 1 = l.toArray.size := by simp; omega
  rw [e] at key
  exact key

end
end Go.Proofs.Ytklonahkacikbaa

/- The terms of a polynomial of roots, of the reference. Conditions: at most 6 roots; what is narrowed fits float32. -/
namespace Go.Proofs.Ytklonahkacikbaa
set_option linter.unusedSimpArgs false
set_option linter.unusedVariables false
open Go Go.RowKit

def rootG (r : C2) (c : List C2) (k : Nat) : C2 := subC (catF c ((k : Int) - 1)) (mulC r (catF c k))
def rootsL (L : List C2) : Nat → List C2
  | 0 => [nc (1065353216, 0)]
  | i + 1 => (List.range ((rootsL L i).length + 1)).map (rootG (L.getD i (0, 0)) (rootsL L i))
theorem rootsL_length (L : List C2) (i : Nat) : (rootsL L i).length = i + 1 := by
  induction i with
  | zero => rfl
  | succ i ih => simp [rootsL, ih]
theorem rootsL_succ (L : List C2) (i : Nat) : rootsL L (i + 1) = (List.range ((rootsL L i).length + 1)).map (rootG (L.getD i (0, 0)) (rootsL L i)) := rfl
def safeRoots (L : List C2) : Prop := ∀ i, i < L.length → ∀ k, k < i + 2 → fit2 (timesF (L.getD i (0, 0)) (catF (rootsL L i) k))
theorem range_map_succ (g : Nat → C2) (k : Nat) : (List.range (k + 1)).map g = (List.range k).map g ++ [g k] := by simp [List.range_succ]

/-- The calls of the region: terms, and the product. -/
def GR (cs : List C2) (cv : Value) (M : C2) (f : FuncId) (args : Array Value) (u : Value) : Prop :=
  (f = 46 ∧ ∃ kk : Int, args = #[cv, .int .i64 kk] ∧ u = .complex .f32 (catF cs kk).1 (catF cs kk).2) ∨ (f = 47 ∧ ∃ a b, u = .complex .f32 a b ∧ nc (a, b) = M)

set_option maxRecDepth 100000 in
set_option maxHeartbeats 2000000 in
theorem rooted_terms (v : Value) (ls : List C2) (w : World) (hv : RdV w v (cx ls)) (h1 : 1 ≤ ls.length) (h2 : ls.length ≤ 6) (Hs : RowKit.Hid (safeRoots (ls.map nc))) :
    Calls Try.prog 21 #[v] w fun e w' => ∃ v' qs, e = .returned v' ∧ qs.map nc = rootsL (ls.map nc) ls.length ∧ RdV w' v' (cx qs) ∧ Below w.heap.size w w' := by
  rcases hv.openC with ⟨rfl, _⟩ | ⟨b, off, cap, rfl, hb, hcp, hc⟩
  · simp at h1
  have Hc := Lib.hid (show ∀ i, i < ls.length → w.cell? ⟨b, off + i, none⟩ = some (.complex .f32 (ls.getD i (0, 0)).1 (ls.getD i (0, 0)).2) from fun i hi => by
    rw [hc i hi]; simp [List.getD, hi])
  have Hg := Lib.hid (fun i => getD_nc ls i)
  have HL := Lib.hid (show (ls.map nc).length = ls.length from List.length_map ..)
  clear hc hv hcp
  generalize ls.map nc = L at *
  generalize ls.length = N at *
  go_enter Try.func21, Try.ntmps21
  go_wp2
  go_loopw [3, 4] (fun cv iv wr => ∃ (i : Nat) (cs : List C2), i ≤ N ∧ iv = .int .i64 i ∧ RdV wr cv (cx cs) ∧ cs.map nc = rootsL L i ∧ Below w.heap.size w wr) (fun _ iv _ => N - (intOf iv).toNat)
  case atStart => exact ⟨0, [(1065353216, 0)], Nat.zero_le _, rfl, rd_c1 rfl (1065353216, 0), rfl, (Below.refl _ _).alloc (Nat.le_refl _) _⟩
  case round =>
    obtain ⟨i, cs, hi, rfl, hcs, hmap, hbel⟩ := hrel
    have hsz := hbel.size
    have hcl : cs.length = i + 1 := by have := congrArg List.length hmap; simpa [rootsL_length] using this
    by_cases hlt : i < N
    · have c1 := (hbel.cell (p := ⟨b, off + i, none⟩) hb).trans (Hc.out i hlt)
      have HR := Lib.hid (show L.getD i (0, 0) = nc (ls.getD i (0, 0)) from Hg.out i)
      have HF := Lib.hid (Hs.out i (by rw [HL.out]; exact hlt))
      generalize ls.getD i (0, 0) = r at *
      obtain ⟨r1, r2⟩ := r
      obtain ⟨ao, cap2, rfl, _⟩ := hcs.shape
      rw [cx_length, hcl] at hcs ⊢
      have Hcs := Lib.hid hcs
      have Hmap := Lib.hid hmap
      have Hbel := Lib.hid hbel
      have Hcl := Lib.hid hcl
      clear hcs hmap hbel hcl
      have j0 : (0 : Int) ≤ (i : Int) := by omega
      have j1 : (i : Int) < (N : Int) := by omega
      go_wp2
      go_loopw [5, 6] (fun nv kv wi => ∃ (k : Nat) (ts : List C2), k ≤ i + 2 ∧ kv = .int .i64 k ∧ RowV 31 wi wr.heap.size nv (cx ts) ∧ ts.map nc = (List.range k).map (rootG (nc (r1, r2)) (rootsL L i)) ∧ Below wr.heap.size wr wi) (fun _ kv _ => i + 2 - (intOf kv).toNat)
      case atStart => exact ⟨0, [], Nat.zero_le _, rfl, row_nil (Nat.le_refl _) _, rfl, (Below.refl _ _).alloc (Nat.le_refl _) _⟩
      case round =>
        obtain ⟨k, ts, hk, rfl, hrow, hts, hbel2⟩ := hrel
        have hsz2 := hbel2.size
        have htl : ts.length = k := by have := congrArg List.length hts; simpa using this
        have hcl := Hcl.out
        by_cases hk2 : k < i + 2
        · have TS1 := Lib.hid (fun n => term_spec (.slice ao (i + 1) cap2) cs ((k : Int) - 1) (wr.drewN n) (Hcs.out.below (below_drewN hbel2 n)) (by omega) (by omega) (by omega))
          have TS2 := Lib.hid (fun n => term_spec (.slice ao (i + 1) cap2) cs (k : Int) (wr.drewN n) (Hcs.out.below (below_drewN hbel2 n)) (by omega) (by omega) (by omega))
          have c2 := (hbel2.cell (p := ⟨b, off + i, none⟩) (by simp only; omega)).trans c1
          have Hf := Lib.hid (show fit2 (timesF (nc (r1, r2)) (nc (catF cs k))) by
            have := HF.out k hk2
            rw [HR.out, ← Hmap.out, catF_map] at this
            exact this)
          have HG := Lib.hid (show rootG (nc (r1, r2)) (rootsL L i) k = subC (nc (catF cs ((k : Int) - 1))) (mulC (nc (r1, r2)) (nc (catF cs k))) by
            unfold rootG; rw [← Hmap.out, catF_map, catF_map])
          have q1 : IntKind.i64.wrap ((k : Int) - 1) = (k : Int) - 1 := IntWalk.i64_in _ ⟨by omega, by omega⟩
          have Hl := Lib.hid (show (cx ts).length ≤ 1099511627776 by simp; omega)
          have j2 : (0 : Int) ≤ (k : Int) := by omega
          have j3 : (k : Int) ≤ (i : Int) + 1 := by omega
          have Hts := Lib.hid hts
          have Hbel2 := Lib.hid hbel2
          clear hts hbel2 htl hcl
          go_wp2
          refine wp_region_v0 14 (GR cs (.slice ao (i + 1) cap2) (mulC (nc (r1, r2)) (nc (catF cs k)))) _ _ (by kernel_rfl) rfl (by kernel_rfl) (fun _ _ _ h => h) (Or.inl ⟨by rfl, fun w => by go_simp; try rfl⟩) ?_
          simp only [List.take_succ_cons, List.take_zero, List.drop_succ_cons, List.drop_zero]
          go_simp
          repeat (apply wpV_det; (exact rfl); (intro nq; go_simp; rfl); (intro K hK; go_simp; refine hK.use ?_; clear hK K))
          (apply wpV_call; (exact rfl); (intro nq; go_simp; first | exact ⟨rfl, rfl⟩ | rfl); (intro nq; refine (TS1.out _).mono ?_; rintro e w' ⟨rfl, rfl⟩; exact ⟨_, rfl, .inl ⟨rfl, _, rfl, rfl⟩, nq, rfl⟩); (rintro u h); (obtain rfl : u = Value.complex .f32 (catF cs ((k : Int) - 1)).1 (catF cs ((k : Int) - 1)).2 := by rcases h with ⟨_, kk, ha, hu⟩ | ⟨h, _⟩; (simp only [Array.mk.injEq, List.cons.injEq, Value.int.injEq, true_and, and_true] at ha; rw [hu, ← ha]); exact absurd h (by decide)); clear h; (intro K hK; go_simp; refine hK.use ?_; clear hK K))
          repeat (apply wpV_det; (exact rfl); (intro nq; go_simp; rfl); (intro K hK; go_simp; refine hK.use ?_; clear hK K))
          (apply wpV_call; (exact rfl); (intro nq; go_simp; first | exact ⟨rfl, rfl⟩ | rfl); (intro nq; refine (TS2.out _).mono ?_; rintro e w' ⟨rfl, rfl⟩; exact ⟨_, rfl, .inl ⟨rfl, _, rfl, rfl⟩, nq, rfl⟩); (rintro u h); (obtain rfl : u = Value.complex .f32 (catF cs (k : Int)).1 (catF cs (k : Int)).2 := by rcases h with ⟨_, kk, ha, hu⟩ | ⟨h, _⟩; (simp only [Array.mk.injEq, List.cons.injEq, Value.int.injEq, true_and, and_true] at ha; rw [hu, ← ha]); exact absurd h (by decide)); clear h; (intro K hK; go_simp; refine hK.use ?_; clear hK K))
          repeat (apply wpV_det; (exact rfl); (intro nq; go_simp; rfl); (intro K hK; go_simp; refine hK.use ?_; clear hK K))
          (apply wpV_call; (exact rfl); (intro nq; go_simp; exact ⟨rfl, rfl⟩); (intro nq; refine (mul_spec (r1, r2) (catF cs k) Hf _).mono ?_; rintro e w' ⟨a, b, mm, rfl, ha, hb, rfl⟩; exact ⟨_, rfl, .inr ⟨rfl, a, b, rfl, Prod.ext ha hb⟩, nq + mm, by simp [Nat.add_assoc]⟩); (rintro u h); (obtain ⟨a1, b1, rfl, hM⟩ : ∃ a b, u = Value.complex .f32 a b ∧ nc (a, b) = mulC (nc (r1, r2)) (nc (catF cs k)) := by rcases h with ⟨h, _⟩ | ⟨_, h⟩; exact absurd h (by decide); exact h); clear h; (intro K hK; go_simp; refine hK.use ?_; clear hK K))
          repeat (apply wpV_det; (exact rfl); (intro nq; go_simp; rfl); (intro K hK; go_simp; refine hK.use ?_; clear hK K))
          (refine wpV_cadd .sub (.inr rfl) _ _ _ _ rfl _ _ _ _ rfl rfl rfl ?_; intro g1 g2 hg1 hg2; (intro K hK; go_simp; refine hK.use ?_; clear hK K))
          have He := Lib.hid (show nc (g1, g2) = rootG (nc (r1, r2)) (rootsL L i) k by rw [HG.out, ← hM]; exact Prod.ext hg1 hg2)
          clear hg1 hg2 hM
          repeat (apply wpV_det; (exact rfl); (intro nq; go_simp; rfl); (intro K hK; go_simp; refine hK.use ?_; clear hK K))
          refine wpV_nil (fun nq => ?_)
          go_wp2_with (at_builtin; go_must (refine wpList_pushV (.complex .f32 0 0) 8 hrow infoC rfl rfl (by decide) rfl _ _ rfl Try.underlying25 Hl.out (by omega) rfl rfl rfl rfl rfl rfl ?_); intro v1 w1 hr1 hb1 hg1 ho1)
          go_roundw
          case rel => exact ⟨k + 1, ts ++ [(g1, g2)], by omega, by go_num, by rw [← cx_push]; exact hr1, by rw [List.map_append, Hts.out, range_map_succ, List.map_cons, List.map_nil, He.out], Hbel2.out.trans hb1⟩
          case measure => simp [intOf]; omega
        · obtain rfl : k = i + 2 := by omega
          have Hnext := Lib.hid (show ts.map nc = rootsL L (i + 1) by rw [hts, rootsL_succ, HR.out, rootsL_length])
          have Hrd := Lib.hid hrow.rd
          obtain ⟨ao3, cap3, rfl, _⟩ := hrow.rd.shape
          have Hb := Lib.hid (Hbel.out.trans (hbel2.mono hsz))
          clear hts hrow hbel2
          go_wp2
          go_roundw
          case rel => exact ⟨i + 1, ts, by omega, by go_num, Hrd.out, Hnext.out, Hb.out⟩
          case measure => simp [intOf]; omega
    · obtain rfl : i = N := by omega
      go_wp2
      go_ret
      exact ⟨_, cs, rfl, hmap, hcs, hbel⟩

end Go.Proofs.Ytklonahkacikbaa

/- The polynomial of roots, of the reference. Conditions: 1 to 6 finite roots; what is narrowed fits float32. -/
namespace Go.Proofs.Ytklonahkacikbaa
set_option linter.unusedSimpArgs false
set_option linter.unusedVariables false
open Go Go.RowKit

set_option maxRecDepth 100000 in
set_option maxHeartbeats 1000000 in
theorem polyOfRoots_spec (v : Value) (ls : List C2) (w : World) (hv : RdV w v (cx ls)) (h1 : 1 ≤ ls.length) (h2 : ls.length ≤ 6) (hlf : allFinC ls = true) (Hs : RowKit.Hid (safeRoots (ls.map nc))) :
    Calls Try.prog 7 #[v] w (RetP (polyF (rootsL (ls.map nc) ls.length)) w.heap.size w) := by
  obtain ⟨ao, cap, rfl, _⟩ := hv.shape
  rw [cx_length] at hv ⊢
  have Hv := Lib.hid hv
  have F := Lib.hid (fun w1 hv => cfinite_spec (.slice ao ls.length cap) ls w1 hv (by omega))
  rw [hlf] at F
  have R := Lib.hid (fun w1 hv => rooted_terms (.slice ao ls.length cap) ls w1 hv h1 h2 Hs)
  have hlen := rootsL_length (ls.map nc) ls.length
  have j1 : (ls.length : Int) < 17 := by omega
  have Hlen := Lib.hid hlen
  have Xr := Lib.hid (World.cell?_alloc_new w #[.slice none 0 0] 28 0 : (w.alloc (.cells #[.slice none 0 0] 28)).cell? ⟨w.heap.size, 0, none⟩ = some (.slice none 0 0))
  have Fr := Lib.hid (show (w.alloc (.cells #[.slice none 0 0] 28)).frozen? ⟨w.heap.size, 0, none⟩ = false by go_simp)
  clear hv hlf Hs hlen
  have h6 := h2
  clear h1
  go_enter Try.func7, Try.ntmps7
  go_wp2_with fail
  refine (F.out _ (Hv.out.alloc _)).mono ?_
  rintro e w1 ⟨m, rfl, rfl⟩
  go_wp2_with fail
  have Hv2 := Lib.hid (show RdV ((w.alloc (.cells #[.slice none 0 0] 28)).drewN m) (.slice ao ls.length cap) (cx ls) from Hv.out.alloc _)
  refine (R.out _ Hv2.out).mono ?_
  rintro e w2 ⟨v2, qs, rfl, hqs, hrd, hb2⟩
  have xr : w2.cell? ⟨w.heap.size, 0, none⟩ = some (.slice none 0 0) := (hb2.cell (p := ⟨w.heap.size, 0, none⟩) (by simp)).trans Xr.out
  have fr : w2.frozen? ⟨w.heap.size, 0, none⟩ = false := (hb2.frozen (p := ⟨w.heap.size, 0, none⟩) (by simp)).trans Fr.out
  have lr : w.heap.size < w2.heap.size := World.block_lt_of_cell? _ _ xr
  have BB := Lib.hid (show Below w.heap.size w w2 from ((below_drewN ((Below.refl _ _).alloc (Nat.le_refl _) _) m)).trans (hb2.mono (by simp)))
  have hql : qs.length = ls.length + 1 := by have := congrArg List.length hqs; rw [Hlen.out, List.length_map] at this; exact this
  have hne : qs ≠ [] := by rintro rfl; simp at hql
  have Hqs := Lib.hid hqs
  clear hqs hb2
  go_wp2_with fail
  refine (give_spec _ qs _ hrd hne (by omega)).mono ?_
  rintro e w3 ⟨v3, ts, rfl, hts, ho2, hb3⟩
  rw [Hqs.out] at hts ⊢
  generalize polyF (rootsL (ls.map nc) ls.length) = G at *
  replace xr := (hb3.cell (p := ⟨w.heap.size, 0, none⟩) lr).trans xr
  replace fr := (hb3.frozen (p := ⟨w.heap.size, 0, none⟩) lr).trans fr
  replace ho2 := ho2.mono (B' := w.heap.size + 1) lr
  replace lr : w.heap.size < w3.heap.size := World.block_lt_of_cell? _ _ xr
  replace BB := Lib.hid (show Below w.heap.size w w3 from BB.out.trans (hb3.mono BB.out.size))
  clear hb3 hql hne hrd
  obtain ⟨ao3, cap3, rfl, _⟩ := ho2.rd.shape
  simp only [cx_length] at ho2 ⊢
  have Ho2 := Lib.hid ho2
  clear ho2
  go_wp2_with fail
  (try simp only [Exit.inBlock, Exit.then]); refine bodyPost_ret (by simp [results, Try.results7, go_sem, *]; try rfl) rfl ?_
  exact ⟨_, ts, rfl, hts, OwV.setOther (g := w.heap.size) (j := 0) (Ho2.out.mono (by omega)) (.inr (by intro e; have := (Ho2.out.lt _ e).1; omega)) _, BB.out.setCell (Nat.le_refl _) _⟩

end Go.Proofs.Ytklonahkacikbaa
