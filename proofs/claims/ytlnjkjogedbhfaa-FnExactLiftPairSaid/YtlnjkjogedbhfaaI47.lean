/- A sum over a prime, the reference's walk. Conditions: terms over the prime. -/
import Derived.Test.YtlnjkjogedbhfaaIBez
import Derived.Test.YtlnjkjogedbhfaaI18
namespace Go.Proofs.Ytlnjkjogedbhfaa
open Go Go.RowKit
set_option linter.unusedSimpArgs false
set_option linter.unusedVariables false

def sumStep (o a : List Int) : Nat → List Int
  | 0 => o
  | k + 1 => addAt (sumStep o a k) k (a.getD k 0)
theorem sumStep_length (o a : List Int) : ∀ k, (sumStep o a k).length = o.length
  | 0 => rfl
  | k + 1 => by rw [sumStep, addAt_length, sumStep_length o a k]
theorem sumStep_get (o a : List Int) (i : Nat) : ∀ k, k ≤ o.length → (sumStep o a k).getD i 0 = o.getD i 0 + if i < k then a.getD i 0 else 0
  | 0, _ => by simp [sumStep]
  | k + 1, h => by
    rw [sumStep, addAt_get _ _ _ _ (by rw [sumStep_length]; omega), sumStep_get o a i k (by omega)]
    by_cases h1 : i = k
    · subst h1; simp
    · by_cases h2 : i < k
      · rw [if_pos h2, if_neg h1, if_pos (by omega)]; omega
      · rw [if_neg h2, if_neg h1, if_neg (by omega)]; omega
theorem zeros_get (n i : Nat) : (List.replicate n (0 : Int)).getD i 0 = 0 := by
  simp only [List.getD, List.getElem?_replicate]; split <;> rfl
theorem sum_all {m : Int} {a b : List Int} {n : Nat} (hn : n = max a.length b.length) (h0 : 0 < n) : trimS (modsZ m (sumStep (sumStep (List.replicate n 0) a a.length) b b.length)) = sumF m a b := by
  have hl : (sumStep (sumStep (List.replicate n 0) a a.length) b b.length).length = n := by rw [sumStep_length, sumStep_length, List.length_replicate]
  rw [trimS_eq (List.ne_nil_of_length_pos (by rw [modsZ_length, hl]; exact h0)), sumF, ← hn]
  congr 1
  refine ext_getD (by rw [modsZ_length, hl, buildZ_length]) fun i => ?_
  rw [mods_get, buildZ_get, sumStep_get _ _ _ _ (by rw [sumStep_length, List.length_replicate]; omega), sumStep_get _ _ _ _ (by rw [List.length_replicate]; omega), zeros_get]
  by_cases hi : i < n
  · rw [if_pos hi]
    have e : ∀ x : List Int, (if i < x.length then x.getD i 0 else 0) = x.getD i 0 := fun x => by
      split
      · rfl
      · exact (co_beyond x (by omega)).symm
    rw [e, e]; congr 1; omega
  · rw [if_neg hi, if_neg (by omega), if_neg (by omega)]; simp

set_option maxRecDepth 100000 in
set_option maxHeartbeats 4000000 in
theorem sum_spec (va vb : Value) (a b : List Int) (m : Int) (w : World) (ha : RdI w va a) (hb : RdI w vb b) (hm : primeB m = true) (hoa : Ovr m a) (hob : Ovr m b) : Calls Try.prog 77 #[va, vb, .int .i64 m] w (RL (sumF m a b) w) := by
  have hm2 := primeB_bd hm
  have la := hoa.len
  have lb := hob.len
  have la0 := hoa.trd.1
  have lb0 := hob.trd.1
  have hBa := Lib.hid (fun i => show 0 ≤ a.getD i 0 ∧ a.getD i 0 ≤ 1000 by have := hoa.ov i; omega)
  have hBb := Lib.hid (fun i => show 0 ≤ b.getD i 0 ∧ b.getD i 0 ≤ 1000 by have := hob.ov i; omega)
  have Hov := Lib.hid (fun i => show 0 ≤ a.getD i 0 ∧ a.getD i 0 ≤ 100 ∧ 0 ≤ b.getD i 0 ∧ b.getD i 0 ≤ 100 by have := hob.ov i; have := hoa.ov i; omega)
  obtain ⟨ba, oa, ca, rfl, hbs, hca⟩ := ha.open hoa.ne
  obtain ⟨bb, ob, cb, rfl, hbs2, hcb⟩ := hb.open hob.ne
  have Hca := Lib.hid hca
  have Hcb := Lib.hid hcb
  clear ha hb hm hoa hob hca hcb
  obtain ⟨n, hn⟩ : ∃ n : Nat, n = max a.length b.length := ⟨_, rfl⟩
  have Hn := Lib.hid hn
  have hn1 : a.length ≤ n := by omega
  have hn2 : b.length ≤ n := by omega
  have hn3 : n ≤ 100 := by omega
  clear hn
  go_enter Try.func77, Try.ntmps77
  go_wp2_with (at_make; refine wpList_makeI _ rfl _ _ _ rfl int64S_under _ _ n rfl rfl (by have := Hn.out; omega) (by have := Hn.out; omega) (by omega) ?_; intro w1 hr1 hb1 hl1)
  all_goals
    have Hr1 := Lib.hid hr1
    have Hb1 := Lib.hid hb1
    have z1 := hb1.size
    clear hr1 hb1
    go_loopw [18] (fun i wr => ∃ k : Nat, k ≤ a.length ∧ i = .int .i64 k ∧ RowI wr w.heap.size (.slice (some ⟨w.heap.size, 0, none⟩) n n) (sumStep (List.replicate n 0) a k) ∧ Below w.heap.size w wr) (fun i _ => a.length - (intOf i).toNat)
    case atStart => exact ⟨0, Nat.zero_le _, rfl, Hr1.out.mono (Nat.le_refl _), Hb1.out⟩
    case round =>
      obtain ⟨k, hk, rfl, hrow, hbel⟩ := hrel
      have Hrow := Lib.hid hrow
      have Hbel := Lib.hid hbel
      have hlr := hrow.lt
      have hsz := hbel.size
      have hLL := (show (sumStep (List.replicate n 0) a k).length = n by (repeat rw [sumStep_length]); rw [List.length_replicate])
      clear hrow hbel
      by_cases hlt : k < a.length
      · have hkn : k < n := by omega
        have hkn2 : (k : Int) < (n : Int) := by omega
        have hki : (k : Int) < (a.length : Int) := by omega
        have c1 := Hrow.out.cell (j := k) (by omega)
        have c2 := Hrow.out.frozen k
        have c3 := (Hbel.out.cell (p := ⟨ba, oa + k, none⟩) hbs).trans (Hca.out k hlt)
        have Hx := Lib.hid (Hrow.out.set k ((sumStep (List.replicate n 0) a k).getD k 0 + a.getD k 0))
        have Hy := Lib.hid (show sumStep (List.replicate n 0) a (k + 1) = (sumStep (List.replicate n 0) a k).set k ((sumStep (List.replicate n 0) a k).getD k 0 + a.getD k 0) from rfl)
        have hbx := hBa.out k
        have hby := (show 0 ≤ (sumStep (List.replicate n 0) a k).getD k 0 ∧ (sumStep (List.replicate n 0) a k).getD k 0 ≤ 1000 by rw [sumStep_get _ _ _ _ (by rw [List.length_replicate]; omega), zeros_get]; have := Hov.out k; rw [if_neg (by omega)]; omega)
        generalize (sumStep (List.replicate n 0) a k).getD k 0 = p at *
        generalize a.getD k 0 = q at *
        have q1 : IntKind.i64.wrap (p + q) = p + q := IntWalk.i64_in _ ⟨by omega, by omega⟩
        have hgo : w.heap.size ≠ ba := by omega
        clear hLL hby hbx
        go_wp2_with fail
        (refine wp_region_still_tail 10 (by kernel_rfl) (by kernel_rfl) ?_; simp only [List.take_succ_cons, List.take_zero, List.drop_succ_cons, List.drop_zero]; repeat still_step; (try refine wpStill_nil ?_))
        change wpList _ _ _ _ _ (World.drew _)
        go_wp2_with fail
        go_roundw
        case rel => exact ⟨k + 1, by omega, by go_num, by rw [Hy.out]; exact Hx.out.below ((Below.refl _ _).drew), by have h3 := Hbel.out; (repeat' (first | (with_reducible exact Below.refl _ _) | (with_reducible assumption) | (with_reducible refine Below.alloc ?_ ?_ _) | (with_reducible refine Below.setCell ?_ ?_ _) | (with_reducible refine Below.drew ?_) | (with_reducible refine Below.via (by assumption) ?_ ?_) | go_size))⟩
        case measure => simp [intOf] <;> omega
      · obtain rfl : k = a.length := by omega
        go_wp2_with fail
        go_loopw [34] (fun i wr => ∃ k : Nat, k ≤ b.length ∧ i = .int .i64 k ∧ RowI wr w.heap.size (.slice (some ⟨w.heap.size, 0, none⟩) n n) (sumStep (sumStep (List.replicate n 0) a a.length) b k) ∧ Below w.heap.size w wr) (fun i _ => b.length - (intOf i).toNat)
        case atStart => exact ⟨0, Nat.zero_le _, rfl, Hrow.out, Hbel.out⟩
        case round =>
          obtain ⟨k, hk, rfl, hrow, hbel⟩ := hrel
          have Hrow := Lib.hid hrow
          have Hbel := Lib.hid hbel
          have hlr := hrow.lt
          have hsz := hbel.size
          have hLL := (show (sumStep (sumStep (List.replicate n 0) a a.length) b k).length = n by (repeat rw [sumStep_length]); rw [List.length_replicate])
          clear hrow hbel
          by_cases hlt : k < b.length
          · have hkn : k < n := by omega
            have hkn2 : (k : Int) < (n : Int) := by omega
            have hki : (k : Int) < (b.length : Int) := by omega
            have c1 := Hrow.out.cell (j := k) (by omega)
            have c2 := Hrow.out.frozen k
            have c3 := (Hbel.out.cell (p := ⟨bb, ob + k, none⟩) hbs2).trans (Hcb.out k hlt)
            have Hx := Lib.hid (Hrow.out.set k ((sumStep (sumStep (List.replicate n 0) a a.length) b k).getD k 0 + b.getD k 0))
            have Hy := Lib.hid (show sumStep (sumStep (List.replicate n 0) a a.length) b (k + 1) = (sumStep (sumStep (List.replicate n 0) a a.length) b k).set k ((sumStep (sumStep (List.replicate n 0) a a.length) b k).getD k 0 + b.getD k 0) from rfl)
            have hbx := hBb.out k
            have hby := (show 0 ≤ (sumStep (sumStep (List.replicate n 0) a a.length) b k).getD k 0 ∧ (sumStep (sumStep (List.replicate n 0) a a.length) b k).getD k 0 ≤ 1000 by rw [sumStep_get _ _ _ _ (by rw [sumStep_length, List.length_replicate]; omega), sumStep_get _ _ _ _ (by rw [List.length_replicate]; omega), zeros_get]; have := Hov.out k; constructor <;> (split <;> split <;> omega))
            generalize (sumStep (sumStep (List.replicate n 0) a a.length) b k).getD k 0 = p at *
            generalize b.getD k 0 = q at *
            have q1 : IntKind.i64.wrap (p + q) = p + q := IntWalk.i64_in _ ⟨by omega, by omega⟩
            have hgo : w.heap.size ≠ bb := by omega
            clear hLL hby hbx
            go_wp2_with fail
            (refine wp_region_still_tail 10 (by kernel_rfl) (by kernel_rfl) ?_; simp only [List.take_succ_cons, List.take_zero, List.drop_succ_cons, List.drop_zero]; repeat still_step; (try refine wpStill_nil ?_))
            change wpList _ _ _ _ _ (World.drew _)
            go_wp2_with fail
            go_roundw
            case rel => exact ⟨k + 1, by omega, by go_num, by rw [Hy.out]; exact Hx.out.below ((Below.refl _ _).drew), by have h3 := Hbel.out; (repeat' (first | (with_reducible exact Below.refl _ _) | (with_reducible assumption) | (with_reducible refine Below.alloc ?_ ?_ _) | (with_reducible refine Below.setCell ?_ ?_ _) | (with_reducible refine Below.drew ?_) | (with_reducible refine Below.via (by assumption) ?_ ?_) | go_size))⟩
            case measure => simp [intOf] <;> omega
          · obtain rfl : k = b.length := by omega
            go_wp2_with fail
            clear hlt
            have HSB := Lib.hid (show BdI 1000000000000000 (sumStep (sumStep (List.replicate n 0) a a.length) b b.length) from fun i => by rw [sumStep_get _ _ _ _ (by rw [sumStep_length, List.length_replicate]; omega), sumStep_get _ _ _ _ (by rw [List.length_replicate]; omega), zeros_get]; have := Hov.out i; constructor <;> split <;> split <;> omega)
            (go_at_call 71; ((with_reducible refine (mods_spec _ (sumStep (sumStep (List.replicate n 0) a a.length) b b.length) m _ (Hrow.out.own.rd) (by omega) HSB.out (by omega) (by omega)).mono ?_); rintro e w2 ⟨v2, rfl, ho2, hb2⟩))
            rw [sum_all Hn.out (by omega)] at ho2
            have Ho2 := Lib.hid ho2
            obtain ⟨p2, n2, rfl⟩ := ho2.rd.shape
            clear ho2
            go_wp2_with fail
            go_ret
            exact ⟨_, rfl, Ho2.out.mono (by omega), Hbel.out.trans (hb2.mono (by omega))⟩

end Go.Proofs.Ytlnjkjogedbhfaa
