/- Lists of wholes that are copied or counted by the laws, and a list of wholes among the arguments, opened. Conditions: lengths of at most 2^20. -/
import Derived.Test.YtlnjkjogedbhfaaIL4
import Derived.Test.YtlnjkjogedbhfaaIOpen
import Derived.Deep.DeepMust
namespace Go.Proofs.Ytlnjkjogedbhfaa
open Go Go.RowKit Go.WideShapes Go.Deep
set_option linter.unusedSimpArgs false
set_option linter.unusedVariables false

section
variable {H : Type} {enc : TypeId × Value → H} {P : Program} {w : World} {base : Nat} {spare : Nat → Bool} {held : Bool}
theorem open_wholes {t e q : TypeId} {f0 : Field} {b0 : Nat} {v : Value} {d : DataW H} {p : List MemPlace} (htt : P.underlying t = some (.slice e)) (hs : P.underlying e = some (.struct #[f0])) (hone : oneCellFields P #[f0] = true) (hC : P.cellsOf e = 1)
    (ht : P.underlying f0.type = some (.slice q)) (he : P.underlying q = some (.int .i64)) (hc : P.cellsOf q = 1)
    (hv : Value.okWide P w .any b0 t v) (h : DataW.Trod enc P w base spare held t v d p) : ∃ ls : List (List Int), RdWs w v ls := by
  obtain ⟨a1, len1, cap1, rfl⟩ := Go.WideShapes.okWide_slice htt hv
  obtain ⟨fuel, hf⟩ := h
  rcases open_slice1 htt hC hf with ⟨hcs, _⟩ | ⟨a, len, cap, m, n, V, D, Pl, hcs, _, hl, hm, hmm, _, hx⟩
  · simp [Value.cells] at hcs
    obtain ⟨rfl, rfl, rfl⟩ := hcs
    exact ⟨[], none, 0, rfl, ⟨by simp, by simp [maxLen]⟩, .inl rfl⟩
  · simp [Value.cells] at hcs
    obtain ⟨rfl, rfl, rfl⟩ := hcs
    have hlm : len1 ≤ m := by rw [hmm]; split <;> omega
    obtain ⟨o0, k0⟩ := hone_of hone 0 f0 rfl
    have hV : ∀ i, i < len1 → ∃ zs : List Int, RdI w (V i) zs := fun i hi => by
      have h1 := (hx i (by omega)).2
      obtain ⟨xs, n', _, hx', _, hlen, hg⟩ := DataW.trod_struct hs h1
      match xs, hlen with
      | [y0], _ =>
        have h0 : DataW.trod enc P w base spare held n' f0.type [V i] = some y0 := by simpa [o0, k0] using hg 0 f0 rfl
        exact ints_of_trod ht he hc h0
    obtain ⟨Z, hZ⟩ : ∃ Z : Nat → List Int, ∀ i, i < len1 → RdI w (V i) (Z i) := ⟨fun i => if hi : i < len1 then (hV i hi).choose else [], fun i hi => by simp only [hi, dif_pos]; exact (hV i hi).choose_spec⟩
    refine ⟨(List.range len1).map Z, some a, cap1, by simp, ⟨by simpa using hl, hm⟩, ?_⟩
    by_cases h0 : len1 = 0
    · left; simp [h0]
    · right
      have h1 := (hx 0 (by omega)).1
      obtain ⟨b, off, spot⟩ := a
      have hspot : spot = none := by simpa [Addr.add] using World.cell?_spot h1
      subst hspot
      refine ⟨b, off, rfl, fun i hi => ⟨V i, ?_, ?_⟩⟩
      · simp only [List.length_map, List.length_range] at hi
        have := (hx i (by omega)).1
        by_cases h0 : i = 0
        · subst h0; simpa [Addr.add] using this
        · simpa [Addr.add, h0] using this
      · simp only [List.length_map, List.length_range] at hi
        have h2 := hZ i hi
        simpa [List.getD, hi] using h2
end

/-- What a count of sizes leaves. -/
def RSz (ls : List (List Int)) (w : World) (e : Ending) (w' : World) : Prop := ∃ r : Int, e = .returned (.int .i64 r) ∧ (r < 0 ∨ (0 ≤ r ∧ ls.length ≤ 1048576 ∧ preL ls ls.length ≤ 1048576 ∧ ∀ i, (ls.getD i []).length ≤ 1048576)) ∧ Below w.heap.size w w'
set_option maxRecDepth 100000 in
set_option maxHeartbeats 1600000 in
theorem sz_wholeS (v : Value) (ls : List (List Int)) (w : World) (hv : RdWs w v ls) : Calls Try.prog 49 #[v, .int .i64 1048576] w (RSz ls w) := by
  have hm : ls.length ≤ maxLen := by obtain ⟨ao, cap, _, h, _⟩ := hv; omega
  unfold maxLen at hm
  by_cases hbig : (1048576 : Int) - ls.length < 0
  · obtain ⟨ao, cap, rfl⟩ := hv.shape
    clear hv
    have hw1 : IntKind.i64.wrap ((1048576 : Int) - ls.length) = (1048576 : Int) - ls.length := IntWalk.i64_in _ ⟨by omega, by omega⟩
    go_enter Try.func49, Try.ntmps49
    go_wp2
    go_ret
    exact ⟨-1, rfl, .inl (by omega), Below.refl _ _⟩
  · by_cases h0 : ls = []
    · subst h0
      obtain ⟨ao, cap, rfl⟩ := hv.shape
      clear hv
      go_enter Try.func49, Try.ntmps49
      go_wp2
      refine wp_loop_rounds 1 ?_
      rw [rounds_succ]
      go_wp2
      go_ret
      exact ⟨1048576, by first | rfl | simp, .inr ⟨by omega, by simp, by simp [preL], by simp⟩, Below.refl _ _⟩
    obtain ⟨b, off, cap, rfl, hbs, hc⟩ := hv.open h0
    have Hc := Lib.hid hc
    have hl : ls.length ≤ 1048576 := by omega
    have hw1 : IntKind.i64.wrap ((1048576 : Int) - ls.length) = (1048576 : Int) - ls.length := IntWalk.i64_in _ ⟨by omega, by omega⟩
    clear hc hv hm
    go_enter Try.func49, Try.ntmps49
    go_wp2
    go_loopw [1, 5] (fun lv i wr => ∃ (k : Nat) (l : Int), k ≤ ls.length ∧ i = .int .i64 k ∧ lv = .int .i64 l ∧ 0 ≤ l ∧ l ≤ 1048576 ∧ l + preL ls k ≤ 1048576 ∧ (∀ j, j < k → (ls.getD j []).length ≤ 1048576) ∧ Below w.heap.size w wr) (fun _ i _ => ls.length - (intOf i).toNat)
    case atStart => exact ⟨0, _, Nat.zero_le _, rfl, rfl, by omega, by omega, by simp [preL] <;> omega, fun j hj => absurd hj (by omega), Below.refl _ _⟩
    case round =>
      obtain ⟨k, l, hk, rfl, rfl, hl0, hl1, hlp, hall, hbel⟩ := hrel
      have Hall := Lib.hid hall
      have Hbel := Lib.hid hbel
      have hsz := hbel.size
      clear hall
      by_cases hlt : k < ls.length
      · obtain ⟨u, c1, r1⟩ := Hc.out k hlt
        have d1 := (hbel.cell (p := ⟨b, off + k, none⟩) hbs).trans c1
        have R1 := Lib.hid (r1.below hbel)
        obtain ⟨p, n, rfl⟩ := r1.shape
        have Hz := Lib.hid (show ls.getD k [] = ls.getD k [] from rfl)
        obtain ⟨z, hz⟩ : ∃ z, ls.getD k [] = z := ⟨_, rfl⟩
        rw [hz] at d1 R1
        have HZ := Lib.hid hz
        have Hlp := Lib.hid (show (preL ls (k + 1) : Int) = preL ls k + z.length by rw [preL, hz]; omega)
        have Hlq := Lib.hid hlp
        clear hlp
        clear c1 r1 hbel hz Hz
        go_wp2_with fail
        (go_at_call 31; ((with_reducible refine (sz_whole _ z l _ R1.out hl0 hl1).mono ?_); rintro e w2 ⟨rfl, hb2⟩))
        have B2 := Lib.hid (Hbel.out.trans (hb2.mono hsz))
        clear hb2
        by_cases hn : l - (z.length : Int) < 0
        · have Hn := Lib.hid (szF_neg hn)
          rw [Hn.out]
          go_wp2_with fail
          go_ret
          exact ⟨-1, rfl, .inl (by omega), B2.out⟩
        · have Hn := Lib.hid (szF_pos hn)
          rw [Hn.out]
          go_wp2_with fail
          go_roundw
          case rel => exact ⟨k + 1, l - z.length, by omega, by go_num, rfl, by omega, by omega, by have := Hlp.out; have := Hlq.out; omega, fun j hj => by
            by_cases e : j = k
            · subst e; rw [HZ.out]; omega
            · exact Hall.out j (by omega), B2.out⟩
          case measure => simp [intOf]; omega
      · obtain rfl : k = ls.length := by omega
        have HA := Lib.hid (show ∀ i, (ls.getD i []).length ≤ 1048576 from fun i => by
          by_cases hi : i < ls.length
          · exact Hall.out i hi
          · simp [List.getD, List.getElem?_eq_none (show ls.length ≤ i by omega)])
        have HP := Lib.hid (show preL ls ls.length ≤ 1048576 by omega)
        clear hbel hlp
        go_wp2_with fail
        go_ret
        exact ⟨l, rfl, .inr ⟨hl0, hl, HP.out, HA.out⟩, Hbel.out⟩
end Go.Proofs.Ytlnjkjogedbhfaa
