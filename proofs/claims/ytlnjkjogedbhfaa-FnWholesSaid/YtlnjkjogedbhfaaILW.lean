/- FnWholes returns true for all arguments. Conditions: none. -/
import Derived.Test.YtlnjkjogedbhfaaIWl
import Derived.Test.YtlnjkjogedbhfaaI31
import Derived.Test.YtlnjkjogedbhfaaI27
import Derived.BigQuiet
namespace Go.Proofs.Ytlnjkjogedbhfaa
open Go Go.RowKit
set_option linter.unusedSimpArgs false
set_option linter.unusedVariables false

section
variable {ops : Array Oper} {rest : List Oper} {o : Oper} {a : Act} {Q : Exit → Act → World → Prop}
/-- Two numbers more. -/
theorem wpList_push2 {t : TypeId} {W W0 : World} {B E : Nat} {v : Value} {zs : List Int} {y1 y2 : Int} (hown : RowI W0 B v zs) (hW : Below W0.heap.size W0 W)
    (hgd : o.guard = none) (s x : Operand) (ho : o.op = .call { callee := .builtin .append, args := #[s, x], argTypes := #[t, t] })
    (ht : Try.prog.underlying t = some (.slice 2)) (hl : zs.length ≤ 1099511627776) (hB : B ≤ W.heap.size)
    (hs : a.eval s = v) (hx : a.eval x = .slice (some ⟨E, 0, none⟩) 2 2) (hE : E = W.heap.size)
    (h : ∀ v' w', RowI w' B v' (zs ++ [y1, y2]) → Below B W w' → wpList Try.prog ops Q rest (a.put o.dst v') w') :
    wpList Try.prog ops Q (o :: rest) a (W.alloc (.cells #[.int .i64 y1, .int .i64 y2] 2)) := by
  subst hE
  have hi2 := info2
  cases hi : Try.prog.info? 2 with
  | none => rw [hi] at hi2; cases hi2
  | some i =>
  rw [hi] at hi2
  simp only [Option.map_some, Option.some.injEq, Prod.mk.injEq] at hi2
  have hown1 : RowI (W.alloc (.cells #[.int .i64 y1, .int .i64 y2] 2)) B v zs := (hown.below hW).alloc _
  refine wpList_append_lies _ hgd s x t ho B 2 i (.int .i64 0) 1 8 ht hi hi2.1 hi2.2.1 hi2.2.2 rfl (by decide) v zs.length (cellsI zs) hs hown1 ⟨W.heap.size, 0, none⟩ 2 2 [.int .i64 y1, .int .i64 y2] hx (by simp) ?_ ?_ (by decide) (by unfold maxLen; omega) (by omega) (by simp; omega) (W.heap.size + 1) (by simp) ?_
  · exact World.news_of_block (fr := (0, 0)) (cs := #[.int .i64 y1, .int .i64 y2]) (t := 2) (heap_alloc_new W _)
  · intro u hu
    simp only [List.mem_cons, List.not_mem_nil, or_false] at hu
    rcases hu with rfl | rfl <;> rfl
  · intro g cap w1 hown' hgrow hat hlt
    refine h _ w1 (by simpa [RowI, cellsI] using hown') ?_
    have h1 : Below B (W.alloc (.cells #[.int .i64 y1, .int .i64 y2] 2)) w1 := (Below.refl B _).grown hgrow (by simp; omega) (fun k hk => by
      rcases hown.2 with ⟨rfl, _⟩ | ⟨g', _, _, rfl, hb, _⟩
      · simp [Value.ownBlock] at hk
      · simp [Value.ownBlock] at hk; omega)
    exact Below.trans ((Below.refl _ _).alloc hB _) h1
end

set_option maxRecDepth 100000 in
set_option maxHeartbeats 8000000 in
theorem law_Wholes (va : Value) (code : List Int) (vb : Value) (more : List Int) (w : World) (ha : RdB w va code) (hb : RdB w vb more) : Calls Try.prog 4 #[va, vb] w (RB true w) := by
  have Ha := Lib.hid ha
  have Hb := Lib.hid hb
  obtain ⟨aoc, cc, rfl⟩ := ha.shape
  obtain ⟨aom, cm, rfl⟩ := hb.shape
  clear ha hb
  cases hlong : longB code more
  case true =>
    have Hlo := Lib.hid hlong
    clear hlong
    go_enter Try.func4, Try.ntmps4
    go_wp2_with fail
    (go_at_call 13; ((with_reducible refine (b10Long_law _ _ code more _ Ha.out Hb.out).mono ?_); rintro e w' ⟨rfl, rfl⟩))
    rw [Hlo.out]
    go_wp2_with fail
    go_ret
    exact ⟨rfl, Below.refl _ _⟩
  have Hlo := Lib.hid hlong
  have hl1 : code.length ≤ 1048576 := by simp [longB] at hlong; omega
  have hl2 : more.length ≤ 1048576 := by simp [longB] at hlong; omega
  have BB := Lib.hid (Below.refl w.heap.size w)
  clear hlong
  go_enter Try.func4, Try.ntmps4
  go_wp2_with fail
  (go_at_call 13; ((with_reducible refine (b10Long_law _ _ code more _ Ha.out Hb.out).mono ?_); rintro e w' ⟨rfl, rfl⟩))
  rw [Hlo.out]
  go_wp2_with fail
  (go_at_call 19; ((with_reducible refine (degree_draw _ code _ Ha.out hl1).mono ?_); rintro e w1 ⟨vw1, a, rfl, ow1, sa, hw1⟩))
  have B1 := (show Below w.heap.size w w1 by (repeat' (first | (with_reducible exact Below.refl _ _) | (with_reducible assumption) | (with_reducible refine Below.alloc ?_ ?_ _) | (with_reducible refine Below.setCell ?_ ?_ _) | (with_reducible refine Below.drew ?_) | (with_reducible refine Below.via (by assumption) ?_ ?_) | go_size)))
  replace BB := Lib.hid (BB.out.trans (B1.mono BB.out.size))
  have zz1 := B1.size
  clear hw1
  have RA := Lib.hid ow1.rd
  have Sa := Lib.hid sa
  have ha2 := sa.two
  have ha5 := sa.five
  obtain ⟨pw1, nw1, rfl⟩ := ow1.rd.shape
  clear ow1 sa
  go_wp2_with fail
  (go_at_call 19; ((with_reducible refine (degree_draw _ more _ (Hb.out.below (by have h := BB.out; (repeat' (first | (with_reducible exact Below.refl _ _) | (with_reducible assumption) | (with_reducible refine Below.alloc ?_ ?_ _) | (with_reducible refine Below.setCell ?_ ?_ _) | (with_reducible refine Below.drew ?_) | (with_reducible refine Below.via (by assumption) ?_ ?_) | go_size)))) hl2).mono ?_); rintro e w2 ⟨vw2, b, rfl, ow2, sb, hw2⟩))
  have B2 := (show Below w1.heap.size w1 w2 by (repeat' (first | (with_reducible exact Below.refl _ _) | (with_reducible assumption) | (with_reducible refine Below.alloc ?_ ?_ _) | (with_reducible refine Below.setCell ?_ ?_ _) | (with_reducible refine Below.drew ?_) | (with_reducible refine Below.via (by assumption) ?_ ?_) | go_size)))
  replace RA := Lib.hid (RA.out.below B2)
  have xa : w2.cell? ⟨w1.heap.size, 0, none⟩ = some (.slice pw1 a.length nw1) := (hw2.cell (p := ⟨w1.heap.size, 0, none⟩) (by simp)).trans (World.cell?_alloc_new w1 _ _ 0 : _)
  replace BB := Lib.hid (BB.out.trans (B2.mono BB.out.size))
  have zz2 := B2.size
  clear hw2
  clear B1
  have lxa_2 := World.block_lt_of_cell? _ _ xa
  simp only at lxa_2
  have RBb := Lib.hid ow2.rd
  have Sb := Lib.hid sb
  have hb2 := sb.two
  have hb5 := sb.five
  obtain ⟨pw2, nw2, rfl⟩ := ow2.rd.shape
  clear ow2 sb
  go_wp2_with fail
  (go_at_call 14; ((with_reducible refine (b10At_law _ more 0 9 _ (Hb.out.below (by have h := BB.out; have h2 := h.size; (repeat' (first | (with_reducible exact Below.refl _ _) | (with_reducible assumption) | (with_reducible refine Below.alloc ?_ ?_ _) | (with_reducible refine Below.setCell ?_ ?_ _) | (with_reducible refine Below.drew ?_) | (with_reducible refine Below.via (by assumption) ?_ ?_) | go_size)))) (by omega) (by omega) (by omega) (by omega)).mono ?_); rintro e w' ⟨z, rfl, hz0, hz1, rfl⟩))
  have hwz : IntKind.i64.wrap (z - 4) = z - 4 := IntWalk.i64_in _ ⟨by omega, by omega⟩
  have hx : -4 ≤ z - 4 ∧ z - 4 ≤ 4 := by omega
  have hpl := prod_len Sa.out Sb.out
  have Vp := Lib.hid (prod_vld Sa.out Sb.out)
  have Bp := Lib.hid ((prod_bd Sa.out Sb.out).mono (show (125 : Int) ≤ 1000 by omega))
  have Hquo := Lib.hid (quo_mul Sa.out.vld Sb.out.vld (zero_long ha2) (zero_long hb2) Vp.out)
  have Hmul := Lib.hid (ev_mul a b (z - 4))
  have Hsum := Lib.hid (sum_small Sa.out Sb.out)
  have Hsev := Lib.hid (Hsum.out.2.2.2 (z - 4))
  have Hsl := Lib.hid Hsum.out.2.2.1
  have Sla := Lib.hid (slope_small ha2 (by omega) (Sa.out.bd.mono (by omega)) Sa.out.last)
  have Slb := Lib.hid (slope_small hb2 (by omega) (Sb.out.bd.mono (by omega)) Sb.out.last)
  have Slp := Lib.hid (slope_small (by omega) hpl.2 (prod_bd Sa.out Sb.out) (prod_last_ne Sa.out Sb.out))
  have Sra := Lib.hid Sla.out.2.2
  have Srb := Lib.hid Slb.out.2.2
  have Srp := Lib.hid Slp.out.2.2
  have Hrule := Lib.hid (ev_slope_mul a b (z - 4))
  have Hprim := Lib.hid (prim_sign (prod_last_ne Sa.out Sb.out))
  have hc1 := Hprim.out.1
  have hc2 := (contZ_bd Vp.out).2
  have lsa : (slopeZ a).length ≤ 9 := by rw [slope_len]; omega
  have lsb : (slopeZ b).length ≤ 9 := by rw [slope_len]; omega
  have lsp : (slopeZ (mulZ a b)).length ≤ 9 := by rw [slope_len]; omega
  have hu := hor_bd9 (zs := a) (Sa.out.bd.mono (by omega)) hx (j := a.length) (by omega)
  have hv := hor_bd9 (zs := b) (Sb.out.bd.mono (by omega)) hx (j := b.length) (by omega)
  have hd := hor_bd9 (zs := slopeZ a) Sla.out.1 hx (j := (slopeZ a).length) lsa
  have he := hor_bd9 (zs := slopeZ b) Slb.out.1 hx (j := (slopeZ b).length) lsb
  rw [hor_all] at hu hv hd he
  have Bpb := Lib.hid (prim_bd (by omega) Vp.out.bd)
  have Lpp := Lib.hid (prim_length Vp.out.trd)
  have Hpad := Lib.hid (pad_trim Sa.out.trd)
  generalize hP : mulZ a b = P at *
  generalize hR : trimZ (addZ a b 2 (-3)) = r at *
  have HR := Lib.hid hR
  have HPe := Lib.hid hP
  clear hP hR
  go_wp2_with fail
  (go_at_call 20; ((with_reducible refine (MulWholes_impl _ _ a b _ (RA.out.below (by (repeat' (first | (with_reducible exact Below.refl _ _) | (with_reducible assumption) | (with_reducible refine Below.alloc ?_ ?_ _) | (with_reducible refine Below.setCell ?_ ?_ _) | (with_reducible refine Below.drew ?_) | (with_reducible refine Below.via (by assumption) ?_ ?_) | go_size)))) (RBb.out.below (by (repeat' (first | (with_reducible exact Below.refl _ _) | (with_reducible assumption) | (with_reducible refine Below.alloc ?_ ?_ _) | (with_reducible refine Below.setCell ?_ ?_ _) | (with_reducible refine Below.drew ?_) | (with_reducible refine Below.via (by assumption) ?_ ?_) | go_size)))) Sa.out.vld Sb.out.vld (by rw [HPe.out]; exact Vp.out)).mono ?_); rintro e w3 ⟨vw3, rfl, ow3, hw3⟩))
  rw [HPe.out] at ow3
  rw [HPe.out]
  have B3 := (show Below w2.heap.size w2 w3 by (repeat' (first | (with_reducible exact Below.refl _ _) | (with_reducible assumption) | (with_reducible refine Below.alloc ?_ ?_ _) | (with_reducible refine Below.setCell ?_ ?_ _) | (with_reducible refine Below.drew ?_) | (with_reducible refine Below.via (by assumption) ?_ ?_) | go_size)))
  replace xa := (B3.cell (p := ⟨w1.heap.size, 0, none⟩) (World.block_lt_of_cell? _ _ xa)).trans xa
  replace RA := Lib.hid (RA.out.below B3)
  replace RBb := Lib.hid (RBb.out.below B3)
  have xb : w3.cell? ⟨w2.heap.size, 0, none⟩ = some (.slice pw2 b.length nw2) := (hw3.cell (p := ⟨w2.heap.size, 0, none⟩) (by simp)).trans (World.cell?_alloc_new w2 _ _ 0 : _)
  replace BB := Lib.hid (BB.out.trans (B3.mono BB.out.size))
  have zz3 := B3.size
  clear hw3
  clear B2 lxa_2
  have lxa_3 := World.block_lt_of_cell? _ _ xa
  simp only at lxa_3
  have lxb_3 := World.block_lt_of_cell? _ _ xb
  simp only at lxb_3
  have RP := Lib.hid (show RdI w3 vw3 (P) from ow3.rd)
  obtain ⟨pw3, nw3, rfl⟩ := ow3.rd.shape
  clear ow3
  go_wp2_with fail
  (go_at_call 21; ((with_reducible refine (ExactQuotient_impl _ _ P b _ (RP.out.below (by (repeat' (first | (with_reducible exact Below.refl _ _) | (with_reducible assumption) | (with_reducible refine Below.alloc ?_ ?_ _) | (with_reducible refine Below.setCell ?_ ?_ _) | (with_reducible refine Below.drew ?_) | (with_reducible refine Below.via (by assumption) ?_ ?_) | go_size)))) (RBb.out.below (by (repeat' (first | (with_reducible exact Below.refl _ _) | (with_reducible assumption) | (with_reducible refine Below.alloc ?_ ?_ _) | (with_reducible refine Below.setCell ?_ ?_ _) | (with_reducible refine Below.drew ?_) | (with_reducible refine Below.via (by assumption) ?_ ?_) | go_size)))) (by omega) (by omega)).mono ?_); rintro e w4 ⟨vw4, rfl, ow4, hw4⟩))
  rw [Hquo.out] at ow4
  rw [Hquo.out]
  have B4 := (show Below w3.heap.size w3 w4 by (repeat' (first | (with_reducible exact Below.refl _ _) | (with_reducible assumption) | (with_reducible refine Below.alloc ?_ ?_ _) | (with_reducible refine Below.setCell ?_ ?_ _) | (with_reducible refine Below.drew ?_) | (with_reducible refine Below.via (by assumption) ?_ ?_) | go_size)))
  replace xa := (B4.cell (p := ⟨w1.heap.size, 0, none⟩) (World.block_lt_of_cell? _ _ xa)).trans xa
  replace xb := (B4.cell (p := ⟨w2.heap.size, 0, none⟩) (World.block_lt_of_cell? _ _ xb)).trans xb
  replace RA := Lib.hid (RA.out.below B4)
  replace RBb := Lib.hid (RBb.out.below B4)
  replace RP := Lib.hid (RP.out.below B4)
  have xp : w4.cell? ⟨w3.heap.size, 0, none⟩ = some (.slice pw3 (P).length nw3) := (hw4.cell (p := ⟨w3.heap.size, 0, none⟩) (by simp)).trans (World.cell?_alloc_new w3 _ _ 0 : _)
  replace BB := Lib.hid (BB.out.trans (B4.mono BB.out.size))
  have zz4 := B4.size
  clear hw4
  clear B3 lxa_3 lxb_3
  have lxa_4 := World.block_lt_of_cell? _ _ xa
  simp only at lxa_4
  have lxb_4 := World.block_lt_of_cell? _ _ xb
  simp only at lxb_4
  have lxp_4 := World.block_lt_of_cell? _ _ xp
  simp only at lxp_4
  have RK := Lib.hid (show RdI w4 vw4 (a) from ow4.rd)
  obtain ⟨pw4, nw4, rfl⟩ := ow4.rd.shape
  clear ow4
  go_wp2_with fail
  (go_at_call 22; ((with_reducible refine (WholeAt_impl _ (a) (z - 4) _ (RA.out.below (by (repeat' (first | (with_reducible exact Below.refl _ _) | (with_reducible assumption) | (with_reducible refine Below.alloc ?_ ?_ _) | (with_reducible refine Below.setCell ?_ ?_ _) | (with_reducible refine Below.drew ?_) | (with_reducible refine Below.via (by assumption) ?_ ?_) | go_size)))) Sa.out.vld (Sa.out.bd.mono (by omega)) (by omega) hx).mono ?_); rintro e w5 ⟨rfl, hw5⟩))
  have B5 := (show Below w4.heap.size w4 w5 by (repeat' (first | (with_reducible exact Below.refl _ _) | (with_reducible assumption) | (with_reducible refine Below.alloc ?_ ?_ _) | (with_reducible refine Below.setCell ?_ ?_ _) | (with_reducible refine Below.drew ?_) | (with_reducible refine Below.via (by assumption) ?_ ?_) | go_size)))
  replace xa := (B5.cell (p := ⟨w1.heap.size, 0, none⟩) (World.block_lt_of_cell? _ _ xa)).trans xa
  replace xb := (B5.cell (p := ⟨w2.heap.size, 0, none⟩) (World.block_lt_of_cell? _ _ xb)).trans xb
  replace xp := (B5.cell (p := ⟨w3.heap.size, 0, none⟩) (World.block_lt_of_cell? _ _ xp)).trans xp
  replace RA := Lib.hid (RA.out.below B5)
  replace RBb := Lib.hid (RBb.out.below B5)
  replace RP := Lib.hid (RP.out.below B5)
  replace RK := Lib.hid (RK.out.below B5)
  have xk : w5.cell? ⟨w4.heap.size, 0, none⟩ = some (.slice pw4 (a).length nw4) := (hw5.cell (p := ⟨w4.heap.size, 0, none⟩) (by simp)).trans (World.cell?_alloc_new w4 _ _ 0 : _)
  replace BB := Lib.hid (BB.out.trans (B5.mono BB.out.size))
  have zz5 := B5.size
  clear hw5
  clear B4 lxa_4 lxb_4 lxp_4
  have lxa_5 := World.block_lt_of_cell? _ _ xa
  simp only at lxa_5
  have lxb_5 := World.block_lt_of_cell? _ _ xb
  simp only at lxb_5
  have lxp_5 := World.block_lt_of_cell? _ _ xp
  simp only at lxp_5
  have lxk_5 := World.block_lt_of_cell? _ _ xk
  simp only at lxk_5
  go_wp2_with fail
  (go_at_call 22; ((with_reducible refine (WholeAt_impl _ (b) (z - 4) _ (RBb.out.below (by (repeat' (first | (with_reducible exact Below.refl _ _) | (with_reducible assumption) | (with_reducible refine Below.alloc ?_ ?_ _) | (with_reducible refine Below.setCell ?_ ?_ _) | (with_reducible refine Below.drew ?_) | (with_reducible refine Below.via (by assumption) ?_ ?_) | go_size)))) Sb.out.vld (Sb.out.bd.mono (by omega)) (by omega) hx).mono ?_); rintro e w6 ⟨rfl, hw6⟩))
  have B6 := (show Below w5.heap.size w5 w6 by (repeat' (first | (with_reducible exact Below.refl _ _) | (with_reducible assumption) | (with_reducible refine Below.alloc ?_ ?_ _) | (with_reducible refine Below.setCell ?_ ?_ _) | (with_reducible refine Below.drew ?_) | (with_reducible refine Below.via (by assumption) ?_ ?_) | go_size)))
  replace xa := (B6.cell (p := ⟨w1.heap.size, 0, none⟩) (World.block_lt_of_cell? _ _ xa)).trans xa
  replace xb := (B6.cell (p := ⟨w2.heap.size, 0, none⟩) (World.block_lt_of_cell? _ _ xb)).trans xb
  replace xp := (B6.cell (p := ⟨w3.heap.size, 0, none⟩) (World.block_lt_of_cell? _ _ xp)).trans xp
  replace xk := (B6.cell (p := ⟨w4.heap.size, 0, none⟩) (World.block_lt_of_cell? _ _ xk)).trans xk
  replace RA := Lib.hid (RA.out.below B6)
  replace RBb := Lib.hid (RBb.out.below B6)
  replace RP := Lib.hid (RP.out.below B6)
  replace RK := Lib.hid (RK.out.below B6)
  replace BB := Lib.hid (BB.out.trans (B6.mono BB.out.size))
  have zz6 := B6.size
  clear hw6
  clear B5 lxa_5 lxb_5 lxp_5 lxk_5
  have lxa_6 := World.block_lt_of_cell? _ _ xa
  simp only at lxa_6
  have lxb_6 := World.block_lt_of_cell? _ _ xb
  simp only at lxb_6
  have lxp_6 := World.block_lt_of_cell? _ _ xp
  simp only at lxp_6
  have lxk_6 := World.block_lt_of_cell? _ _ xk
  simp only at lxk_6
  go_wp2_with fail
  (go_at_call 22; ((with_reducible refine (WholeAt_impl _ (P) (z - 4) _ (RP.out.below (by (repeat' (first | (with_reducible exact Below.refl _ _) | (with_reducible assumption) | (with_reducible refine Below.alloc ?_ ?_ _) | (with_reducible refine Below.setCell ?_ ?_ _) | (with_reducible refine Below.drew ?_) | (with_reducible refine Below.via (by assumption) ?_ ?_) | go_size)))) Vp.out Bp.out (by omega) hx).mono ?_); rintro e w7 ⟨rfl, hw7⟩))
  rw [Hmul.out]
  have B7 := (show Below w6.heap.size w6 w7 by (repeat' (first | (with_reducible exact Below.refl _ _) | (with_reducible assumption) | (with_reducible refine Below.alloc ?_ ?_ _) | (with_reducible refine Below.setCell ?_ ?_ _) | (with_reducible refine Below.drew ?_) | (with_reducible refine Below.via (by assumption) ?_ ?_) | go_size)))
  replace xa := (B7.cell (p := ⟨w1.heap.size, 0, none⟩) (World.block_lt_of_cell? _ _ xa)).trans xa
  replace xb := (B7.cell (p := ⟨w2.heap.size, 0, none⟩) (World.block_lt_of_cell? _ _ xb)).trans xb
  replace xp := (B7.cell (p := ⟨w3.heap.size, 0, none⟩) (World.block_lt_of_cell? _ _ xp)).trans xp
  replace xk := (B7.cell (p := ⟨w4.heap.size, 0, none⟩) (World.block_lt_of_cell? _ _ xk)).trans xk
  replace RA := Lib.hid (RA.out.below B7)
  replace RBb := Lib.hid (RBb.out.below B7)
  replace RP := Lib.hid (RP.out.below B7)
  replace RK := Lib.hid (RK.out.below B7)
  replace BB := Lib.hid (BB.out.trans (B7.mono BB.out.size))
  have zz7 := B7.size
  clear hw7
  clear B6 lxa_6 lxb_6 lxp_6 lxk_6
  have lxa_7 := World.block_lt_of_cell? _ _ xa
  simp only at lxa_7
  have lxb_7 := World.block_lt_of_cell? _ _ xb
  simp only at lxb_7
  have lxp_7 := World.block_lt_of_cell? _ _ xp
  simp only at lxp_7
  have lxk_7 := World.block_lt_of_cell? _ _ xk
  simp only at lxk_7
  go_wp2_with fail
  (go_at_call 23; ((with_reducible refine (AddWholes_impl _ _ a b r 2 (-3) _ (RA.out.below (by (repeat' (first | (with_reducible exact Below.refl _ _) | (with_reducible assumption) | (with_reducible refine Below.alloc ?_ ?_ _) | (with_reducible refine Below.setCell ?_ ?_ _) | (with_reducible refine Below.drew ?_) | (with_reducible refine Below.via (by assumption) ?_ ?_) | go_size)))) (RBb.out.below (by (repeat' (first | (with_reducible exact Below.refl _ _) | (with_reducible assumption) | (with_reducible refine Below.alloc ?_ ?_ _) | (with_reducible refine Below.setCell ?_ ?_ _) | (with_reducible refine Below.drew ?_) | (with_reducible refine Below.via (by assumption) ?_ ?_) | go_size)))) Sa.out.vld Sb.out.vld (by omega) (by omega) HR.out Hsum.out.1).mono ?_); rintro e w8 ⟨vw8, rfl, ow8, hw8⟩))
  have B8 := (show Below w7.heap.size w7 w8 by (repeat' (first | (with_reducible exact Below.refl _ _) | (with_reducible assumption) | (with_reducible refine Below.alloc ?_ ?_ _) | (with_reducible refine Below.setCell ?_ ?_ _) | (with_reducible refine Below.drew ?_) | (with_reducible refine Below.via (by assumption) ?_ ?_) | go_size)))
  replace xa := (B8.cell (p := ⟨w1.heap.size, 0, none⟩) (World.block_lt_of_cell? _ _ xa)).trans xa
  replace xb := (B8.cell (p := ⟨w2.heap.size, 0, none⟩) (World.block_lt_of_cell? _ _ xb)).trans xb
  replace xp := (B8.cell (p := ⟨w3.heap.size, 0, none⟩) (World.block_lt_of_cell? _ _ xp)).trans xp
  replace xk := (B8.cell (p := ⟨w4.heap.size, 0, none⟩) (World.block_lt_of_cell? _ _ xk)).trans xk
  replace RA := Lib.hid (RA.out.below B8)
  replace RBb := Lib.hid (RBb.out.below B8)
  replace RP := Lib.hid (RP.out.below B8)
  replace RK := Lib.hid (RK.out.below B8)
  replace BB := Lib.hid (BB.out.trans (B8.mono BB.out.size))
  have zz8 := B8.size
  clear hw8
  clear B7 lxa_7 lxb_7 lxp_7 lxk_7
  have lxa_8 := World.block_lt_of_cell? _ _ xa
  simp only at lxa_8
  have lxb_8 := World.block_lt_of_cell? _ _ xb
  simp only at lxb_8
  have lxp_8 := World.block_lt_of_cell? _ _ xp
  simp only at lxp_8
  have lxk_8 := World.block_lt_of_cell? _ _ xk
  simp only at lxk_8
  have RS := Lib.hid (show RdI w8 vw8 (r) from ow8.rd)
  obtain ⟨pw8, nw8, rfl⟩ := ow8.rd.shape
  clear ow8
  go_wp2_with fail
  (go_at_call 22; ((with_reducible refine (WholeAt_impl _ (r) (z - 4) _ (RS.out.below (by (repeat' (first | (with_reducible exact Below.refl _ _) | (with_reducible assumption) | (with_reducible refine Below.alloc ?_ ?_ _) | (with_reducible refine Below.setCell ?_ ?_ _) | (with_reducible refine Below.drew ?_) | (with_reducible refine Below.via (by assumption) ?_ ?_) | go_size)))) Hsum.out.1 Hsum.out.2.1 Hsl.out hx).mono ?_); rintro e w9 ⟨rfl, hw9⟩))
  rw [Hsev.out]
  have B9 := (show Below w8.heap.size w8 w9 by (repeat' (first | (with_reducible exact Below.refl _ _) | (with_reducible assumption) | (with_reducible refine Below.alloc ?_ ?_ _) | (with_reducible refine Below.setCell ?_ ?_ _) | (with_reducible refine Below.drew ?_) | (with_reducible refine Below.via (by assumption) ?_ ?_) | go_size)))
  replace xa := (B9.cell (p := ⟨w1.heap.size, 0, none⟩) (World.block_lt_of_cell? _ _ xa)).trans xa
  replace xb := (B9.cell (p := ⟨w2.heap.size, 0, none⟩) (World.block_lt_of_cell? _ _ xb)).trans xb
  replace xp := (B9.cell (p := ⟨w3.heap.size, 0, none⟩) (World.block_lt_of_cell? _ _ xp)).trans xp
  replace xk := (B9.cell (p := ⟨w4.heap.size, 0, none⟩) (World.block_lt_of_cell? _ _ xk)).trans xk
  replace RA := Lib.hid (RA.out.below B9)
  replace RBb := Lib.hid (RBb.out.below B9)
  replace RP := Lib.hid (RP.out.below B9)
  replace RK := Lib.hid (RK.out.below B9)
  replace RS := Lib.hid (RS.out.below B9)
  have xs : w9.cell? ⟨w8.heap.size, 0, none⟩ = some (.slice pw8 (r).length nw8) := (hw9.cell (p := ⟨w8.heap.size, 0, none⟩) (by simp)).trans (World.cell?_alloc_new w8 _ _ 0 : _)
  replace BB := Lib.hid (BB.out.trans (B9.mono BB.out.size))
  have zz9 := B9.size
  clear hw9
  clear B8 lxa_8 lxb_8 lxp_8 lxk_8
  have lxa_9 := World.block_lt_of_cell? _ _ xa
  simp only at lxa_9
  have lxb_9 := World.block_lt_of_cell? _ _ xb
  simp only at lxb_9
  have lxp_9 := World.block_lt_of_cell? _ _ xp
  simp only at lxp_9
  have lxk_9 := World.block_lt_of_cell? _ _ xk
  simp only at lxk_9
  have lxs_9 := World.block_lt_of_cell? _ _ xs
  simp only at lxs_9
  have q1 := mul_bound (M := 1953125000) (by omega) hu hv
  have q2 := mul_bound (M := 1953125000) (by omega) hd hv
  have q3 := mul_bound (M := 1953125000) (by omega) hu he
  generalize ev a (z - 4) = u at *
  generalize ev b (z - 4) = v at *
  generalize hda : ev (slopeZ a) (z - 4) = d at *
  generalize hdb : ev (slopeZ b) (z - 4) = ee at *
  have Hda := Lib.hid hda
  have Hdb := Lib.hid hdb
  clear hda hdb
  have hw1 : IntKind.i64.wrap (u * v) = u * v := IntWalk.i64_in _ ⟨by omega, by omega⟩
  have hw2 : IntKind.i64.wrap (2 * u) = 2 * u := IntWalk.i64_in _ ⟨by omega, by omega⟩
  have hw3 : IntKind.i64.wrap (3 * v) = 3 * v := IntWalk.i64_in _ ⟨by omega, by omega⟩
  have hw4 : IntKind.i64.wrap (2 * u - 3 * v) = 2 * u - 3 * v := IntWalk.i64_in _ ⟨by omega, by omega⟩
  have hw5 : IntKind.i64.wrap (d * v) = d * v := IntWalk.i64_in _ ⟨by omega, by omega⟩
  have hw6 : IntKind.i64.wrap (u * ee) = u * ee := IntWalk.i64_in _ ⟨by omega, by omega⟩
  have hw7 : IntKind.i64.wrap (d * v + u * ee) = d * v + u * ee := IntWalk.i64_in _ ⟨by omega, by omega⟩
  have Qa := Lib.hid (validB_iff.2 Sa.out.vld)
  go_wp2_with fail
  (go_at_call 24; ((with_reducible refine (valid_impl _ a _ (RA.out.below (by (repeat' (first | (with_reducible exact Below.refl _ _) | (with_reducible assumption) | (with_reducible refine Below.alloc ?_ ?_ _) | (with_reducible refine Below.setCell ?_ ?_ _) | (with_reducible refine Below.drew ?_) | (with_reducible refine Below.via (by assumption) ?_ ?_) | go_size)))) (by omega)).mono ?_); rintro e w10 ⟨rfl, hw10⟩))
  rw [Qa.out]
  have B10 := (show Below w9.heap.size w9 w10 by (repeat' (first | (with_reducible exact Below.refl _ _) | (with_reducible assumption) | (with_reducible refine Below.alloc ?_ ?_ _) | (with_reducible refine Below.setCell ?_ ?_ _) | (with_reducible refine Below.drew ?_) | (with_reducible refine Below.via (by assumption) ?_ ?_) | go_size)))
  replace xa := (B10.cell (p := ⟨w1.heap.size, 0, none⟩) (World.block_lt_of_cell? _ _ xa)).trans xa
  replace xb := (B10.cell (p := ⟨w2.heap.size, 0, none⟩) (World.block_lt_of_cell? _ _ xb)).trans xb
  replace xp := (B10.cell (p := ⟨w3.heap.size, 0, none⟩) (World.block_lt_of_cell? _ _ xp)).trans xp
  replace xk := (B10.cell (p := ⟨w4.heap.size, 0, none⟩) (World.block_lt_of_cell? _ _ xk)).trans xk
  replace xs := (B10.cell (p := ⟨w8.heap.size, 0, none⟩) (World.block_lt_of_cell? _ _ xs)).trans xs
  replace RA := Lib.hid (RA.out.below B10)
  replace RBb := Lib.hid (RBb.out.below B10)
  replace RP := Lib.hid (RP.out.below B10)
  replace RK := Lib.hid (RK.out.below B10)
  replace RS := Lib.hid (RS.out.below B10)
  replace BB := Lib.hid (BB.out.trans (B10.mono BB.out.size))
  have zz10 := B10.size
  clear hw10
  clear B9 lxa_9 lxb_9 lxp_9 lxk_9 lxs_9
  have lxa_10 := World.block_lt_of_cell? _ _ xa
  simp only at lxa_10
  have lxb_10 := World.block_lt_of_cell? _ _ xb
  simp only at lxb_10
  have lxp_10 := World.block_lt_of_cell? _ _ xp
  simp only at lxp_10
  have lxk_10 := World.block_lt_of_cell? _ _ xk
  simp only at lxk_10
  have lxs_10 := World.block_lt_of_cell? _ _ xs
  simp only at lxs_10
  go_wp2_with fail
  (go_at_call 25; ((with_reducible refine (b10Whole_law _ _ a _ (RK.out.below (by (repeat' (first | (with_reducible exact Below.refl _ _) | (with_reducible assumption) | (with_reducible refine Below.alloc ?_ ?_ _) | (with_reducible refine Below.setCell ?_ ?_ _) | (with_reducible refine Below.drew ?_) | (with_reducible refine Below.via (by assumption) ?_ ?_) | go_size)))) (RA.out.below (by (repeat' (first | (with_reducible exact Below.refl _ _) | (with_reducible assumption) | (with_reducible refine Below.alloc ?_ ?_ _) | (with_reducible refine Below.setCell ?_ ?_ _) | (with_reducible refine Below.drew ?_) | (with_reducible refine Below.via (by assumption) ?_ ?_) | go_size)))) Sa.out.ne (by omega)).mono ?_); rintro e w11 ⟨rfl, hw11⟩))
  have B11 := (show Below w10.heap.size w10 w11 by (repeat' (first | (with_reducible exact Below.refl _ _) | (with_reducible assumption) | (with_reducible refine Below.alloc ?_ ?_ _) | (with_reducible refine Below.setCell ?_ ?_ _) | (with_reducible refine Below.drew ?_) | (with_reducible refine Below.via (by assumption) ?_ ?_) | go_size)))
  replace xa := (B11.cell (p := ⟨w1.heap.size, 0, none⟩) (World.block_lt_of_cell? _ _ xa)).trans xa
  replace xb := (B11.cell (p := ⟨w2.heap.size, 0, none⟩) (World.block_lt_of_cell? _ _ xb)).trans xb
  replace xp := (B11.cell (p := ⟨w3.heap.size, 0, none⟩) (World.block_lt_of_cell? _ _ xp)).trans xp
  replace xk := (B11.cell (p := ⟨w4.heap.size, 0, none⟩) (World.block_lt_of_cell? _ _ xk)).trans xk
  replace xs := (B11.cell (p := ⟨w8.heap.size, 0, none⟩) (World.block_lt_of_cell? _ _ xs)).trans xs
  replace RA := Lib.hid (RA.out.below B11)
  replace RBb := Lib.hid (RBb.out.below B11)
  replace RP := Lib.hid (RP.out.below B11)
  replace RK := Lib.hid (RK.out.below B11)
  replace RS := Lib.hid (RS.out.below B11)
  replace BB := Lib.hid (BB.out.trans (B11.mono BB.out.size))
  have zz11 := B11.size
  clear hw11
  clear B10 lxa_10 lxb_10 lxp_10 lxk_10 lxs_10
  have lxa_11 := World.block_lt_of_cell? _ _ xa
  simp only at lxa_11
  have lxb_11 := World.block_lt_of_cell? _ _ xb
  simp only at lxb_11
  have lxp_11 := World.block_lt_of_cell? _ _ xp
  simp only at lxp_11
  have lxk_11 := World.block_lt_of_cell? _ _ xk
  simp only at lxk_11
  have lxs_11 := World.block_lt_of_cell? _ _ xs
  simp only at lxs_11
  go_wp2_with fail
  (go_at_call 26; ((with_reducible refine (same_impl _ _ a _ (RK.out.below (by (repeat' (first | (with_reducible exact Below.refl _ _) | (with_reducible assumption) | (with_reducible refine Below.alloc ?_ ?_ _) | (with_reducible refine Below.setCell ?_ ?_ _) | (with_reducible refine Below.drew ?_) | (with_reducible refine Below.via (by assumption) ?_ ?_) | go_size)))) (RA.out.below (by (repeat' (first | (with_reducible exact Below.refl _ _) | (with_reducible assumption) | (with_reducible refine Below.alloc ?_ ?_ _) | (with_reducible refine Below.setCell ?_ ?_ _) | (with_reducible refine Below.drew ?_) | (with_reducible refine Below.via (by assumption) ?_ ?_) | go_size)))) Sa.out.ne (by omega)).mono ?_); rintro e w12 ⟨rfl, hw12⟩))
  have B12 := (show Below w11.heap.size w11 w12 by (repeat' (first | (with_reducible exact Below.refl _ _) | (with_reducible assumption) | (with_reducible refine Below.alloc ?_ ?_ _) | (with_reducible refine Below.setCell ?_ ?_ _) | (with_reducible refine Below.drew ?_) | (with_reducible refine Below.via (by assumption) ?_ ?_) | go_size)))
  replace xa := (B12.cell (p := ⟨w1.heap.size, 0, none⟩) (World.block_lt_of_cell? _ _ xa)).trans xa
  replace xb := (B12.cell (p := ⟨w2.heap.size, 0, none⟩) (World.block_lt_of_cell? _ _ xb)).trans xb
  replace xp := (B12.cell (p := ⟨w3.heap.size, 0, none⟩) (World.block_lt_of_cell? _ _ xp)).trans xp
  replace xk := (B12.cell (p := ⟨w4.heap.size, 0, none⟩) (World.block_lt_of_cell? _ _ xk)).trans xk
  replace xs := (B12.cell (p := ⟨w8.heap.size, 0, none⟩) (World.block_lt_of_cell? _ _ xs)).trans xs
  replace RA := Lib.hid (RA.out.below B12)
  replace RBb := Lib.hid (RBb.out.below B12)
  replace RP := Lib.hid (RP.out.below B12)
  replace RK := Lib.hid (RK.out.below B12)
  replace RS := Lib.hid (RS.out.below B12)
  replace BB := Lib.hid (BB.out.trans (B12.mono BB.out.size))
  have zz12 := B12.size
  clear hw12
  clear B11 lxa_11 lxb_11 lxp_11 lxk_11 lxs_11
  have lxa_12 := World.block_lt_of_cell? _ _ xa
  simp only at lxa_12
  have lxb_12 := World.block_lt_of_cell? _ _ xb
  simp only at lxb_12
  have lxp_12 := World.block_lt_of_cell? _ _ xp
  simp only at lxp_12
  have lxk_12 := World.block_lt_of_cell? _ _ xk
  simp only at lxk_12
  have lxs_12 := World.block_lt_of_cell? _ _ xs
  simp only at lxs_12
  go_wp2_with fail
  (go_at_call 27; ((with_reducible refine (ContentOf_impl _ P _ (RP.out.below (by (repeat' (first | (with_reducible exact Below.refl _ _) | (with_reducible assumption) | (with_reducible refine Below.alloc ?_ ?_ _) | (with_reducible refine Below.setCell ?_ ?_ _) | (with_reducible refine Below.drew ?_) | (with_reducible refine Below.via (by assumption) ?_ ?_) | go_size)))) Vp.out).mono ?_); rintro e w13 ⟨rfl, hw13⟩))
  have B13 := (show Below w12.heap.size w12 w13 by (repeat' (first | (with_reducible exact Below.refl _ _) | (with_reducible assumption) | (with_reducible refine Below.alloc ?_ ?_ _) | (with_reducible refine Below.setCell ?_ ?_ _) | (with_reducible refine Below.drew ?_) | (with_reducible refine Below.via (by assumption) ?_ ?_) | go_size)))
  replace xa := (B13.cell (p := ⟨w1.heap.size, 0, none⟩) (World.block_lt_of_cell? _ _ xa)).trans xa
  replace xb := (B13.cell (p := ⟨w2.heap.size, 0, none⟩) (World.block_lt_of_cell? _ _ xb)).trans xb
  replace xp := (B13.cell (p := ⟨w3.heap.size, 0, none⟩) (World.block_lt_of_cell? _ _ xp)).trans xp
  replace xk := (B13.cell (p := ⟨w4.heap.size, 0, none⟩) (World.block_lt_of_cell? _ _ xk)).trans xk
  replace xs := (B13.cell (p := ⟨w8.heap.size, 0, none⟩) (World.block_lt_of_cell? _ _ xs)).trans xs
  replace RA := Lib.hid (RA.out.below B13)
  replace RBb := Lib.hid (RBb.out.below B13)
  replace RP := Lib.hid (RP.out.below B13)
  replace RK := Lib.hid (RK.out.below B13)
  replace RS := Lib.hid (RS.out.below B13)
  replace BB := Lib.hid (BB.out.trans (B13.mono BB.out.size))
  have zz13 := B13.size
  clear hw13
  clear B12 lxa_12 lxb_12 lxp_12 lxk_12 lxs_12
  have lxa_13 := World.block_lt_of_cell? _ _ xa
  simp only at lxa_13
  have lxb_13 := World.block_lt_of_cell? _ _ xb
  simp only at lxb_13
  have lxp_13 := World.block_lt_of_cell? _ _ xp
  simp only at lxp_13
  have lxk_13 := World.block_lt_of_cell? _ _ xk
  simp only at lxk_13
  have lxs_13 := World.block_lt_of_cell? _ _ xs
  simp only at lxs_13
  go_wp2_with fail
  (go_at_call 28; ((with_reducible refine (PrimitiveOf_impl _ P _ (RP.out.below (by (repeat' (first | (with_reducible exact Below.refl _ _) | (with_reducible assumption) | (with_reducible refine Below.alloc ?_ ?_ _) | (with_reducible refine Below.setCell ?_ ?_ _) | (with_reducible refine Below.drew ?_) | (with_reducible refine Below.via (by assumption) ?_ ?_) | go_size)))) Vp.out).mono ?_); rintro e w14 ⟨vw14, rfl, ow14, hw14⟩))
  have B14 := (show Below w13.heap.size w13 w14 by (repeat' (first | (with_reducible exact Below.refl _ _) | (with_reducible assumption) | (with_reducible refine Below.alloc ?_ ?_ _) | (with_reducible refine Below.setCell ?_ ?_ _) | (with_reducible refine Below.drew ?_) | (with_reducible refine Below.via (by assumption) ?_ ?_) | go_size)))
  replace xa := (B14.cell (p := ⟨w1.heap.size, 0, none⟩) (World.block_lt_of_cell? _ _ xa)).trans xa
  replace xb := (B14.cell (p := ⟨w2.heap.size, 0, none⟩) (World.block_lt_of_cell? _ _ xb)).trans xb
  replace xp := (B14.cell (p := ⟨w3.heap.size, 0, none⟩) (World.block_lt_of_cell? _ _ xp)).trans xp
  replace xk := (B14.cell (p := ⟨w4.heap.size, 0, none⟩) (World.block_lt_of_cell? _ _ xk)).trans xk
  replace xs := (B14.cell (p := ⟨w8.heap.size, 0, none⟩) (World.block_lt_of_cell? _ _ xs)).trans xs
  replace RA := Lib.hid (RA.out.below B14)
  replace RBb := Lib.hid (RBb.out.below B14)
  replace RP := Lib.hid (RP.out.below B14)
  replace RK := Lib.hid (RK.out.below B14)
  replace RS := Lib.hid (RS.out.below B14)
  replace BB := Lib.hid (BB.out.trans (B14.mono BB.out.size))
  have zz14 := B14.size
  clear hw14
  clear B13 lxa_13 lxb_13 lxp_13 lxk_13 lxs_13
  have lxa_14 := World.block_lt_of_cell? _ _ xa
  simp only at lxa_14
  have lxb_14 := World.block_lt_of_cell? _ _ xb
  simp only at lxb_14
  have lxp_14 := World.block_lt_of_cell? _ _ xp
  simp only at lxp_14
  have lxk_14 := World.block_lt_of_cell? _ _ xk
  simp only at lxk_14
  have lxs_14 := World.block_lt_of_cell? _ _ xs
  simp only at lxs_14
  have RQ := Lib.hid (show RdI w14 vw14 (primZ P) from ow14.rd)
  obtain ⟨pw14, nw14, rfl⟩ := ow14.rd.shape
  clear ow14
  rw [Lpp.out]
  have hcl : ¬ (contZ P < 1) := by omega
  go_wp2_with fail
  generalize hww : w14.alloc _ = wz
  have hbz : Below w14.heap.size w14 wz := by rw [← hww]; (repeat' (first | (with_reducible exact Below.refl _ _) | (with_reducible assumption) | (with_reducible refine Below.alloc ?_ ?_ _) | (with_reducible refine Below.setCell ?_ ?_ _) | (with_reducible refine Below.drew ?_) | (with_reducible refine Below.via (by assumption) ?_ ?_) | go_size))
  have xq : wz.cell? ⟨w14.heap.size, 0, none⟩ = some (.slice pw14 P.length nw14) := by rw [← hww]; exact (World.cell?_alloc_new w14 _ _ 0 : _)
  clear hww
  replace xa := (hbz.cell (p := ⟨w1.heap.size, 0, none⟩) (World.block_lt_of_cell? _ _ xa)).trans xa
  replace xb := (hbz.cell (p := ⟨w2.heap.size, 0, none⟩) (World.block_lt_of_cell? _ _ xb)).trans xb
  replace xp := (hbz.cell (p := ⟨w3.heap.size, 0, none⟩) (World.block_lt_of_cell? _ _ xp)).trans xp
  replace xk := (hbz.cell (p := ⟨w4.heap.size, 0, none⟩) (World.block_lt_of_cell? _ _ xk)).trans xk
  replace xs := (hbz.cell (p := ⟨w8.heap.size, 0, none⟩) (World.block_lt_of_cell? _ _ xs)).trans xs
  replace RA := Lib.hid (RA.out.below hbz)
  replace RBb := Lib.hid (RBb.out.below hbz)
  replace RP := Lib.hid (RP.out.below hbz)
  replace RK := Lib.hid (RK.out.below hbz)
  replace RS := Lib.hid (RS.out.below hbz)
  replace RQ := Lib.hid (RQ.out.below hbz)
  replace BB := Lib.hid (BB.out.trans (hbz.mono BB.out.size))
  have zzz := hbz.size
  clear hbz
  have lxa_z := World.block_lt_of_cell? _ _ xa
  simp only at lxa_z
  have lxb_z := World.block_lt_of_cell? _ _ xb
  simp only at lxb_z
  have lxp_z := World.block_lt_of_cell? _ _ xp
  simp only at lxp_z
  have lxk_z := World.block_lt_of_cell? _ _ xk
  simp only at lxk_z
  have lxs_z := World.block_lt_of_cell? _ _ xs
  simp only at lxs_z
  have lxq_z := World.block_lt_of_cell? _ _ xq
  simp only at lxq_z
  have RQ2 := Lib.hid (show RdI wz (.slice pw14 (primZ P).length nw14) (primZ P) from RQ.out)
  obtain ⟨bq, oq, cq, hqe, hbq, hcq⟩ := RQ2.out.open (by intro h; have h2 := Lpp.out; rw [h] at h2; simp at h2; omega)
  rw [Lpp.out] at hqe hcq
  simp only [Value.slice.injEq, true_and] at hqe
  obtain ⟨rfl, rfl⟩ := hqe
  obtain ⟨bp, op, cp, hpe, hbp, hcp⟩ := RP.out.open Vp.out.ne
  simp only [Value.slice.injEq, true_and] at hpe
  obtain ⟨rfl, rfl⟩ := hpe
  have Hcq := Lib.hid (fun (w' : World) (h : Below wz.heap.size wz w') i (hi : i < P.length) => (h.cell (p := ⟨bq, oq + i, none⟩) hbq).trans (hcq i hi))
  have Hcp := Lib.hid (fun (w' : World) (h : Below wz.heap.size wz w') i (hi : i < P.length) => (h.cell (p := ⟨bp, op + i, none⟩) hbp).trans (hcp i hi))
  clear hcq hcp
  generalize hcz : contZ P = c at *
  have Hcz := Lib.hid hcz
  clear hcz
  go_loopw [184] (fun i wr => ∃ k : Nat, k ≤ P.length ∧ i = .int .i64 k ∧ Below wz.heap.size wz wr) (fun i _ => P.length - (intOf i).toNat)
  case atStart => exact ⟨0, Nat.zero_le _, rfl, Below.refl _ _⟩
  case round =>
    obtain ⟨k, hk, rfl, hbel⟩ := hrel
    have hsz := hbel.size
    by_cases hlt : k < P.length
    · have e1 := (hbel.cell (p := ⟨w14.heap.size, 0, none⟩) lxq_z).trans xq
      have e2 := (hbel.cell (p := ⟨w3.heap.size, 0, none⟩) lxp_z).trans xp
      have c1 := Hcq.out wr hbel k hlt
      have c2 := Hcp.out wr hbel k hlt
      have hb1 := Bpb.out k
      have hb2 := Vp.out.bd k
      have hm := mul_bound (M := 1000000) (by omega) hb1 (show -1000000 ≤ c ∧ c ≤ 1000000 by omega)
      have hk2 : (primZ P).getD k 0 * c = P.getD k 0 ∨ (primZ P).getD k 0 * c = - P.getD k 0 := by
        rcases Hprim.out.2 with hs | hs
        · exact .inl (hs k)
        · exact .inr (hs k)
      generalize (primZ P).getD k 0 = zp at *
      generalize P.getD k 0 = zP at *
      by_cases hzy : zp * c = zP
      · have q4 : IntKind.i64.wrap (zp * c) = zP := by rw [IntWalk.i64_in _ ⟨by omega, by omega⟩]; exact hzy
        have f1 : (zP != zP) = false := by simp
        have f2 : (zP == zP) = true := by simp
        clear Hda Hdb Ha Hb Hlo hl1 hl2 Sa ha2 ha5 Sb hb2 hb5 hz0 hz1 hwz hx Sla Slb Sra Srb lsa lsb Hpad Vp Bp Hquo Slp Srp lsp Bpb Lpp Hsum Hsl HR HPe hu hv Hmul Hsev q1 hd q2 he q3 Hrule hw1 hw2 hw3 hw4 hw5 hw6 hw7 Qa B14 lxa_14 lxb_14 lxp_14 lxk_14 lxs_14 xa xb xk xs RA RBb RK RS BB zzz lxa_z lxb_z lxp_z lxk_z lxs_z lxq_z hbq xq RQ RQ2 hbp xp RP Hprim Hcq Hcp hc1 hc2 hcl Hcz hb1 hm hk2 hzy zz1 zz2 zz3 zz4 zz5 zz6 zz7 zz8 zz9 zz10 zz11 zz12 zz13 zz14
        go_wp2_with fail
        go_big_quiet (fail)
        go_wp2
        go_roundw
        case rel => exact ⟨k + 1, by omega, by go_num, hbel.trans ((drewN_below _ _).mono hsz)⟩
        case measure => simp [intOf]; omega
      · obtain ⟨y, hy⟩ : ∃ y, y = zp * c := ⟨_, rfl⟩
        have q4 : IntKind.i64.wrap (zp * c) = y := by rw [IntWalk.i64_in _ ⟨by omega, by omega⟩]; exact hy.symm
        have hne : y ≠ zP := fun h => hzy (by omega)
        have q5 : IntKind.i64.wrap (-zP) = y := by
          have e : -zP = y := by
            rcases hk2 with h | h
            · exact absurd h hzy
            · omega
          rw [e]; exact IntWalk.i64_in _ ⟨by omega, by omega⟩
        have f1 : (y != zP) = true := by simpa using hne
        have f2 : (y == zP) = false := by simpa using hne
        have f3 : (y != y) = false := by simp
        clear hy hne Hda Hdb Ha Hb Hlo hl1 hl2 Sa ha2 ha5 Sb hb2 hb5 hz0 hz1 hwz hx Sla Slb Sra Srb lsa lsb Hpad Vp Bp Hquo Slp Srp lsp Bpb Lpp Hsum Hsl HR HPe hu hv Hmul Hsev q1 hd q2 he q3 Hrule hw1 hw2 hw3 hw4 hw5 hw6 hw7 Qa B14 lxa_14 lxb_14 lxp_14 lxk_14 lxs_14 xa xb xk xs RA RBb RK RS BB zzz lxa_z lxb_z lxp_z lxk_z lxs_z lxq_z hbq xq RQ RQ2 hbp xp RP Hprim Hcq Hcp hc1 hc2 hcl Hcz hb1 hm hk2 hzy zz1 zz2 zz3 zz4 zz5 zz6 zz7 zz8 zz9 zz10 zz11 zz12 zz13 zz14
        go_wp2_with fail
        go_big_quiet (fail)
        go_wp2
        go_roundw
        case rel => exact ⟨k + 1, by omega, by go_num, hbel.trans ((drewN_below _ _).mono hsz)⟩
        case measure => simp [intOf]; omega
    · obtain rfl : k = P.length := by omega
      clear hlt hk RQ RQ2 RK RS xk xs lxk_z lxs_z lxk_14 lxs_14 Hcq Hcp
      have B26 := (show Below wz.heap.size wz wr by (repeat' (first | (with_reducible exact Below.refl _ _) | (with_reducible assumption) | (with_reducible refine Below.alloc ?_ ?_ _) | (with_reducible refine Below.setCell ?_ ?_ _) | (with_reducible refine Below.drew ?_) | (with_reducible refine Below.via (by assumption) ?_ ?_) | go_size)))
      replace xa := (B26.cell (p := ⟨w1.heap.size, 0, none⟩) (World.block_lt_of_cell? _ _ xa)).trans xa
      replace xb := (B26.cell (p := ⟨w2.heap.size, 0, none⟩) (World.block_lt_of_cell? _ _ xb)).trans xb
      replace xp := (B26.cell (p := ⟨w3.heap.size, 0, none⟩) (World.block_lt_of_cell? _ _ xp)).trans xp
      replace RA := Lib.hid (RA.out.below B26)
      replace RBb := Lib.hid (RBb.out.below B26)
      replace RP := Lib.hid (RP.out.below B26)
      replace BB := Lib.hid (BB.out.trans (B26.mono BB.out.size))
      have zz26 := B26.size
      clear hbel
      have lxa_26 := World.block_lt_of_cell? _ _ xa
      simp only at lxa_26
      have lxb_26 := World.block_lt_of_cell? _ _ xb
      simp only at lxb_26
      have lxp_26 := World.block_lt_of_cell? _ _ xp
      simp only at lxp_26
      go_wp2_with fail
      (go_at_call 29; ((with_reducible refine (SlopeWhole_impl _ a _ (RA.out.below (by (repeat' (first | (with_reducible exact Below.refl _ _) | (with_reducible assumption) | (with_reducible refine Below.alloc ?_ ?_ _) | (with_reducible refine Below.setCell ?_ ?_ _) | (with_reducible refine Below.drew ?_) | (with_reducible refine Below.via (by assumption) ?_ ?_) | go_size)))) (by omega)).mono ?_); rintro e w15 ⟨vw15, rfl, ow15, hw15⟩))
      rw [Sra.out] at ow15
      rw [Sra.out]
      have B27 := (show Below wr.heap.size wr w15 by (repeat' (first | (with_reducible exact Below.refl _ _) | (with_reducible assumption) | (with_reducible refine Below.alloc ?_ ?_ _) | (with_reducible refine Below.setCell ?_ ?_ _) | (with_reducible refine Below.drew ?_) | (with_reducible refine Below.via (by assumption) ?_ ?_) | go_size)))
      replace xa := (B27.cell (p := ⟨w1.heap.size, 0, none⟩) (World.block_lt_of_cell? _ _ xa)).trans xa
      replace xb := (B27.cell (p := ⟨w2.heap.size, 0, none⟩) (World.block_lt_of_cell? _ _ xb)).trans xb
      replace xp := (B27.cell (p := ⟨w3.heap.size, 0, none⟩) (World.block_lt_of_cell? _ _ xp)).trans xp
      replace RA := Lib.hid (RA.out.below B27)
      replace RBb := Lib.hid (RBb.out.below B27)
      replace RP := Lib.hid (RP.out.below B27)
      replace BB := Lib.hid (BB.out.trans (B27.mono BB.out.size))
      have zz27 := B27.size
      clear hw15
      clear B26 lxa_26 lxb_26 lxp_26
      have lxa_27 := World.block_lt_of_cell? _ _ xa
      simp only at lxa_27
      have lxb_27 := World.block_lt_of_cell? _ _ xb
      simp only at lxb_27
      have lxp_27 := World.block_lt_of_cell? _ _ xp
      simp only at lxp_27
      have R1 := Lib.hid (show RdI w15 vw15 (slopeZ a) from ow15.rd)
      obtain ⟨pw15, nw15, rfl⟩ := ow15.rd.shape
      clear ow15
      go_wp2_with fail
      (go_at_call 29; ((with_reducible refine (SlopeWhole_impl _ b _ (RBb.out.below (by (repeat' (first | (with_reducible exact Below.refl _ _) | (with_reducible assumption) | (with_reducible refine Below.alloc ?_ ?_ _) | (with_reducible refine Below.setCell ?_ ?_ _) | (with_reducible refine Below.drew ?_) | (with_reducible refine Below.via (by assumption) ?_ ?_) | go_size)))) (by omega)).mono ?_); rintro e w16 ⟨vw16, rfl, ow16, hw16⟩))
      rw [Srb.out] at ow16
      rw [Srb.out]
      have B28 := (show Below w15.heap.size w15 w16 by (repeat' (first | (with_reducible exact Below.refl _ _) | (with_reducible assumption) | (with_reducible refine Below.alloc ?_ ?_ _) | (with_reducible refine Below.setCell ?_ ?_ _) | (with_reducible refine Below.drew ?_) | (with_reducible refine Below.via (by assumption) ?_ ?_) | go_size)))
      replace xa := (B28.cell (p := ⟨w1.heap.size, 0, none⟩) (World.block_lt_of_cell? _ _ xa)).trans xa
      replace xb := (B28.cell (p := ⟨w2.heap.size, 0, none⟩) (World.block_lt_of_cell? _ _ xb)).trans xb
      replace xp := (B28.cell (p := ⟨w3.heap.size, 0, none⟩) (World.block_lt_of_cell? _ _ xp)).trans xp
      replace RA := Lib.hid (RA.out.below B28)
      replace RBb := Lib.hid (RBb.out.below B28)
      replace RP := Lib.hid (RP.out.below B28)
      replace R1 := Lib.hid (R1.out.below B28)
      have x1 : w16.cell? ⟨w15.heap.size, 0, none⟩ = some (.slice pw15 (slopeZ a).length nw15) := (hw16.cell (p := ⟨w15.heap.size, 0, none⟩) (by simp)).trans (World.cell?_alloc_new w15 _ _ 0 : _)
      replace BB := Lib.hid (BB.out.trans (B28.mono BB.out.size))
      have zz28 := B28.size
      clear hw16
      clear B27 lxa_27 lxb_27 lxp_27
      have lxa_28 := World.block_lt_of_cell? _ _ xa
      simp only at lxa_28
      have lxb_28 := World.block_lt_of_cell? _ _ xb
      simp only at lxb_28
      have lxp_28 := World.block_lt_of_cell? _ _ xp
      simp only at lxp_28
      have lx1_28 := World.block_lt_of_cell? _ _ x1
      simp only at lx1_28
      have R2 := Lib.hid (show RdI w16 vw16 (slopeZ b) from ow16.rd)
      obtain ⟨pw16, nw16, rfl⟩ := ow16.rd.shape
      clear ow16
      go_wp2_with fail
      (go_at_call 29; ((with_reducible refine (SlopeWhole_impl _ P _ (RP.out.below (by (repeat' (first | (with_reducible exact Below.refl _ _) | (with_reducible assumption) | (with_reducible refine Below.alloc ?_ ?_ _) | (with_reducible refine Below.setCell ?_ ?_ _) | (with_reducible refine Below.drew ?_) | (with_reducible refine Below.via (by assumption) ?_ ?_) | go_size)))) (by omega)).mono ?_); rintro e w17 ⟨vw17, rfl, ow17, hw17⟩))
      rw [Srp.out] at ow17
      rw [Srp.out]
      have B29 := (show Below w16.heap.size w16 w17 by (repeat' (first | (with_reducible exact Below.refl _ _) | (with_reducible assumption) | (with_reducible refine Below.alloc ?_ ?_ _) | (with_reducible refine Below.setCell ?_ ?_ _) | (with_reducible refine Below.drew ?_) | (with_reducible refine Below.via (by assumption) ?_ ?_) | go_size)))
      replace xa := (B29.cell (p := ⟨w1.heap.size, 0, none⟩) (World.block_lt_of_cell? _ _ xa)).trans xa
      replace xb := (B29.cell (p := ⟨w2.heap.size, 0, none⟩) (World.block_lt_of_cell? _ _ xb)).trans xb
      replace xp := (B29.cell (p := ⟨w3.heap.size, 0, none⟩) (World.block_lt_of_cell? _ _ xp)).trans xp
      replace x1 := (B29.cell (p := ⟨w15.heap.size, 0, none⟩) (World.block_lt_of_cell? _ _ x1)).trans x1
      replace RA := Lib.hid (RA.out.below B29)
      replace RBb := Lib.hid (RBb.out.below B29)
      replace RP := Lib.hid (RP.out.below B29)
      replace R1 := Lib.hid (R1.out.below B29)
      replace R2 := Lib.hid (R2.out.below B29)
      have x2 : w17.cell? ⟨w16.heap.size, 0, none⟩ = some (.slice pw16 (slopeZ b).length nw16) := (hw17.cell (p := ⟨w16.heap.size, 0, none⟩) (by simp)).trans (World.cell?_alloc_new w16 _ _ 0 : _)
      replace BB := Lib.hid (BB.out.trans (B29.mono BB.out.size))
      have zz29 := B29.size
      clear hw17
      clear B28 lxa_28 lxb_28 lxp_28 lx1_28
      have lxa_29 := World.block_lt_of_cell? _ _ xa
      simp only at lxa_29
      have lxb_29 := World.block_lt_of_cell? _ _ xb
      simp only at lxb_29
      have lxp_29 := World.block_lt_of_cell? _ _ xp
      simp only at lxp_29
      have lx1_29 := World.block_lt_of_cell? _ _ x1
      simp only at lx1_29
      have lx2_29 := World.block_lt_of_cell? _ _ x2
      simp only at lx2_29
      have R3 := Lib.hid (show RdI w17 vw17 (slopeZ P) from ow17.rd)
      obtain ⟨pw17, nw17, rfl⟩ := ow17.rd.shape
      clear ow17
      go_wp2_with fail
      (go_at_call 22; ((with_reducible refine (WholeAt_impl _ (slopeZ a) (z - 4) _ (R1.out.below (by (repeat' (first | (with_reducible exact Below.refl _ _) | (with_reducible assumption) | (with_reducible refine Below.alloc ?_ ?_ _) | (with_reducible refine Below.setCell ?_ ?_ _) | (with_reducible refine Below.drew ?_) | (with_reducible refine Below.via (by assumption) ?_ ?_) | go_size)))) Sla.out.2.1 Sla.out.1 lsa hx).mono ?_); rintro e w18 ⟨rfl, hw18⟩))
      rw [Hda.out]
      have B30 := (show Below w17.heap.size w17 w18 by (repeat' (first | (with_reducible exact Below.refl _ _) | (with_reducible assumption) | (with_reducible refine Below.alloc ?_ ?_ _) | (with_reducible refine Below.setCell ?_ ?_ _) | (with_reducible refine Below.drew ?_) | (with_reducible refine Below.via (by assumption) ?_ ?_) | go_size)))
      replace xa := (B30.cell (p := ⟨w1.heap.size, 0, none⟩) (World.block_lt_of_cell? _ _ xa)).trans xa
      replace xb := (B30.cell (p := ⟨w2.heap.size, 0, none⟩) (World.block_lt_of_cell? _ _ xb)).trans xb
      replace xp := (B30.cell (p := ⟨w3.heap.size, 0, none⟩) (World.block_lt_of_cell? _ _ xp)).trans xp
      replace x1 := (B30.cell (p := ⟨w15.heap.size, 0, none⟩) (World.block_lt_of_cell? _ _ x1)).trans x1
      replace x2 := (B30.cell (p := ⟨w16.heap.size, 0, none⟩) (World.block_lt_of_cell? _ _ x2)).trans x2
      replace RA := Lib.hid (RA.out.below B30)
      replace RBb := Lib.hid (RBb.out.below B30)
      replace RP := Lib.hid (RP.out.below B30)
      replace R1 := Lib.hid (R1.out.below B30)
      replace R2 := Lib.hid (R2.out.below B30)
      replace R3 := Lib.hid (R3.out.below B30)
      have x3 : w18.cell? ⟨w17.heap.size, 0, none⟩ = some (.slice pw17 (slopeZ P).length nw17) := (hw18.cell (p := ⟨w17.heap.size, 0, none⟩) (by simp)).trans (World.cell?_alloc_new w17 _ _ 0 : _)
      replace BB := Lib.hid (BB.out.trans (B30.mono BB.out.size))
      have zz30 := B30.size
      clear hw18
      clear B29 lxa_29 lxb_29 lxp_29 lx1_29 lx2_29
      have lxa_30 := World.block_lt_of_cell? _ _ xa
      simp only at lxa_30
      have lxb_30 := World.block_lt_of_cell? _ _ xb
      simp only at lxb_30
      have lxp_30 := World.block_lt_of_cell? _ _ xp
      simp only at lxp_30
      have lx1_30 := World.block_lt_of_cell? _ _ x1
      simp only at lx1_30
      have lx2_30 := World.block_lt_of_cell? _ _ x2
      simp only at lx2_30
      have lx3_30 := World.block_lt_of_cell? _ _ x3
      simp only at lx3_30
      go_wp2_with fail
      (go_at_call 22; ((with_reducible refine (WholeAt_impl _ (slopeZ b) (z - 4) _ (R2.out.below (by (repeat' (first | (with_reducible exact Below.refl _ _) | (with_reducible assumption) | (with_reducible refine Below.alloc ?_ ?_ _) | (with_reducible refine Below.setCell ?_ ?_ _) | (with_reducible refine Below.drew ?_) | (with_reducible refine Below.via (by assumption) ?_ ?_) | go_size)))) Slb.out.2.1 Slb.out.1 lsb hx).mono ?_); rintro e w19 ⟨rfl, hw19⟩))
      rw [Hdb.out]
      have B31 := (show Below w18.heap.size w18 w19 by (repeat' (first | (with_reducible exact Below.refl _ _) | (with_reducible assumption) | (with_reducible refine Below.alloc ?_ ?_ _) | (with_reducible refine Below.setCell ?_ ?_ _) | (with_reducible refine Below.drew ?_) | (with_reducible refine Below.via (by assumption) ?_ ?_) | go_size)))
      replace xa := (B31.cell (p := ⟨w1.heap.size, 0, none⟩) (World.block_lt_of_cell? _ _ xa)).trans xa
      replace xb := (B31.cell (p := ⟨w2.heap.size, 0, none⟩) (World.block_lt_of_cell? _ _ xb)).trans xb
      replace xp := (B31.cell (p := ⟨w3.heap.size, 0, none⟩) (World.block_lt_of_cell? _ _ xp)).trans xp
      replace x1 := (B31.cell (p := ⟨w15.heap.size, 0, none⟩) (World.block_lt_of_cell? _ _ x1)).trans x1
      replace x2 := (B31.cell (p := ⟨w16.heap.size, 0, none⟩) (World.block_lt_of_cell? _ _ x2)).trans x2
      replace x3 := (B31.cell (p := ⟨w17.heap.size, 0, none⟩) (World.block_lt_of_cell? _ _ x3)).trans x3
      replace RA := Lib.hid (RA.out.below B31)
      replace RBb := Lib.hid (RBb.out.below B31)
      replace RP := Lib.hid (RP.out.below B31)
      replace R1 := Lib.hid (R1.out.below B31)
      replace R2 := Lib.hid (R2.out.below B31)
      replace R3 := Lib.hid (R3.out.below B31)
      replace BB := Lib.hid (BB.out.trans (B31.mono BB.out.size))
      have zz31 := B31.size
      clear hw19
      clear B30 lxa_30 lxb_30 lxp_30 lx1_30 lx2_30 lx3_30
      have lxa_31 := World.block_lt_of_cell? _ _ xa
      simp only at lxa_31
      have lxb_31 := World.block_lt_of_cell? _ _ xb
      simp only at lxb_31
      have lxp_31 := World.block_lt_of_cell? _ _ xp
      simp only at lxp_31
      have lx1_31 := World.block_lt_of_cell? _ _ x1
      simp only at lx1_31
      have lx2_31 := World.block_lt_of_cell? _ _ x2
      simp only at lx2_31
      have lx3_31 := World.block_lt_of_cell? _ _ x3
      simp only at lx3_31
      go_wp2_with fail
      (go_at_call 22; ((with_reducible refine (WholeAt_impl _ (slopeZ P) (z - 4) _ (R3.out.below (by (repeat' (first | (with_reducible exact Below.refl _ _) | (with_reducible assumption) | (with_reducible refine Below.alloc ?_ ?_ _) | (with_reducible refine Below.setCell ?_ ?_ _) | (with_reducible refine Below.drew ?_) | (with_reducible refine Below.via (by assumption) ?_ ?_) | go_size)))) Slp.out.2.1 Slp.out.1 lsp hx).mono ?_); rintro e w20 ⟨rfl, hw20⟩))
      rw [Hrule.out]
      have B32 := (show Below w19.heap.size w19 w20 by (repeat' (first | (with_reducible exact Below.refl _ _) | (with_reducible assumption) | (with_reducible refine Below.alloc ?_ ?_ _) | (with_reducible refine Below.setCell ?_ ?_ _) | (with_reducible refine Below.drew ?_) | (with_reducible refine Below.via (by assumption) ?_ ?_) | go_size)))
      replace xa := (B32.cell (p := ⟨w1.heap.size, 0, none⟩) (World.block_lt_of_cell? _ _ xa)).trans xa
      replace xb := (B32.cell (p := ⟨w2.heap.size, 0, none⟩) (World.block_lt_of_cell? _ _ xb)).trans xb
      replace xp := (B32.cell (p := ⟨w3.heap.size, 0, none⟩) (World.block_lt_of_cell? _ _ xp)).trans xp
      replace x1 := (B32.cell (p := ⟨w15.heap.size, 0, none⟩) (World.block_lt_of_cell? _ _ x1)).trans x1
      replace x2 := (B32.cell (p := ⟨w16.heap.size, 0, none⟩) (World.block_lt_of_cell? _ _ x2)).trans x2
      replace x3 := (B32.cell (p := ⟨w17.heap.size, 0, none⟩) (World.block_lt_of_cell? _ _ x3)).trans x3
      replace RA := Lib.hid (RA.out.below B32)
      replace RBb := Lib.hid (RBb.out.below B32)
      replace RP := Lib.hid (RP.out.below B32)
      replace R1 := Lib.hid (R1.out.below B32)
      replace R2 := Lib.hid (R2.out.below B32)
      replace R3 := Lib.hid (R3.out.below B32)
      replace BB := Lib.hid (BB.out.trans (B32.mono BB.out.size))
      have zz32 := B32.size
      clear hw20
      clear B31 lxa_31 lxb_31 lxp_31 lx1_31 lx2_31 lx3_31
      have lxa_32 := World.block_lt_of_cell? _ _ xa
      simp only at lxa_32
      have lxb_32 := World.block_lt_of_cell? _ _ xb
      simp only at lxb_32
      have lxp_32 := World.block_lt_of_cell? _ _ xp
      simp only at lxp_32
      have lx1_32 := World.block_lt_of_cell? _ _ x1
      simp only at lx1_32
      have lx2_32 := World.block_lt_of_cell? _ _ x2
      simp only at lx2_32
      have lx3_32 := World.block_lt_of_cell? _ _ x3
      simp only at lx3_32
      go_wp2_with (first | (at_builtin; refine wpList_cloneR rfl _ _ rfl int64S_under (RA.out.below (by (repeat' (first | (with_reducible exact Below.refl _ _) | (with_reducible assumption) | (with_reducible refine Below.alloc ?_ ?_ _) | (with_reducible refine Below.setCell ?_ ?_ _) | (with_reducible refine Below.drew ?_) | (with_reducible refine Below.via (by assumption) ?_ ?_) | go_size)))) Sa.out.ne (by omega) rfl rfl rfl ?_; intro g1 cap1 y1 hg1 hr1 hb1) | (at_builtin; refine wpList_push2 hr1 (Below.refl _ _) rfl _ _ rfl int64S_under (by omega) hb1.size rfl rfl rfl ?_; intro v2 y2 hr2 hb2))
      have zy1 := hb1.size
      have zy2 := hb2.size
      (try simp only [World.size_alloc, World.size_setCell, World.size_drew] at zy1)
      (try simp only [World.size_alloc, World.size_setCell, World.size_drew] at zy2)
      have hy2 : Below w20.heap.size w20 y2 := Below.trans (by (repeat' (first | (with_reducible exact Below.refl _ _) | (with_reducible assumption) | (with_reducible refine Below.alloc ?_ ?_ _) | (with_reducible refine Below.setCell ?_ ?_ _) | (with_reducible refine Below.drew ?_) | (with_reducible refine Below.via (by assumption) ?_ ?_) | go_size))) hb2
      (go_at_call 30; ((with_reducible refine (WholeFrom_impl _ (a ++ [0, 0]) a _ hr2.own.rd (by simp) (by simp; omega) Hpad.out Sa.out.vld).mono ?_); rintro e w21 ⟨v3, rfl, o3, h21⟩))
      have B33 := (show Below w20.heap.size w20 w21 by (repeat' (first | (with_reducible exact Below.refl _ _) | (with_reducible assumption) | (with_reducible refine Below.alloc ?_ ?_ _) | (with_reducible refine Below.setCell ?_ ?_ _) | (with_reducible refine Below.drew ?_) | (with_reducible refine Below.via (by assumption) ?_ ?_) | go_size)))
      replace xa := (B33.cell (p := ⟨w1.heap.size, 0, none⟩) (World.block_lt_of_cell? _ _ xa)).trans xa
      replace xb := (B33.cell (p := ⟨w2.heap.size, 0, none⟩) (World.block_lt_of_cell? _ _ xb)).trans xb
      replace xp := (B33.cell (p := ⟨w3.heap.size, 0, none⟩) (World.block_lt_of_cell? _ _ xp)).trans xp
      replace x1 := (B33.cell (p := ⟨w15.heap.size, 0, none⟩) (World.block_lt_of_cell? _ _ x1)).trans x1
      replace x2 := (B33.cell (p := ⟨w16.heap.size, 0, none⟩) (World.block_lt_of_cell? _ _ x2)).trans x2
      replace x3 := (B33.cell (p := ⟨w17.heap.size, 0, none⟩) (World.block_lt_of_cell? _ _ x3)).trans x3
      replace RA := Lib.hid (RA.out.below B33)
      replace RBb := Lib.hid (RBb.out.below B33)
      replace RP := Lib.hid (RP.out.below B33)
      replace R1 := Lib.hid (R1.out.below B33)
      replace R2 := Lib.hid (R2.out.below B33)
      replace R3 := Lib.hid (R3.out.below B33)
      replace BB := Lib.hid (BB.out.trans (B33.mono BB.out.size))
      have zz33 := B33.size
      clear h21
      clear B32 lxa_32 lxb_32 lxp_32 lx1_32 lx2_32 lx3_32
      have lxa_33 := World.block_lt_of_cell? _ _ xa
      simp only at lxa_33
      have lxb_33 := World.block_lt_of_cell? _ _ xb
      simp only at lxb_33
      have lxp_33 := World.block_lt_of_cell? _ _ xp
      simp only at lxp_33
      have lx1_33 := World.block_lt_of_cell? _ _ x1
      simp only at lx1_33
      have lx2_33 := World.block_lt_of_cell? _ _ x2
      simp only at lx2_33
      have lx3_33 := World.block_lt_of_cell? _ _ x3
      simp only at lx3_33
      have R4 := Lib.hid (show RdI w21 v3 a from o3.rd)
      obtain ⟨p3, n3, rfl⟩ := o3.rd.shape
      clear o3
      go_wp2_with fail
      (go_at_call 25; ((with_reducible refine (b10Whole_law _ _ a _ (R4.out.below (by (repeat' (first | (with_reducible exact Below.refl _ _) | (with_reducible assumption) | (with_reducible refine Below.alloc ?_ ?_ _) | (with_reducible refine Below.setCell ?_ ?_ _) | (with_reducible refine Below.drew ?_) | (with_reducible refine Below.via (by assumption) ?_ ?_) | go_size)))) (RA.out.below (by (repeat' (first | (with_reducible exact Below.refl _ _) | (with_reducible assumption) | (with_reducible refine Below.alloc ?_ ?_ _) | (with_reducible refine Below.setCell ?_ ?_ _) | (with_reducible refine Below.drew ?_) | (with_reducible refine Below.via (by assumption) ?_ ?_) | go_size)))) Sa.out.ne (by omega)).mono ?_); rintro e w22 ⟨rfl, h22⟩))
      go_wp2_with fail
      go_ret
      have hbb := BB.out
      exact ⟨rfl, by (repeat' (first | (with_reducible exact Below.refl _ _) | (with_reducible assumption) | (with_reducible refine Below.alloc ?_ ?_ _) | (with_reducible refine Below.setCell ?_ ?_ _) | (with_reducible refine Below.drew ?_) | (with_reducible refine Below.via (by assumption) ?_ ?_) | go_size))⟩

end Go.Proofs.Ytlnjkjogedbhfaa
