/- FnExactLiftPair: the second call of the program. Conditions: those of its statement. -/
import Derived.Test.YtlnjkjogedbhfaaIL3
import Derived.Test.YtlnjkjogedbhfaaI53j
import Derived.Test.YtlnjkjogedbhfaaILLa
namespace Go.Proofs.Ytlnjkjogedbhfaa
open Go Go.RowKit
set_option linter.unusedSimpArgs false
set_option linter.unusedVariables false
set_option linter.unusedSimpArgs false
set_option linter.unusedVariables false

/-- The text of the law. -/
noncomputable def lawLCode42 : Code := (Try.f8.body).getD .skip
set_option maxRecDepth 100000 in
set_option maxHeartbeats 20000000 in
theorem lawL_42 {a b c : List Int} {m : Int} {w w3 : World} {aoa aob aoc : Option Addr} {ca cb cc : Nat} {R : List Int × List Int × Bool} {x0 x1 x2 x7 x8 x9 x10 x11 x12 x13 x14 x15 x16 x17 x18 x19 x20 x21 x22 x23 x24 x25 x26 x27 x28 x29 x30 x31 x32 x33 x34 x35 x36 x37 x38 x39 x40 x41 x42 x43 x44 x45 x46 x47 x48 x49 x50 x51 x52 x53 x54 x55 x56 x57 x58 x59 x60 x61 x62 x63 x64 x65 x66 x67 x68 x69 x70 x71 x72 x73 x74 x75 x76 x77 x78 x79 x80 x81 x82 x83 x84 x85 x86 x87 x88 x89 x90 x91 x92 x93 x94 x95 x96 x97 x98 x99 x100 x101 x102 x103 x104 x105 x106 x107 x108 x109 x110 x111 x112 x113 x114 x115 x116 x117 x118 x119 x120 x121 x122 x123 x124 x125 x126 x127 x128 x129 x130 x131 x132 x133 x134 x135 x136 x137 x138 x139 x140 x141 x142 x143 x144 x145 x146 x147 x148 x149 x150 x151 x152 x153 x154 x155 x156 x157 x158 x159 x160 x161 x162 x163 x164 x165 x166 x167 x168 x169 x170 x171 x172 x173 x174 x175 x176 x177 x178 x179 x180 x181 x182 x183 : Value} {K : Act → World → Prop}
    (Ha : Hid (RdI w (.slice aoa a.length ca) a)) (Hb : Hid (RdI w (.slice aob b.length cb) b)) (Hc : Hid (RdI w (.slice aoc c.length cc) c)) (hla : a.length ≤ 1099511627776) (hlb : b.length ≤ 1099511627776) (hlc : c.length ≤ 1099511627776)
    (HRe : Hid (liftR m a b c = R)) (BB : Hid (Below w.heap.size w w3)) (x0_ : w3.cell? ⟨w.heap.size, 0, none⟩ = some (.slice aoa a.length ca)) (x1_ : w3.cell? ⟨w.heap.size + 1, 0, none⟩ = some (.slice aob b.length cb)) (x2_ : w3.cell? ⟨w.heap.size + 1 + 1, 0, none⟩ = some (.slice aoc c.length cc))
    (hK : ∀ s22 s23 s24 wx u25 u26 u27 u28 u29 u30 u31 u32 u33 u34 u35 u36 u37 u38 u39 u40 u41 u42 u43 u44 u45 u46 u47 u48 u49 u50 u51 u52 u53 u54 u55 u56 u57 u58 u59 u60 u61 u62 u63 u64 u65 u66 u67 u68 u69 u70 u71 u72 u73 u74 u75 u76 u77 u78 u79 u80 u81 u82 u83 u84 u85 u86 u87 u88 u89 u90 u91 u92 u93 u94 u95 u96 u97 u98 u99 u100 u101 u102 u103 u104 u105 u106 u107 u108 u109 u110 u111 u112 u113 u114 u115 u116 u117 u118 u119 u120 u121 u122 u123 u124 u125 u126 u127 u128 u129 u130 u131 u132 u133 u134 u135 u136 u137 u138 u139 u140 u141 u142 u143 u144 u145 u146 u147 u148 u149 u150 u151 u152 u153 u154 u155 u156 u157 u158 u159 u160 u161 u162 u163 u164 u165 u166 u167 u168 u169 u170 u171 u172 u173 u174 u175 u176 u177 u178 u179 u180 u181 u182 u183, CutR2 w3 R.1 R.2.1 R.2.2 s22 s23 s24 wx → K ⟨List.toArray (x0 :: x1 :: x2 :: .int .i64 m :: .pointer (some ⟨w.heap.size, 0, none⟩) :: .pointer (some ⟨w.heap.size + 1, 0, none⟩) :: .pointer (some ⟨w.heap.size + 1 + 1, 0, none⟩) :: x7 :: x8 :: x9 :: x10 :: x11 :: x12 :: x13 :: x14 :: x15 :: x16 :: x17 :: x18 :: x19 :: x20 :: x21 :: s22 :: s23 :: s24 :: u25 :: u26 :: u27 :: u28 :: u29 :: u30 :: u31 :: u32 :: u33 :: u34 :: u35 :: u36 :: u37 :: u38 :: u39 :: u40 :: u41 :: u42 :: u43 :: u44 :: u45 :: u46 :: u47 :: u48 :: u49 :: u50 :: u51 :: u52 :: u53 :: u54 :: u55 :: u56 :: u57 :: u58 :: u59 :: u60 :: u61 :: u62 :: u63 :: u64 :: u65 :: u66 :: u67 :: u68 :: u69 :: u70 :: u71 :: u72 :: u73 :: u74 :: u75 :: u76 :: u77 :: u78 :: u79 :: u80 :: u81 :: u82 :: u83 :: u84 :: u85 :: u86 :: u87 :: u88 :: u89 :: u90 :: u91 :: u92 :: u93 :: u94 :: u95 :: u96 :: u97 :: u98 :: u99 :: u100 :: u101 :: u102 :: u103 :: u104 :: u105 :: u106 :: u107 :: u108 :: u109 :: u110 :: u111 :: u112 :: u113 :: u114 :: u115 :: u116 :: u117 :: u118 :: u119 :: u120 :: u121 :: u122 :: u123 :: u124 :: u125 :: u126 :: u127 :: u128 :: u129 :: u130 :: u131 :: u132 :: u133 :: u134 :: u135 :: u136 :: u137 :: u138 :: u139 :: u140 :: u141 :: u142 :: u143 :: u144 :: u145 :: u146 :: u147 :: u148 :: u149 :: u150 :: u151 :: u152 :: u153 :: u154 :: u155 :: u156 :: u157 :: u158 :: u159 :: u160 :: u161 :: u162 :: u163 :: u164 :: u165 :: u166 :: u167 :: u168 :: u169 :: u170 :: u171 :: u172 :: u173 :: u174 :: u175 :: u176 :: u177 :: u178 :: u179 :: u180 :: u181 :: u182 :: u183 :: []), []⟩ wx) :
    (headC (dropC 31 lawLCode42)).wp Try.prog (Exit.then K (bodyPost Try.prog Try.f8 (RB true w))) ⟨List.toArray (x0 :: x1 :: x2 :: .int .i64 m :: .pointer (some ⟨w.heap.size, 0, none⟩) :: .pointer (some ⟨w.heap.size + 1, 0, none⟩) :: .pointer (some ⟨w.heap.size + 1 + 1, 0, none⟩) :: x7 :: x8 :: x9 :: x10 :: x11 :: x12 :: x13 :: x14 :: x15 :: x16 :: x17 :: x18 :: x19 :: x20 :: x21 :: x22 :: x23 :: x24 :: x25 :: x26 :: x27 :: x28 :: x29 :: x30 :: x31 :: x32 :: x33 :: x34 :: x35 :: x36 :: x37 :: x38 :: x39 :: x40 :: x41 :: x42 :: x43 :: x44 :: x45 :: x46 :: x47 :: x48 :: x49 :: x50 :: x51 :: x52 :: x53 :: x54 :: x55 :: x56 :: x57 :: x58 :: x59 :: x60 :: x61 :: x62 :: x63 :: x64 :: x65 :: x66 :: x67 :: x68 :: x69 :: x70 :: x71 :: x72 :: x73 :: x74 :: x75 :: x76 :: x77 :: x78 :: x79 :: x80 :: x81 :: x82 :: x83 :: x84 :: x85 :: x86 :: x87 :: x88 :: x89 :: x90 :: x91 :: x92 :: x93 :: x94 :: x95 :: x96 :: x97 :: x98 :: x99 :: x100 :: x101 :: x102 :: x103 :: x104 :: x105 :: x106 :: x107 :: x108 :: x109 :: x110 :: x111 :: x112 :: x113 :: x114 :: x115 :: x116 :: x117 :: x118 :: x119 :: x120 :: x121 :: x122 :: x123 :: x124 :: x125 :: x126 :: x127 :: x128 :: x129 :: x130 :: x131 :: x132 :: x133 :: x134 :: x135 :: x136 :: x137 :: x138 :: x139 :: x140 :: x141 :: x142 :: x143 :: x144 :: x145 :: x146 :: x147 :: x148 :: x149 :: x150 :: x151 :: x152 :: x153 :: x154 :: x155 :: x156 :: x157 :: x158 :: x159 :: x160 :: x161 :: x162 :: x163 :: x164 :: x165 :: x166 :: x167 :: x168 :: x169 :: x170 :: x171 :: x172 :: x173 :: x174 :: x175 :: x176 :: x177 :: x178 :: x179 :: x180 :: x181 :: x182 :: x183 :: []), []⟩ w3 := by
  conv => arg 2; whnf
  have l0 := World.block_lt_of_cell? _ _ x0_
  have l1 := World.block_lt_of_cell? _ _ x1_
  have l2 := World.block_lt_of_cell? _ _ x2_
  simp only at l0 l1 l2
  have bbw := BB.out
  go_cut [22, 23, 24] (fun s8 s9 s10 wx => CutR2 w3 R.1 R.2.1 R.2.2 s8 s9 s10 wx)
  case first =>
    clear hK
    as_aux_lemma =>
    go_region_held3 (fun w' => w'.cell? ⟨w.heap.size, 0, none⟩ = some (.slice aoa a.length ca) ∧ w'.cell? ⟨w.heap.size + 1, 0, none⟩ = some (.slice aob b.length cb) ∧ w'.cell? ⟨w.heap.size + 1 + 1, 0, none⟩ = some (.slice aoc c.length cc))
      (((try dsimp only); (repeat' (refine And.intro ?_ ?_)); all_goals (first | assumption | (refine (Below.cell (B := w3.heap.size) (w := w3) ?_ ?_).trans ?_ <;> (first | assumption | omega | (simp only; omega) | (skip; (repeat' (first | (with_reducible exact Below.refl _ _) | (with_reducible assumption) | (with_reducible refine Below.alloc ?_ ?_ _) | (with_reducible refine Below.setCell ?_ ?_ _) | (with_reducible refine Below.drew ?_) | (with_reducible refine Below.via (by assumption) ?_ ?_) | go_size)); done))) | (go_keep; done))))
      (first
        | (go_at_call 33; ((with_reducible refine (to_whole _ a _ (Ha.out.below (by (repeat' (first | (with_reducible exact Below.refl _ _) | (with_reducible assumption) | (with_reducible refine Below.alloc ?_ ?_ _) | (with_reducible refine Below.setCell ?_ ?_ _) | (with_reducible refine Below.drew ?_) | (with_reducible refine Below.via (by assumption) ?_ ?_) | go_size)))) hla).mono ?_); rintro e wa0 ⟨u0_, rfl, o0_, b0_⟩; have zq0 := b0_.size; (try simp only [World.size_alloc, World.size_drew, World.size_setCell] at zq0); obtain ⟨cb0_, fb0_⟩ := bcell b0_; (try have lc00 : w3.heap.size < wa0.heap.size := by omega); (try have ld00 : w3.heap.size + 1 < wa0.heap.size := by omega); obtain ⟨p0_, q0_, rfl⟩ := o0_.rd.shape))
        | (go_at_call 33; ((with_reducible refine (to_whole _ b _ (Hb.out.below (by (repeat' (first | (with_reducible exact Below.refl _ _) | (with_reducible assumption) | (with_reducible refine Below.alloc ?_ ?_ _) | (with_reducible refine Below.setCell ?_ ?_ _) | (with_reducible refine Below.drew ?_) | (with_reducible refine Below.via (by assumption) ?_ ?_) | go_size)))) hlb).mono ?_); rintro e wa1 ⟨u1_, rfl, o1_, b1_⟩; have zq1 := b1_.size; (try simp only [World.size_alloc, World.size_drew, World.size_setCell] at zq1); obtain ⟨cb1_, fb1_⟩ := bcell b1_; (try have lc10 : w3.heap.size < wa1.heap.size := by omega); (try have ld10 : w3.heap.size + 1 < wa1.heap.size := by omega); (try have lc11 : wa0.heap.size < wa1.heap.size := by omega); (try have ld11 : wa0.heap.size + 1 < wa1.heap.size := by omega); obtain ⟨p1_, q1_, rfl⟩ := o1_.rd.shape))
        | (go_at_call 33; ((with_reducible refine (to_whole _ c _ (Hc.out.below (by (repeat' (first | (with_reducible exact Below.refl _ _) | (with_reducible assumption) | (with_reducible refine Below.alloc ?_ ?_ _) | (with_reducible refine Below.setCell ?_ ?_ _) | (with_reducible refine Below.drew ?_) | (with_reducible refine Below.via (by assumption) ?_ ?_) | go_size)))) hlc).mono ?_); rintro e wa2 ⟨u2_, rfl, o2_, b2_⟩; have zq2 := b2_.size; (try simp only [World.size_alloc, World.size_drew, World.size_setCell] at zq2); obtain ⟨cb2_, fb2_⟩ := bcell b2_; (try have lc20 : w3.heap.size < wa2.heap.size := by omega); (try have ld20 : w3.heap.size + 1 < wa2.heap.size := by omega); (try have lc21 : wa0.heap.size < wa2.heap.size := by omega); (try have ld21 : wa0.heap.size + 1 < wa2.heap.size := by omega); (try have lc22 : wa1.heap.size < wa2.heap.size := by omega); (try have ld22 : wa1.heap.size + 1 < wa2.heap.size := by omega); obtain ⟨p2_, q2_, rfl⟩ := o2_.rd.shape))
        | (go_at_call 18; ((with_reducible refine (LiftPair_impl2 _ _ _ a b c m _ (o0_.rd.below (by (repeat' (first | (with_reducible exact Below.refl _ _) | (with_reducible assumption) | (with_reducible refine Below.alloc ?_ ?_ _) | (with_reducible refine Below.setCell ?_ ?_ _) | (with_reducible refine Below.drew ?_) | (with_reducible refine Below.via (by assumption) ?_ ?_) | go_size)))) (o1_.rd.below (by (repeat' (first | (with_reducible exact Below.refl _ _) | (with_reducible assumption) | (with_reducible refine Below.alloc ?_ ?_ _) | (with_reducible refine Below.setCell ?_ ?_ _) | (with_reducible refine Below.drew ?_) | (with_reducible refine Below.via (by assumption) ?_ ?_) | go_size)))) (o2_.rd.below (by (repeat' (first | (with_reducible exact Below.refl _ _) | (with_reducible assumption) | (with_reducible refine Below.alloc ?_ ?_ _) | (with_reducible refine Below.setCell ?_ ?_ _) | (with_reducible refine Below.drew ?_) | (with_reducible refine Below.via (by assumption) ?_ ?_) | go_size)))) hla hlb hlc).mono ?_); rw [HRe.out]; rintro e wf ⟨uf, ug, rfl, of_, og_, bf_⟩; have zqf := bf_.size; (try simp only [World.size_alloc, World.size_drew, World.size_setCell] at zqf); obtain ⟨cbf_, fbf_⟩ := bcell bf_; (try have lcf0 : w3.heap.size < wf.heap.size := by omega); (try have ldf0 : w3.heap.size + 1 < wf.heap.size := by omega); (try have lcf1 : wa0.heap.size < wf.heap.size := by omega); (try have ldf1 : wa0.heap.size + 1 < wf.heap.size := by omega); (try have lcf2 : wa1.heap.size < wf.heap.size := by omega); (try have ldf2 : wa1.heap.size + 1 < wf.heap.size := by omega); (try have lcf3 : wa2.heap.size < wf.heap.size := by omega); (try have ldf3 : wa2.heap.size + 1 < wf.heap.size := by omega); obtain ⟨pf_, qf_, rfl⟩ := of_.rd.shape; obtain ⟨pg_, qg_, rfl⟩ := og_.rd.shape)))
    all_goals (as_aux_lemma => (go_wp2_with fail; go_meet; (refine ⟨_, pf_, qf_, _, pg_, qg_, rfl, rfl, rfl, ⟨?_, ?_, ?_, ?_⟩, ⟨?_, ?_, ?_, ?_⟩, ?_⟩ <;> first | omega | (simp; omega) | (first | ((with_reducible refine OwI.range (OwI.mono (OwI.alloc (OwI.alloc of_ _) _) ?_)) <;> (first | omega | (simp only [World.size_alloc, World.size_drew, World.size_setCell]; omega) | (simp; omega))) | ((with_reducible refine OwI.range (OwI.mono (OwI.alloc (OwI.setCell of_ ?_ _) _) ?_)) <;> (first | omega | (simp only [World.size_alloc, World.size_drew, World.size_setCell]; omega) | (simp; omega))) | ((with_reducible refine OwI.range (OwI.mono (OwI.setCell (OwI.alloc of_ _) ?_ _) ?_)) <;> (first | omega | (simp only [World.size_alloc, World.size_drew, World.size_setCell]; omega) | (simp; omega))) | ((with_reducible refine OwI.range (OwI.mono (OwI.setCell (OwI.setCell of_ ?_ _) ?_ _) ?_)) <;> (first | omega | (simp only [World.size_alloc, World.size_drew, World.size_setCell]; omega) | (simp; omega)))) | (first | ((with_reducible refine OwI.range (OwI.mono (OwI.alloc (OwI.alloc og_ _) _) ?_)) <;> (first | omega | (simp only [World.size_alloc, World.size_drew, World.size_setCell]; omega) | (simp; omega))) | ((with_reducible refine OwI.range (OwI.mono (OwI.alloc (OwI.setCell og_ ?_ _) _) ?_)) <;> (first | omega | (simp only [World.size_alloc, World.size_drew, World.size_setCell]; omega) | (simp; omega))) | ((with_reducible refine OwI.range (OwI.mono (OwI.setCell (OwI.alloc og_ _) ?_ _) ?_)) <;> (first | omega | (simp only [World.size_alloc, World.size_drew, World.size_setCell]; omega) | (simp; omega))) | ((with_reducible refine OwI.range (OwI.mono (OwI.setCell (OwI.setCell og_ ?_ _) ?_ _) ?_)) <;> (first | omega | (simp only [World.size_alloc, World.size_drew, World.size_setCell]; omega) | (simp; omega)))) | (go_simp; done) | (refine cell_set_some ?_; rw [cbf_ _ _ (by first | omega | (simp <;> omega))]; go_simp; done) | (refine cell_set_some ?_; rw [cellZ (by first | omega | (simp <;> omega))]; rw [cbf_ _ _ (by first | omega | (simp <;> omega))]; go_simp; done) | (refine cell_set_some ?_; rw [cbf_ _ _ (by first | omega | (simp <;> omega)), cb2_ _ _ (by first | omega | (simp <;> omega))]; go_simp; done) | (refine cell_set_some ?_; rw [cellZ (by first | omega | (simp <;> omega))]; rw [cbf_ _ _ (by first | omega | (simp <;> omega)), cb2_ _ _ (by first | omega | (simp <;> omega))]; go_simp; done) | (refine cell_set_some ?_; rw [cbf_ _ _ (by first | omega | (simp <;> omega)), cb2_ _ _ (by first | omega | (simp <;> omega)), cb1_ _ _ (by first | omega | (simp <;> omega))]; go_simp; done) | (refine cell_set_some ?_; rw [cellZ (by first | omega | (simp <;> omega))]; rw [cbf_ _ _ (by first | omega | (simp <;> omega)), cb2_ _ _ (by first | omega | (simp <;> omega)), cb1_ _ _ (by first | omega | (simp <;> omega))]; go_simp; done) | (refine cell_set_some ?_; rw [cbf_ _ _ (by first | omega | (simp <;> omega)), cb2_ _ _ (by first | omega | (simp <;> omega)), cb1_ _ _ (by first | omega | (simp <;> omega)), cb0_ _ _ (by first | omega | (simp <;> omega))]; go_simp; done) | (refine cell_set_some ?_; rw [cellZ (by first | omega | (simp <;> omega))]; rw [cbf_ _ _ (by first | omega | (simp <;> omega)), cb2_ _ _ (by first | omega | (simp <;> omega)), cb1_ _ _ (by first | omega | (simp <;> omega)), cb0_ _ _ (by first | omega | (simp <;> omega))]; go_simp; done) | (rw [cellZ (by first | omega | (simp <;> omega))]; refine cell_set_some ?_; rw [cbf_ _ _ (by first | omega | (simp <;> omega))]; go_simp; done) | (rw [cellZ (by first | omega | (simp <;> omega))]; refine cell_set_some ?_; rw [cellZ (by first | omega | (simp <;> omega))]; rw [cbf_ _ _ (by first | omega | (simp <;> omega))]; go_simp; done) | (rw [cellZ (by first | omega | (simp <;> omega))]; refine cell_set_some ?_; rw [cbf_ _ _ (by first | omega | (simp <;> omega)), cb2_ _ _ (by first | omega | (simp <;> omega))]; go_simp; done) | (rw [cellZ (by first | omega | (simp <;> omega))]; refine cell_set_some ?_; rw [cellZ (by first | omega | (simp <;> omega))]; rw [cbf_ _ _ (by first | omega | (simp <;> omega)), cb2_ _ _ (by first | omega | (simp <;> omega))]; go_simp; done) | (rw [cellZ (by first | omega | (simp <;> omega))]; refine cell_set_some ?_; rw [cbf_ _ _ (by first | omega | (simp <;> omega)), cb2_ _ _ (by first | omega | (simp <;> omega)), cb1_ _ _ (by first | omega | (simp <;> omega))]; go_simp; done) | (rw [cellZ (by first | omega | (simp <;> omega))]; refine cell_set_some ?_; rw [cellZ (by first | omega | (simp <;> omega))]; rw [cbf_ _ _ (by first | omega | (simp <;> omega)), cb2_ _ _ (by first | omega | (simp <;> omega)), cb1_ _ _ (by first | omega | (simp <;> omega))]; go_simp; done) | (rw [cellZ (by first | omega | (simp <;> omega))]; refine cell_set_some ?_; rw [cbf_ _ _ (by first | omega | (simp <;> omega)), cb2_ _ _ (by first | omega | (simp <;> omega)), cb1_ _ _ (by first | omega | (simp <;> omega)), cb0_ _ _ (by first | omega | (simp <;> omega))]; go_simp; done) | (rw [cellZ (by first | omega | (simp <;> omega))]; refine cell_set_some ?_; rw [cellZ (by first | omega | (simp <;> omega))]; rw [cbf_ _ _ (by first | omega | (simp <;> omega)), cb2_ _ _ (by first | omega | (simp <;> omega)), cb1_ _ _ (by first | omega | (simp <;> omega)), cb0_ _ _ (by first | omega | (simp <;> omega))]; go_simp; done) | (skip; (repeat' (first | (with_reducible exact Below.refl _ _) | (with_reducible assumption) | (with_reducible refine Below.alloc ?_ ?_ _) | (with_reducible refine Below.setCell ?_ ?_ _) | (with_reducible refine Below.drew ?_) | (with_reducible refine Below.via (by assumption) ?_ ?_) | go_size)); done))))
  case rest =>
    exact hK _ _ _ _ _ _ _ _ _ _ _ _ _ _ _ _ _ _ _ _ _ _ _ _ _ _ _ _ _ _ _ _ _ _ _ _ _ _ _ _ _ _ _ _ _ _ _ _ _ _ _ _ _ _ _ _ _ _ _ _ _ _ _ _ _ _ _ _ _ _ _ _ _ _ _ _ _ _ _ _ _ _ _ _ _ _ _ _ _ _ _ _ _ _ _ _ _ _ _ _ _ _ _ _ _ _ _ _ _ _ _ _ _ _ _ _ _ _ _ _ _ _ _ _ _ _ _ _ _ _ _ _ _ _ _ _ _ _ _ _ _ _ _ _ _ _ _ _ _ _ _ _ _ _ _ _ _ _ _ _ _ _ _ hcut

end Go.Proofs.Ytlnjkjogedbhfaa

/- FnExactLiftPair returns true for all arguments. Conditions: none. -/
namespace Go.Proofs.Ytlnjkjogedbhfaa
open Go Go.RowKit
set_option linter.unusedSimpArgs false
set_option linter.unusedVariables false
set_option linter.unusedSimpArgs false
set_option linter.unusedVariables false

set_option maxRecDepth 100000 in
set_option maxHeartbeats 8000000 in
theorem law_LiftPair (va : Value) (a : List Int) (vb : Value) (b : List Int) (vc : Value) (c : List Int) (m : Int) (w : World) (ha : RdI w va a) (hb : RdI w vb b) (hc : RdI w vc c) : Calls Try.prog 8 #[.agg #[va], .agg #[vb], .agg #[vc], .int .i64 m] w (RB true w) := by
  have Ha := Lib.hid ha
  obtain ⟨aoa, ca, rfl⟩ := ha.shape
  clear ha
  have Hb := Lib.hid hb
  obtain ⟨aob, cb, rfl⟩ := hb.shape
  clear hb
  have Hc := Lib.hid hc
  obtain ⟨aoc, cc, rfl⟩ := hc.shape
  clear hc
  by_cases hbig0 : (1048576 : Int) - a.length < 0
  · have Hs0 := Lib.hid (szF_neg hbig0)
    go_enter Try.func8, Try.ntmps8
    go_wp2_with fail
    (go_at_call 31; ((with_reducible refine (sz_whole _ a (1048576) _ (Ha.out.below (by (repeat' (first | (with_reducible exact Below.refl _ _) | (with_reducible assumption) | (with_reducible refine Below.alloc ?_ ?_ _) | (with_reducible refine Below.setCell ?_ ?_ _) | (with_reducible refine Below.drew ?_) | (with_reducible refine Below.via (by assumption) ?_ ?_) | go_size)))) (by omega) (by omega)).mono ?_); rintro e w1 ⟨rfl, hb1⟩))
    rw [Hs0.out]
    have zs1 := hb1.size
    simp only [World.size_alloc] at zs1
    have BB := Lib.hid (show Below w.heap.size w w1 by (repeat' (first | (with_reducible exact Below.refl _ _) | (with_reducible assumption) | (with_reducible refine Below.alloc ?_ ?_ _) | (with_reducible refine Below.setCell ?_ ?_ _) | (with_reducible refine Below.drew ?_) | (with_reducible refine Below.via (by assumption) ?_ ?_) | go_size)))
    have l0 : w.heap.size < w1.heap.size := by omega
    have l1 : w.heap.size + 1 < w1.heap.size := by omega
    have l2 : w.heap.size + 1 + 1 < w1.heap.size := by omega
    obtain ⟨ch1, fh1⟩ := bcell hb1
    have x0 : w1.cell? ⟨w.heap.size, 0, none⟩ = some (.slice aoa a.length ca) := by go_simp
    have x1 : w1.cell? ⟨w.heap.size + 1, 0, none⟩ = some (.slice aob b.length cb) := by go_simp
    have x2 : w1.cell? ⟨w.heap.size + 1 + 1, 0, none⟩ = some (.slice aoc c.length cc) := by go_simp
    clear ch1 fh1 hb1
    go_wp2_with fail
    go_ret
    exact ⟨rfl, BB.out⟩
  have Hs0 := Lib.hid (szF_pos hbig0)
  by_cases hbig1 : (1048576 : Int) - a.length - b.length < 0
  · have Hs1 := Lib.hid (szF_neg hbig1)
    go_enter Try.func8, Try.ntmps8
    go_wp2_with fail
    (go_at_call 31; ((with_reducible refine (sz_whole _ a (1048576) _ (Ha.out.below (by (repeat' (first | (with_reducible exact Below.refl _ _) | (with_reducible assumption) | (with_reducible refine Below.alloc ?_ ?_ _) | (with_reducible refine Below.setCell ?_ ?_ _) | (with_reducible refine Below.drew ?_) | (with_reducible refine Below.via (by assumption) ?_ ?_) | go_size)))) (by omega) (by omega)).mono ?_); rintro e w1 ⟨rfl, hb1⟩))
    rw [Hs0.out]
    have zs1 := hb1.size
    simp only [World.size_alloc] at zs1
    have BB := Lib.hid (show Below w.heap.size w w1 by (repeat' (first | (with_reducible exact Below.refl _ _) | (with_reducible assumption) | (with_reducible refine Below.alloc ?_ ?_ _) | (with_reducible refine Below.setCell ?_ ?_ _) | (with_reducible refine Below.drew ?_) | (with_reducible refine Below.via (by assumption) ?_ ?_) | go_size)))
    have l0 : w.heap.size < w1.heap.size := by omega
    have l1 : w.heap.size + 1 < w1.heap.size := by omega
    have l2 : w.heap.size + 1 + 1 < w1.heap.size := by omega
    obtain ⟨ch1, fh1⟩ := bcell hb1
    have x0 : w1.cell? ⟨w.heap.size, 0, none⟩ = some (.slice aoa a.length ca) := by go_simp
    have x1 : w1.cell? ⟨w.heap.size + 1, 0, none⟩ = some (.slice aob b.length cb) := by go_simp
    have x2 : w1.cell? ⟨w.heap.size + 1 + 1, 0, none⟩ = some (.slice aoc c.length cc) := by go_simp
    clear ch1 fh1 hb1
    go_wp2_with fail
    (go_at_call 31; ((with_reducible refine (sz_whole _ b (1048576 - a.length) _ (Hb.out.below BB.out) (by omega) (by omega)).mono ?_); rintro e w2 ⟨rfl, hb2⟩))
    rw [Hs1.out]
    replace x0 := (hb2.cell (p := ⟨w.heap.size, 0, none⟩) l0).trans x0
    replace l0 := World.block_lt_of_cell? _ _ x0
    replace x1 := (hb2.cell (p := ⟨w.heap.size + 1, 0, none⟩) l1).trans x1
    replace l1 := World.block_lt_of_cell? _ _ x1
    replace x2 := (hb2.cell (p := ⟨w.heap.size + 1 + 1, 0, none⟩) l2).trans x2
    replace l2 := World.block_lt_of_cell? _ _ x2
    replace BB := Lib.hid (show Below w.heap.size w w2 from BB.out.trans (hb2.mono BB.out.size))
    have zs2 := hb2.size
    clear hb2
    go_wp2_with fail
    go_ret
    exact ⟨rfl, BB.out⟩
  have Hs1 := Lib.hid (szF_pos hbig1)
  by_cases hbig2 : (1048576 : Int) - a.length - b.length - c.length < 0
  · have Hs2 := Lib.hid (szF_neg hbig2)
    go_enter Try.func8, Try.ntmps8
    go_wp2_with fail
    (go_at_call 31; ((with_reducible refine (sz_whole _ a (1048576) _ (Ha.out.below (by (repeat' (first | (with_reducible exact Below.refl _ _) | (with_reducible assumption) | (with_reducible refine Below.alloc ?_ ?_ _) | (with_reducible refine Below.setCell ?_ ?_ _) | (with_reducible refine Below.drew ?_) | (with_reducible refine Below.via (by assumption) ?_ ?_) | go_size)))) (by omega) (by omega)).mono ?_); rintro e w1 ⟨rfl, hb1⟩))
    rw [Hs0.out]
    have zs1 := hb1.size
    simp only [World.size_alloc] at zs1
    have BB := Lib.hid (show Below w.heap.size w w1 by (repeat' (first | (with_reducible exact Below.refl _ _) | (with_reducible assumption) | (with_reducible refine Below.alloc ?_ ?_ _) | (with_reducible refine Below.setCell ?_ ?_ _) | (with_reducible refine Below.drew ?_) | (with_reducible refine Below.via (by assumption) ?_ ?_) | go_size)))
    have l0 : w.heap.size < w1.heap.size := by omega
    have l1 : w.heap.size + 1 < w1.heap.size := by omega
    have l2 : w.heap.size + 1 + 1 < w1.heap.size := by omega
    obtain ⟨ch1, fh1⟩ := bcell hb1
    have x0 : w1.cell? ⟨w.heap.size, 0, none⟩ = some (.slice aoa a.length ca) := by go_simp
    have x1 : w1.cell? ⟨w.heap.size + 1, 0, none⟩ = some (.slice aob b.length cb) := by go_simp
    have x2 : w1.cell? ⟨w.heap.size + 1 + 1, 0, none⟩ = some (.slice aoc c.length cc) := by go_simp
    clear ch1 fh1 hb1
    go_wp2_with fail
    (go_at_call 31; ((with_reducible refine (sz_whole _ b (1048576 - a.length) _ (Hb.out.below BB.out) (by omega) (by omega)).mono ?_); rintro e w2 ⟨rfl, hb2⟩))
    rw [Hs1.out]
    replace x0 := (hb2.cell (p := ⟨w.heap.size, 0, none⟩) l0).trans x0
    replace l0 := World.block_lt_of_cell? _ _ x0
    replace x1 := (hb2.cell (p := ⟨w.heap.size + 1, 0, none⟩) l1).trans x1
    replace l1 := World.block_lt_of_cell? _ _ x1
    replace x2 := (hb2.cell (p := ⟨w.heap.size + 1 + 1, 0, none⟩) l2).trans x2
    replace l2 := World.block_lt_of_cell? _ _ x2
    replace BB := Lib.hid (show Below w.heap.size w w2 from BB.out.trans (hb2.mono BB.out.size))
    have zs2 := hb2.size
    clear hb2
    go_wp2_with fail
    (go_at_call 31; ((with_reducible refine (sz_whole _ c (1048576 - a.length - b.length) _ (Hc.out.below BB.out) (by omega) (by omega)).mono ?_); rintro e w3 ⟨rfl, hb3⟩))
    rw [Hs2.out]
    replace x0 := (hb3.cell (p := ⟨w.heap.size, 0, none⟩) l0).trans x0
    replace l0 := World.block_lt_of_cell? _ _ x0
    replace x1 := (hb3.cell (p := ⟨w.heap.size + 1, 0, none⟩) l1).trans x1
    replace l1 := World.block_lt_of_cell? _ _ x1
    replace x2 := (hb3.cell (p := ⟨w.heap.size + 1 + 1, 0, none⟩) l2).trans x2
    replace l2 := World.block_lt_of_cell? _ _ x2
    replace BB := Lib.hid (show Below w.heap.size w w3 from BB.out.trans (hb3.mono BB.out.size))
    have zs3 := hb3.size
    clear hb3
    go_wp2_with fail
    go_ret
    exact ⟨rfl, BB.out⟩
  have Hs2 := Lib.hid (szF_pos hbig2)
  have hla : a.length ≤ 1099511627776 := by omega
  have hlb : b.length ≤ 1099511627776 := by omega
  have hlc : c.length ≤ 1099511627776 := by omega
  have HR : (liftR m a b c).1.length ≤ 1048576 ∧ (liftR m a b c).2.1.length ≤ 1048576 := liftR_len m a b c
  obtain ⟨HR1, HR2⟩ := HR
  generalize hRe : liftR m a b c = R at *
  have HRe := Lib.hid hRe
  clear hRe
  go_enter Try.func8, Try.ntmps8
  go_wp2_with fail
  (go_at_call 31; ((with_reducible refine (sz_whole _ a (1048576) _ (Ha.out.below (by (repeat' (first | (with_reducible exact Below.refl _ _) | (with_reducible assumption) | (with_reducible refine Below.alloc ?_ ?_ _) | (with_reducible refine Below.setCell ?_ ?_ _) | (with_reducible refine Below.drew ?_) | (with_reducible refine Below.via (by assumption) ?_ ?_) | go_size)))) (by omega) (by omega)).mono ?_); rintro e w1 ⟨rfl, hb1⟩))
  rw [Hs0.out]
  have zs1 := hb1.size
  simp only [World.size_alloc] at zs1
  have BB := Lib.hid (show Below w.heap.size w w1 by (repeat' (first | (with_reducible exact Below.refl _ _) | (with_reducible assumption) | (with_reducible refine Below.alloc ?_ ?_ _) | (with_reducible refine Below.setCell ?_ ?_ _) | (with_reducible refine Below.drew ?_) | (with_reducible refine Below.via (by assumption) ?_ ?_) | go_size)))
  have l0 : w.heap.size < w1.heap.size := by omega
  have l1 : w.heap.size + 1 < w1.heap.size := by omega
  have l2 : w.heap.size + 1 + 1 < w1.heap.size := by omega
  obtain ⟨ch1, fh1⟩ := bcell hb1
  have x0 : w1.cell? ⟨w.heap.size, 0, none⟩ = some (.slice aoa a.length ca) := by go_simp
  have x1 : w1.cell? ⟨w.heap.size + 1, 0, none⟩ = some (.slice aob b.length cb) := by go_simp
  have x2 : w1.cell? ⟨w.heap.size + 1 + 1, 0, none⟩ = some (.slice aoc c.length cc) := by go_simp
  clear ch1 fh1 hb1
  go_wp2_with fail
  (go_at_call 31; ((with_reducible refine (sz_whole _ b (1048576 - a.length) _ (Hb.out.below BB.out) (by omega) (by omega)).mono ?_); rintro e w2 ⟨rfl, hb2⟩))
  rw [Hs1.out]
  replace x0 := (hb2.cell (p := ⟨w.heap.size, 0, none⟩) l0).trans x0
  replace l0 := World.block_lt_of_cell? _ _ x0
  replace x1 := (hb2.cell (p := ⟨w.heap.size + 1, 0, none⟩) l1).trans x1
  replace l1 := World.block_lt_of_cell? _ _ x1
  replace x2 := (hb2.cell (p := ⟨w.heap.size + 1 + 1, 0, none⟩) l2).trans x2
  replace l2 := World.block_lt_of_cell? _ _ x2
  replace BB := Lib.hid (show Below w.heap.size w w2 from BB.out.trans (hb2.mono BB.out.size))
  have zs2 := hb2.size
  clear hb2
  go_wp2_with fail
  (go_at_call 31; ((with_reducible refine (sz_whole _ c (1048576 - a.length - b.length) _ (Hc.out.below BB.out) (by omega) (by omega)).mono ?_); rintro e w3 ⟨rfl, hb3⟩))
  rw [Hs2.out]
  replace x0 := (hb3.cell (p := ⟨w.heap.size, 0, none⟩) l0).trans x0
  replace l0 := World.block_lt_of_cell? _ _ x0
  replace x1 := (hb3.cell (p := ⟨w.heap.size + 1, 0, none⟩) l1).trans x1
  replace l1 := World.block_lt_of_cell? _ _ x1
  replace x2 := (hb3.cell (p := ⟨w.heap.size + 1 + 1, 0, none⟩) l2).trans x2
  replace l2 := World.block_lt_of_cell? _ _ x2
  replace BB := Lib.hid (show Below w.heap.size w w3 from BB.out.trans (hb3.mono BB.out.size))
  have zs3 := hb3.size
  clear hb3
  have lx_x0 := World.block_lt_of_cell? _ _ x0
  simp only at lx_x0
  have lx_x1 := World.block_lt_of_cell? _ _ x1
  simp only at lx_x1
  have lx_x2 := World.block_lt_of_cell? _ _ x2
  simp only at lx_x2
  have bb0 := Below.refl w3.heap.size w3
  go_upto_region 11 with fail
  refine lawL_11 Ha Hb Hc hla hlb hlc HRe BB x0 x1 x2 ?_
  intro s8 s9 s10 wc _ _ _ _ _ _ _ _ _ _ _ _ _ _ _ _ _ _ _ _ _ _ _ _ _ _ _ _ _ _ _ _ _ _ _ _ _ _ _ _ _ _ _ _ _ _ _ _ _ _ _ _ _ _ _ _ _ _ _ _ _ _ _ _ _ _ _ _ _ _ _ _ _ _ _ _ _ _ _ _ _ _ _ _ _ _ _ _ _ _ _ _ _ _ _ _ _ _ _ _ _ _ _ _ _ _ _ _ _ _ _ _ _ _ _ _ _ _ _ _ _ _ _ _ _ _ _ _ _ _ _ _ _ _ _ _ _ _ _ _ _ _ _ _ _ _ _ _ _ _ _ _ _ _ _ _ _ _ _ hcut
  · skip
    obtain ⟨g8, p8, q8, g9, p9, q9, rfl, rfl, rfl, ⟨hg8, hg8b, y8, O8⟩, ⟨hg9, hg9b, y9, O9⟩, hbc⟩ := hcut
    replace O8 := Lib.hid O8
    replace O9 := Lib.hid O9
    generalize wc = wd at *
    replace x0 := (hbc.cell (p := ⟨w.heap.size, 0, none⟩) (World.block_lt_of_cell? _ _ x0)).trans x0
    replace x1 := (hbc.cell (p := ⟨w.heap.size + 1, 0, none⟩) (World.block_lt_of_cell? _ _ x1)).trans x1
    replace x2 := (hbc.cell (p := ⟨w.heap.size + 1 + 1, 0, none⟩) (World.block_lt_of_cell? _ _ x2)).trans x2
    have zz4 := hbc.size
    replace BB := Lib.hid (show Below w.heap.size w wd from BB.out.trans (hbc.mono BB.out.size))
    clear hbc
    have lx_x0 := World.block_lt_of_cell? _ _ x0
    simp only at lx_x0
    have lx_x1 := World.block_lt_of_cell? _ _ x1
    simp only at lx_x1
    have lx_x2 := World.block_lt_of_cell? _ _ x2
    simp only at lx_x2
    have lx_y8 := World.block_lt_of_cell? _ _ y8
    simp only at lx_y8
    have lx_y9 := World.block_lt_of_cell? _ _ y9
    simp only at lx_y9
    go_wp2_with fail
    (go_at_call 33; ((with_reducible refine (to_whole _ a _ (Ha.out.below (by have h := BB.out; (repeat' (first | (with_reducible exact Below.refl _ _) | (with_reducible assumption) | (with_reducible refine Below.alloc ?_ ?_ _) | (with_reducible refine Below.setCell ?_ ?_ _) | (with_reducible refine Below.drew ?_) | (with_reducible refine Below.via (by assumption) ?_ ?_) | go_size)))) hla).mono ?_); rintro e wx0 ⟨ux0, rfl, ox0, hbx0⟩))
    obtain ⟨px0, qx0, rfl⟩ := ox0.rd.shape
    have OX0 := Lib.hid (show OwR wx0 wd.heap.size wx0.heap.size _ _ by simpa using ox0.range)
    clear ox0
    have hB5 := (show Below wd.heap.size wd wx0 by (repeat' (first | (with_reducible exact Below.refl _ _) | (with_reducible assumption) | (with_reducible refine Below.alloc ?_ ?_ _) | (with_reducible refine Below.setCell ?_ ?_ _) | (with_reducible refine Below.drew ?_) | (with_reducible refine Below.via (by assumption) ?_ ?_) | go_size)))
    replace x0 := (hB5.cell (p := ⟨w.heap.size, 0, none⟩) (World.block_lt_of_cell? _ _ x0)).trans x0
    replace x1 := (hB5.cell (p := ⟨w.heap.size + 1, 0, none⟩) (World.block_lt_of_cell? _ _ x1)).trans x1
    replace x2 := (hB5.cell (p := ⟨w.heap.size + 1 + 1, 0, none⟩) (World.block_lt_of_cell? _ _ x2)).trans x2
    replace y8 := (hB5.cell (p := ⟨g8, 0, none⟩) (World.block_lt_of_cell? _ _ y8)).trans y8
    replace y9 := (hB5.cell (p := ⟨g9, 0, none⟩) (World.block_lt_of_cell? _ _ y9)).trans y9
    replace O8 := Lib.hid (O8.out.below hB5)
    replace O9 := Lib.hid (O9.out.below hB5)
    have zz6 := hB5.size
    replace BB := Lib.hid (show Below w.heap.size w wx0 from BB.out.trans (hB5.mono BB.out.size))
    clear hB5 hbx0
    have lx_x0 := World.block_lt_of_cell? _ _ x0
    simp only at lx_x0
    have lx_x1 := World.block_lt_of_cell? _ _ x1
    simp only at lx_x1
    have lx_x2 := World.block_lt_of_cell? _ _ x2
    simp only at lx_x2
    have lx_y8 := World.block_lt_of_cell? _ _ y8
    simp only at lx_y8
    have lx_y9 := World.block_lt_of_cell? _ _ y9
    simp only at lx_y9
    go_wp2_with fail
    (go_at_call 33; ((with_reducible refine (to_whole _ b _ (Hb.out.below (by have h := BB.out; (repeat' (first | (with_reducible exact Below.refl _ _) | (with_reducible assumption) | (with_reducible refine Below.alloc ?_ ?_ _) | (with_reducible refine Below.setCell ?_ ?_ _) | (with_reducible refine Below.drew ?_) | (with_reducible refine Below.via (by assumption) ?_ ?_) | go_size)))) hlb).mono ?_); rintro e wx1 ⟨ux1, rfl, ox1, hbx1⟩))
    obtain ⟨px1, qx1, rfl⟩ := ox1.rd.shape
    have OX1 := Lib.hid (show OwR wx1 (wx0.heap.size + 1) wx1.heap.size _ _ by simpa using ox1.range)
    clear ox1
    have hB7 := (show Below wx0.heap.size wx0 wx1 by (repeat' (first | (with_reducible exact Below.refl _ _) | (with_reducible assumption) | (with_reducible refine Below.alloc ?_ ?_ _) | (with_reducible refine Below.setCell ?_ ?_ _) | (with_reducible refine Below.drew ?_) | (with_reducible refine Below.via (by assumption) ?_ ?_) | go_size)))
    have y13 : wx1.cell? ⟨wx0.heap.size, 0, none⟩ = some (.slice px0 a.length qx0) := (hbx1.cell (p := ⟨wx0.heap.size, 0, none⟩) (by simp <;> omega)).trans (by go_simp)
    replace x0 := (hB7.cell (p := ⟨w.heap.size, 0, none⟩) (World.block_lt_of_cell? _ _ x0)).trans x0
    replace x1 := (hB7.cell (p := ⟨w.heap.size + 1, 0, none⟩) (World.block_lt_of_cell? _ _ x1)).trans x1
    replace x2 := (hB7.cell (p := ⟨w.heap.size + 1 + 1, 0, none⟩) (World.block_lt_of_cell? _ _ x2)).trans x2
    replace y8 := (hB7.cell (p := ⟨g8, 0, none⟩) (World.block_lt_of_cell? _ _ y8)).trans y8
    replace y9 := (hB7.cell (p := ⟨g9, 0, none⟩) (World.block_lt_of_cell? _ _ y9)).trans y9
    replace O8 := Lib.hid (O8.out.below hB7)
    replace O9 := Lib.hid (O9.out.below hB7)
    replace OX0 := Lib.hid (OX0.out.below hB7)
    have zz8 := hB7.size
    replace BB := Lib.hid (show Below w.heap.size w wx1 from BB.out.trans (hB7.mono BB.out.size))
    clear hB7 hbx1
    have lx_x0 := World.block_lt_of_cell? _ _ x0
    simp only at lx_x0
    have lx_x1 := World.block_lt_of_cell? _ _ x1
    simp only at lx_x1
    have lx_x2 := World.block_lt_of_cell? _ _ x2
    simp only at lx_x2
    have lx_y8 := World.block_lt_of_cell? _ _ y8
    simp only at lx_y8
    have lx_y9 := World.block_lt_of_cell? _ _ y9
    simp only at lx_y9
    have lx_y13 := World.block_lt_of_cell? _ _ y13
    simp only at lx_y13
    go_wp2_with fail
    (go_at_call 33; ((with_reducible refine (to_whole _ c _ (Hc.out.below (by have h := BB.out; (repeat' (first | (with_reducible exact Below.refl _ _) | (with_reducible assumption) | (with_reducible refine Below.alloc ?_ ?_ _) | (with_reducible refine Below.setCell ?_ ?_ _) | (with_reducible refine Below.drew ?_) | (with_reducible refine Below.via (by assumption) ?_ ?_) | go_size)))) hlc).mono ?_); rintro e wx2 ⟨ux2, rfl, ox2, hbx2⟩))
    obtain ⟨px2, qx2, rfl⟩ := ox2.rd.shape
    have OX2 := Lib.hid (show OwR wx2 (wx1.heap.size + 1) wx2.heap.size _ _ by simpa using ox2.range)
    clear ox2
    have hB9 := (show Below wx1.heap.size wx1 wx2 by (repeat' (first | (with_reducible exact Below.refl _ _) | (with_reducible assumption) | (with_reducible refine Below.alloc ?_ ?_ _) | (with_reducible refine Below.setCell ?_ ?_ _) | (with_reducible refine Below.drew ?_) | (with_reducible refine Below.via (by assumption) ?_ ?_) | go_size)))
    have y14 : wx2.cell? ⟨wx1.heap.size, 0, none⟩ = some (.slice px1 b.length qx1) := (hbx2.cell (p := ⟨wx1.heap.size, 0, none⟩) (by simp <;> omega)).trans (by go_simp)
    replace x0 := (hB9.cell (p := ⟨w.heap.size, 0, none⟩) (World.block_lt_of_cell? _ _ x0)).trans x0
    replace x1 := (hB9.cell (p := ⟨w.heap.size + 1, 0, none⟩) (World.block_lt_of_cell? _ _ x1)).trans x1
    replace x2 := (hB9.cell (p := ⟨w.heap.size + 1 + 1, 0, none⟩) (World.block_lt_of_cell? _ _ x2)).trans x2
    replace y8 := (hB9.cell (p := ⟨g8, 0, none⟩) (World.block_lt_of_cell? _ _ y8)).trans y8
    replace y9 := (hB9.cell (p := ⟨g9, 0, none⟩) (World.block_lt_of_cell? _ _ y9)).trans y9
    replace y13 := (hB9.cell (p := ⟨wx0.heap.size, 0, none⟩) (World.block_lt_of_cell? _ _ y13)).trans y13
    replace O8 := Lib.hid (O8.out.below hB9)
    replace O9 := Lib.hid (O9.out.below hB9)
    replace OX0 := Lib.hid (OX0.out.below hB9)
    replace OX1 := Lib.hid (OX1.out.below hB9)
    have zz10 := hB9.size
    replace BB := Lib.hid (show Below w.heap.size w wx2 from BB.out.trans (hB9.mono BB.out.size))
    clear hB9 hbx2
    have lx_x0 := World.block_lt_of_cell? _ _ x0
    simp only at lx_x0
    have lx_x1 := World.block_lt_of_cell? _ _ x1
    simp only at lx_x1
    have lx_x2 := World.block_lt_of_cell? _ _ x2
    simp only at lx_x2
    have lx_y8 := World.block_lt_of_cell? _ _ y8
    simp only at lx_y8
    have lx_y9 := World.block_lt_of_cell? _ _ y9
    simp only at lx_y9
    have lx_y13 := World.block_lt_of_cell? _ _ y13
    simp only at lx_y13
    have lx_y14 := World.block_lt_of_cell? _ _ y14
    simp only at lx_y14
    go_wp2_with fail
    (go_at_call 18; ((with_reducible refine (LiftPair_impl _ _ _ a b c m _ (OX0.out.rd.below (by (repeat' (first | (with_reducible exact Below.refl _ _) | (with_reducible assumption) | (with_reducible refine Below.alloc ?_ ?_ _) | (with_reducible refine Below.setCell ?_ ?_ _) | (with_reducible refine Below.drew ?_) | (with_reducible refine Below.via (by assumption) ?_ ?_) | go_size)))) (OX1.out.rd.below (by (repeat' (first | (with_reducible exact Below.refl _ _) | (with_reducible assumption) | (with_reducible refine Below.alloc ?_ ?_ _) | (with_reducible refine Below.setCell ?_ ?_ _) | (with_reducible refine Below.drew ?_) | (with_reducible refine Below.via (by assumption) ?_ ?_) | go_size)))) (OX2.out.rd.below (by (repeat' (first | (with_reducible exact Below.refl _ _) | (with_reducible assumption) | (with_reducible refine Below.alloc ?_ ?_ _) | (with_reducible refine Below.setCell ?_ ?_ _) | (with_reducible refine Below.drew ?_) | (with_reducible refine Below.via (by assumption) ?_ ?_) | go_size)))) hla hlb hlc).mono ?_); rintro e wg ⟨ug, ug2, mid, rfl, hm1, hm2, og, og2, hbg⟩))
    (try rw [HRe.out] at og)
    (try rw [HRe.out] at og2)
    (try rw [HRe.out])
    simp only [World.size_alloc] at hm1
    obtain ⟨pg, qg, rfl⟩ := og.rd.shape
    obtain ⟨pg2, qg2, rfl⟩ := og2.rd.shape
    have OG := Lib.hid (show OwR wg (wx2.heap.size + 1) mid _ _ by simpa using og)
    have OG2 := Lib.hid og2
    clear og og2
    have hB11 := (show Below wx2.heap.size wx2 wg by (repeat' (first | (with_reducible exact Below.refl _ _) | (with_reducible assumption) | (with_reducible refine Below.alloc ?_ ?_ _) | (with_reducible refine Below.setCell ?_ ?_ _) | (with_reducible refine Below.drew ?_) | (with_reducible refine Below.via (by assumption) ?_ ?_) | go_size)))
    have y15 : wg.cell? ⟨wx2.heap.size, 0, none⟩ = some (.slice px2 c.length qx2) := (hbg.cell (p := ⟨wx2.heap.size, 0, none⟩) (by simp <;> omega)).trans (by go_simp)
    replace x0 := (hB11.cell (p := ⟨w.heap.size, 0, none⟩) (World.block_lt_of_cell? _ _ x0)).trans x0
    replace x1 := (hB11.cell (p := ⟨w.heap.size + 1, 0, none⟩) (World.block_lt_of_cell? _ _ x1)).trans x1
    replace x2 := (hB11.cell (p := ⟨w.heap.size + 1 + 1, 0, none⟩) (World.block_lt_of_cell? _ _ x2)).trans x2
    replace y8 := (hB11.cell (p := ⟨g8, 0, none⟩) (World.block_lt_of_cell? _ _ y8)).trans y8
    replace y9 := (hB11.cell (p := ⟨g9, 0, none⟩) (World.block_lt_of_cell? _ _ y9)).trans y9
    replace y13 := (hB11.cell (p := ⟨wx0.heap.size, 0, none⟩) (World.block_lt_of_cell? _ _ y13)).trans y13
    replace y14 := (hB11.cell (p := ⟨wx1.heap.size, 0, none⟩) (World.block_lt_of_cell? _ _ y14)).trans y14
    replace O8 := Lib.hid (O8.out.below hB11)
    replace O9 := Lib.hid (O9.out.below hB11)
    replace OX0 := Lib.hid (OX0.out.below hB11)
    replace OX1 := Lib.hid (OX1.out.below hB11)
    replace OX2 := Lib.hid (OX2.out.below hB11)
    have zz12 := hB11.size
    replace BB := Lib.hid (show Below w.heap.size w wg from BB.out.trans (hB11.mono BB.out.size))
    clear hB11 hbg
    have lx_x0 := World.block_lt_of_cell? _ _ x0
    simp only at lx_x0
    have lx_x1 := World.block_lt_of_cell? _ _ x1
    simp only at lx_x1
    have lx_x2 := World.block_lt_of_cell? _ _ x2
    simp only at lx_x2
    have lx_y8 := World.block_lt_of_cell? _ _ y8
    simp only at lx_y8
    have lx_y9 := World.block_lt_of_cell? _ _ y9
    simp only at lx_y9
    have lx_y13 := World.block_lt_of_cell? _ _ y13
    simp only at lx_y13
    have lx_y14 := World.block_lt_of_cell? _ _ y14
    simp only at lx_y14
    have lx_y15 := World.block_lt_of_cell? _ _ y15
    simp only at lx_y15
    go_wp2_with fail
    (go_at_call 35; ((with_reducible refine (eq_whole _ _ R.1 _ (OG.out.rd.below (by (repeat' (first | (with_reducible exact Below.refl _ _) | (with_reducible assumption) | (with_reducible refine Below.alloc ?_ ?_ _) | (with_reducible refine Below.setCell ?_ ?_ _) | (with_reducible refine Below.drew ?_) | (with_reducible refine Below.via (by assumption) ?_ ?_) | go_size)))) (O8.out.rd.below (by (repeat' (first | (with_reducible exact Below.refl _ _) | (with_reducible assumption) | (with_reducible refine Below.alloc ?_ ?_ _) | (with_reducible refine Below.setCell ?_ ?_ _) | (with_reducible refine Below.drew ?_) | (with_reducible refine Below.via (by assumption) ?_ ?_) | go_size)))) (by omega)).mono ?_); rintro e wh1 ⟨rfl, hbe1⟩))
    have hB13 := (show Below wg.heap.size wg wh1 by (repeat' (first | (with_reducible exact Below.refl _ _) | (with_reducible assumption) | (with_reducible refine Below.alloc ?_ ?_ _) | (with_reducible refine Below.setCell ?_ ?_ _) | (with_reducible refine Below.drew ?_) | (with_reducible refine Below.via (by assumption) ?_ ?_) | go_size)))
    have y16 : wh1.cell? ⟨wg.heap.size, 0, none⟩ = some (.slice pg R.1.length qg) := (hbe1.cell (p := ⟨wg.heap.size, 0, none⟩) (by simp <;> omega)).trans (by go_simp)
    have y17 : wh1.cell? ⟨wg.heap.size + 1, 0, none⟩ = some (.slice pg2 R.2.1.length qg2) := (hbe1.cell (p := ⟨wg.heap.size + 1, 0, none⟩) (by simp <;> omega)).trans (by go_simp)
    replace x0 := (hB13.cell (p := ⟨w.heap.size, 0, none⟩) (World.block_lt_of_cell? _ _ x0)).trans x0
    replace x1 := (hB13.cell (p := ⟨w.heap.size + 1, 0, none⟩) (World.block_lt_of_cell? _ _ x1)).trans x1
    replace x2 := (hB13.cell (p := ⟨w.heap.size + 1 + 1, 0, none⟩) (World.block_lt_of_cell? _ _ x2)).trans x2
    replace y8 := (hB13.cell (p := ⟨g8, 0, none⟩) (World.block_lt_of_cell? _ _ y8)).trans y8
    replace y9 := (hB13.cell (p := ⟨g9, 0, none⟩) (World.block_lt_of_cell? _ _ y9)).trans y9
    replace y13 := (hB13.cell (p := ⟨wx0.heap.size, 0, none⟩) (World.block_lt_of_cell? _ _ y13)).trans y13
    replace y14 := (hB13.cell (p := ⟨wx1.heap.size, 0, none⟩) (World.block_lt_of_cell? _ _ y14)).trans y14
    replace y15 := (hB13.cell (p := ⟨wx2.heap.size, 0, none⟩) (World.block_lt_of_cell? _ _ y15)).trans y15
    replace O8 := Lib.hid (O8.out.below hB13)
    replace O9 := Lib.hid (O9.out.below hB13)
    replace OX0 := Lib.hid (OX0.out.below hB13)
    replace OX1 := Lib.hid (OX1.out.below hB13)
    replace OX2 := Lib.hid (OX2.out.below hB13)
    replace OG := Lib.hid (OG.out.below hB13)
    replace OG2 := Lib.hid (OG2.out.below hB13)
    have zz14 := hB13.size
    replace BB := Lib.hid (show Below w.heap.size w wh1 from BB.out.trans (hB13.mono BB.out.size))
    clear hB13 hbe1
    have lx_x0 := World.block_lt_of_cell? _ _ x0
    simp only at lx_x0
    have lx_x1 := World.block_lt_of_cell? _ _ x1
    simp only at lx_x1
    have lx_x2 := World.block_lt_of_cell? _ _ x2
    simp only at lx_x2
    have lx_y8 := World.block_lt_of_cell? _ _ y8
    simp only at lx_y8
    have lx_y9 := World.block_lt_of_cell? _ _ y9
    simp only at lx_y9
    have lx_y13 := World.block_lt_of_cell? _ _ y13
    simp only at lx_y13
    have lx_y14 := World.block_lt_of_cell? _ _ y14
    simp only at lx_y14
    have lx_y15 := World.block_lt_of_cell? _ _ y15
    simp only at lx_y15
    have lx_y16 := World.block_lt_of_cell? _ _ y16
    simp only at lx_y16
    have lx_y17 := World.block_lt_of_cell? _ _ y17
    simp only at lx_y17
    go_wp2_with fail
    (go_at_call 35; ((with_reducible refine (eq_whole _ _ R.2.1 _ (OG2.out.rd.below (by (repeat' (first | (with_reducible exact Below.refl _ _) | (with_reducible assumption) | (with_reducible refine Below.alloc ?_ ?_ _) | (with_reducible refine Below.setCell ?_ ?_ _) | (with_reducible refine Below.drew ?_) | (with_reducible refine Below.via (by assumption) ?_ ?_) | go_size)))) (O9.out.rd.below (by (repeat' (first | (with_reducible exact Below.refl _ _) | (with_reducible assumption) | (with_reducible refine Below.alloc ?_ ?_ _) | (with_reducible refine Below.setCell ?_ ?_ _) | (with_reducible refine Below.drew ?_) | (with_reducible refine Below.via (by assumption) ?_ ?_) | go_size)))) (by omega)).mono ?_); rintro e wh2 ⟨rfl, hbe2⟩))
    have hB15 := (show Below wh1.heap.size wh1 wh2 by (repeat' (first | (with_reducible exact Below.refl _ _) | (with_reducible assumption) | (with_reducible refine Below.alloc ?_ ?_ _) | (with_reducible refine Below.setCell ?_ ?_ _) | (with_reducible refine Below.drew ?_) | (with_reducible refine Below.via (by assumption) ?_ ?_) | go_size)))
    replace x0 := (hB15.cell (p := ⟨w.heap.size, 0, none⟩) (World.block_lt_of_cell? _ _ x0)).trans x0
    replace x1 := (hB15.cell (p := ⟨w.heap.size + 1, 0, none⟩) (World.block_lt_of_cell? _ _ x1)).trans x1
    replace x2 := (hB15.cell (p := ⟨w.heap.size + 1 + 1, 0, none⟩) (World.block_lt_of_cell? _ _ x2)).trans x2
    replace y8 := (hB15.cell (p := ⟨g8, 0, none⟩) (World.block_lt_of_cell? _ _ y8)).trans y8
    replace y9 := (hB15.cell (p := ⟨g9, 0, none⟩) (World.block_lt_of_cell? _ _ y9)).trans y9
    replace y13 := (hB15.cell (p := ⟨wx0.heap.size, 0, none⟩) (World.block_lt_of_cell? _ _ y13)).trans y13
    replace y14 := (hB15.cell (p := ⟨wx1.heap.size, 0, none⟩) (World.block_lt_of_cell? _ _ y14)).trans y14
    replace y15 := (hB15.cell (p := ⟨wx2.heap.size, 0, none⟩) (World.block_lt_of_cell? _ _ y15)).trans y15
    replace y16 := (hB15.cell (p := ⟨wg.heap.size, 0, none⟩) (World.block_lt_of_cell? _ _ y16)).trans y16
    replace y17 := (hB15.cell (p := ⟨wg.heap.size + 1, 0, none⟩) (World.block_lt_of_cell? _ _ y17)).trans y17
    replace O8 := Lib.hid (O8.out.below hB15)
    replace O9 := Lib.hid (O9.out.below hB15)
    replace OX0 := Lib.hid (OX0.out.below hB15)
    replace OX1 := Lib.hid (OX1.out.below hB15)
    replace OX2 := Lib.hid (OX2.out.below hB15)
    replace OG := Lib.hid (OG.out.below hB15)
    replace OG2 := Lib.hid (OG2.out.below hB15)
    have zz16 := hB15.size
    replace BB := Lib.hid (show Below w.heap.size w wh2 from BB.out.trans (hB15.mono BB.out.size))
    clear hB15 hbe2
    have lx_x0 := World.block_lt_of_cell? _ _ x0
    simp only at lx_x0
    have lx_x1 := World.block_lt_of_cell? _ _ x1
    simp only at lx_x1
    have lx_x2 := World.block_lt_of_cell? _ _ x2
    simp only at lx_x2
    have lx_y8 := World.block_lt_of_cell? _ _ y8
    simp only at lx_y8
    have lx_y9 := World.block_lt_of_cell? _ _ y9
    simp only at lx_y9
    have lx_y13 := World.block_lt_of_cell? _ _ y13
    simp only at lx_y13
    have lx_y14 := World.block_lt_of_cell? _ _ y14
    simp only at lx_y14
    have lx_y15 := World.block_lt_of_cell? _ _ y15
    simp only at lx_y15
    have lx_y16 := World.block_lt_of_cell? _ _ y16
    simp only at lx_y16
    have lx_y17 := World.block_lt_of_cell? _ _ y17
    simp only at lx_y17
    go_wp2_with fail
    go_region_held3 (fun w' => w'.cell? ⟨wx0.heap.size, 0, none⟩ = some (.slice px0 a.length qx0) ∧ w'.cell? ⟨w.heap.size, 0, none⟩ = some (.slice aoa a.length ca))
      (((try dsimp only); (try go_split_ands); refine ⟨?_, ?_⟩ <;> (first | assumption | (rw [hbe.cell (by first | omega | (simp <;> omega))]; assumption) | (rw [hbd.cell (by first | omega | (simp <;> omega))]; assumption) | (go_keep; done))))
      (first
        | (go_at_call 33; ((with_reducible refine (to_whole _ a _ (Ha.out.below (by have h := BB.out; (repeat' (first | (with_reducible exact Below.refl _ _) | (with_reducible assumption) | (with_reducible refine Below.alloc ?_ ?_ _) | (with_reducible refine Below.setCell ?_ ?_ _) | (with_reducible refine Below.drew ?_) | (with_reducible refine Below.via (by assumption) ?_ ?_) | go_size)))) hla).mono ?_); rintro e wd0 ⟨ud0, rfl, od0, hbd⟩; have zzd0 := hbd.size; (try simp only [World.size_alloc, World.size_drew, World.size_setCell] at zzd0); obtain ⟨pd0, qd0, rfl⟩ := od0.rd.shape))
        | (go_at_call 35; ((with_reducible refine (eq_whole _ _ a _ (OX0.out.rd.below (by (repeat' (first | (with_reducible exact Below.refl _ _) | (with_reducible assumption) | (with_reducible refine Below.alloc ?_ ?_ _) | (with_reducible refine Below.setCell ?_ ?_ _) | (with_reducible refine Below.drew ?_) | (with_reducible refine Below.via (by assumption) ?_ ?_) | go_size)))) (od0.rd.below (by (repeat' (first | (with_reducible exact Below.refl _ _) | (with_reducible assumption) | (with_reducible refine Below.alloc ?_ ?_ _) | (with_reducible refine Below.setCell ?_ ?_ _) | (with_reducible refine Below.drew ?_) | (with_reducible refine Below.via (by assumption) ?_ ?_) | go_size)))) hla).mono ?_); rintro e we0 ⟨rfl, hbe⟩; have zze0 := hbe.size; (try simp only [World.size_alloc, World.size_drew, World.size_setCell] at zze0))))
    have hBr0 := (show Below wh2.heap.size wh2 we0 by (repeat' (first | (with_reducible exact Below.refl _ _) | (with_reducible assumption) | (with_reducible refine Below.alloc ?_ ?_ _) | (with_reducible refine Below.setCell ?_ ?_ _) | (with_reducible refine Below.drew ?_) | (with_reducible refine Below.via (by assumption) ?_ ?_) | go_size)))
    replace x0 := (hBr0.cell (p := ⟨w.heap.size, 0, none⟩) (World.block_lt_of_cell? _ _ x0)).trans x0
    replace x1 := (hBr0.cell (p := ⟨w.heap.size + 1, 0, none⟩) (World.block_lt_of_cell? _ _ x1)).trans x1
    replace x2 := (hBr0.cell (p := ⟨w.heap.size + 1 + 1, 0, none⟩) (World.block_lt_of_cell? _ _ x2)).trans x2
    replace y8 := (hBr0.cell (p := ⟨g8, 0, none⟩) (World.block_lt_of_cell? _ _ y8)).trans y8
    replace y9 := (hBr0.cell (p := ⟨g9, 0, none⟩) (World.block_lt_of_cell? _ _ y9)).trans y9
    replace y13 := (hBr0.cell (p := ⟨wx0.heap.size, 0, none⟩) (World.block_lt_of_cell? _ _ y13)).trans y13
    replace y14 := (hBr0.cell (p := ⟨wx1.heap.size, 0, none⟩) (World.block_lt_of_cell? _ _ y14)).trans y14
    replace y15 := (hBr0.cell (p := ⟨wx2.heap.size, 0, none⟩) (World.block_lt_of_cell? _ _ y15)).trans y15
    replace y16 := (hBr0.cell (p := ⟨wg.heap.size, 0, none⟩) (World.block_lt_of_cell? _ _ y16)).trans y16
    replace y17 := (hBr0.cell (p := ⟨wg.heap.size + 1, 0, none⟩) (World.block_lt_of_cell? _ _ y17)).trans y17
    replace O8 := Lib.hid (O8.out.below hBr0)
    replace O9 := Lib.hid (O9.out.below hBr0)
    replace OX0 := Lib.hid (OX0.out.below hBr0)
    replace OX1 := Lib.hid (OX1.out.below hBr0)
    replace OX2 := Lib.hid (OX2.out.below hBr0)
    replace OG := Lib.hid (OG.out.below hBr0)
    replace OG2 := Lib.hid (OG2.out.below hBr0)
    have zz17 := hBr0.size
    replace BB := Lib.hid (show Below w.heap.size w we0 from BB.out.trans (hBr0.mono BB.out.size))
    clear hBr0 hbd hbe od0
    have lx_x0 := World.block_lt_of_cell? _ _ x0
    simp only at lx_x0
    have lx_x1 := World.block_lt_of_cell? _ _ x1
    simp only at lx_x1
    have lx_x2 := World.block_lt_of_cell? _ _ x2
    simp only at lx_x2
    have lx_y8 := World.block_lt_of_cell? _ _ y8
    simp only at lx_y8
    have lx_y9 := World.block_lt_of_cell? _ _ y9
    simp only at lx_y9
    have lx_y13 := World.block_lt_of_cell? _ _ y13
    simp only at lx_y13
    have lx_y14 := World.block_lt_of_cell? _ _ y14
    simp only at lx_y14
    have lx_y15 := World.block_lt_of_cell? _ _ y15
    simp only at lx_y15
    have lx_y16 := World.block_lt_of_cell? _ _ y16
    simp only at lx_y16
    have lx_y17 := World.block_lt_of_cell? _ _ y17
    simp only at lx_y17
    go_wp2_with fail
    go_region_held3 (fun w' => w'.cell? ⟨wx1.heap.size, 0, none⟩ = some (.slice px1 b.length qx1) ∧ w'.cell? ⟨w.heap.size + 1, 0, none⟩ = some (.slice aob b.length cb))
      (((try dsimp only); (try go_split_ands); refine ⟨?_, ?_⟩ <;> (first | assumption | (rw [hbe.cell (by first | omega | (simp <;> omega))]; assumption) | (rw [hbd.cell (by first | omega | (simp <;> omega))]; assumption) | (go_keep; done))))
      (first
        | (go_at_call 33; ((with_reducible refine (to_whole _ b _ (Hb.out.below (by have h := BB.out; (repeat' (first | (with_reducible exact Below.refl _ _) | (with_reducible assumption) | (with_reducible refine Below.alloc ?_ ?_ _) | (with_reducible refine Below.setCell ?_ ?_ _) | (with_reducible refine Below.drew ?_) | (with_reducible refine Below.via (by assumption) ?_ ?_) | go_size)))) hlb).mono ?_); rintro e wd1 ⟨ud1, rfl, od1, hbd⟩; have zzd1 := hbd.size; (try simp only [World.size_alloc, World.size_drew, World.size_setCell] at zzd1); obtain ⟨pd1, qd1, rfl⟩ := od1.rd.shape))
        | (go_at_call 35; ((with_reducible refine (eq_whole _ _ b _ (OX1.out.rd.below (by (repeat' (first | (with_reducible exact Below.refl _ _) | (with_reducible assumption) | (with_reducible refine Below.alloc ?_ ?_ _) | (with_reducible refine Below.setCell ?_ ?_ _) | (with_reducible refine Below.drew ?_) | (with_reducible refine Below.via (by assumption) ?_ ?_) | go_size)))) (od1.rd.below (by (repeat' (first | (with_reducible exact Below.refl _ _) | (with_reducible assumption) | (with_reducible refine Below.alloc ?_ ?_ _) | (with_reducible refine Below.setCell ?_ ?_ _) | (with_reducible refine Below.drew ?_) | (with_reducible refine Below.via (by assumption) ?_ ?_) | go_size)))) hlb).mono ?_); rintro e we1 ⟨rfl, hbe⟩; have zze1 := hbe.size; (try simp only [World.size_alloc, World.size_drew, World.size_setCell] at zze1))))
    have hBr1 := (show Below we0.heap.size we0 we1 by (repeat' (first | (with_reducible exact Below.refl _ _) | (with_reducible assumption) | (with_reducible refine Below.alloc ?_ ?_ _) | (with_reducible refine Below.setCell ?_ ?_ _) | (with_reducible refine Below.drew ?_) | (with_reducible refine Below.via (by assumption) ?_ ?_) | go_size)))
    replace x0 := (hBr1.cell (p := ⟨w.heap.size, 0, none⟩) (World.block_lt_of_cell? _ _ x0)).trans x0
    replace x1 := (hBr1.cell (p := ⟨w.heap.size + 1, 0, none⟩) (World.block_lt_of_cell? _ _ x1)).trans x1
    replace x2 := (hBr1.cell (p := ⟨w.heap.size + 1 + 1, 0, none⟩) (World.block_lt_of_cell? _ _ x2)).trans x2
    replace y8 := (hBr1.cell (p := ⟨g8, 0, none⟩) (World.block_lt_of_cell? _ _ y8)).trans y8
    replace y9 := (hBr1.cell (p := ⟨g9, 0, none⟩) (World.block_lt_of_cell? _ _ y9)).trans y9
    replace y13 := (hBr1.cell (p := ⟨wx0.heap.size, 0, none⟩) (World.block_lt_of_cell? _ _ y13)).trans y13
    replace y14 := (hBr1.cell (p := ⟨wx1.heap.size, 0, none⟩) (World.block_lt_of_cell? _ _ y14)).trans y14
    replace y15 := (hBr1.cell (p := ⟨wx2.heap.size, 0, none⟩) (World.block_lt_of_cell? _ _ y15)).trans y15
    replace y16 := (hBr1.cell (p := ⟨wg.heap.size, 0, none⟩) (World.block_lt_of_cell? _ _ y16)).trans y16
    replace y17 := (hBr1.cell (p := ⟨wg.heap.size + 1, 0, none⟩) (World.block_lt_of_cell? _ _ y17)).trans y17
    replace O8 := Lib.hid (O8.out.below hBr1)
    replace O9 := Lib.hid (O9.out.below hBr1)
    replace OX0 := Lib.hid (OX0.out.below hBr1)
    replace OX1 := Lib.hid (OX1.out.below hBr1)
    replace OX2 := Lib.hid (OX2.out.below hBr1)
    replace OG := Lib.hid (OG.out.below hBr1)
    replace OG2 := Lib.hid (OG2.out.below hBr1)
    have zz18 := hBr1.size
    replace BB := Lib.hid (show Below w.heap.size w we1 from BB.out.trans (hBr1.mono BB.out.size))
    clear hBr1 hbd hbe od1
    have lx_x0 := World.block_lt_of_cell? _ _ x0
    simp only at lx_x0
    have lx_x1 := World.block_lt_of_cell? _ _ x1
    simp only at lx_x1
    have lx_x2 := World.block_lt_of_cell? _ _ x2
    simp only at lx_x2
    have lx_y8 := World.block_lt_of_cell? _ _ y8
    simp only at lx_y8
    have lx_y9 := World.block_lt_of_cell? _ _ y9
    simp only at lx_y9
    have lx_y13 := World.block_lt_of_cell? _ _ y13
    simp only at lx_y13
    have lx_y14 := World.block_lt_of_cell? _ _ y14
    simp only at lx_y14
    have lx_y15 := World.block_lt_of_cell? _ _ y15
    simp only at lx_y15
    have lx_y16 := World.block_lt_of_cell? _ _ y16
    simp only at lx_y16
    have lx_y17 := World.block_lt_of_cell? _ _ y17
    simp only at lx_y17
    go_wp2_with fail
    go_region_held3 (fun w' => w'.cell? ⟨wx2.heap.size, 0, none⟩ = some (.slice px2 c.length qx2) ∧ w'.cell? ⟨w.heap.size + 1 + 1, 0, none⟩ = some (.slice aoc c.length cc))
      (((try dsimp only); (try go_split_ands); refine ⟨?_, ?_⟩ <;> (first | assumption | (rw [hbe.cell (by first | omega | (simp <;> omega))]; assumption) | (rw [hbd.cell (by first | omega | (simp <;> omega))]; assumption) | (go_keep; done))))
      (first
        | (go_at_call 33; ((with_reducible refine (to_whole _ c _ (Hc.out.below (by have h := BB.out; (repeat' (first | (with_reducible exact Below.refl _ _) | (with_reducible assumption) | (with_reducible refine Below.alloc ?_ ?_ _) | (with_reducible refine Below.setCell ?_ ?_ _) | (with_reducible refine Below.drew ?_) | (with_reducible refine Below.via (by assumption) ?_ ?_) | go_size)))) hlc).mono ?_); rintro e wd2 ⟨ud2, rfl, od2, hbd⟩; have zzd2 := hbd.size; (try simp only [World.size_alloc, World.size_drew, World.size_setCell] at zzd2); obtain ⟨pd2, qd2, rfl⟩ := od2.rd.shape))
        | (go_at_call 35; ((with_reducible refine (eq_whole _ _ c _ (OX2.out.rd.below (by (repeat' (first | (with_reducible exact Below.refl _ _) | (with_reducible assumption) | (with_reducible refine Below.alloc ?_ ?_ _) | (with_reducible refine Below.setCell ?_ ?_ _) | (with_reducible refine Below.drew ?_) | (with_reducible refine Below.via (by assumption) ?_ ?_) | go_size)))) (od2.rd.below (by (repeat' (first | (with_reducible exact Below.refl _ _) | (with_reducible assumption) | (with_reducible refine Below.alloc ?_ ?_ _) | (with_reducible refine Below.setCell ?_ ?_ _) | (with_reducible refine Below.drew ?_) | (with_reducible refine Below.via (by assumption) ?_ ?_) | go_size)))) hlc).mono ?_); rintro e we2 ⟨rfl, hbe⟩; have zze2 := hbe.size; (try simp only [World.size_alloc, World.size_drew, World.size_setCell] at zze2))))
    have hBr2 := (show Below we1.heap.size we1 we2 by (repeat' (first | (with_reducible exact Below.refl _ _) | (with_reducible assumption) | (with_reducible refine Below.alloc ?_ ?_ _) | (with_reducible refine Below.setCell ?_ ?_ _) | (with_reducible refine Below.drew ?_) | (with_reducible refine Below.via (by assumption) ?_ ?_) | go_size)))
    replace x0 := (hBr2.cell (p := ⟨w.heap.size, 0, none⟩) (World.block_lt_of_cell? _ _ x0)).trans x0
    replace x1 := (hBr2.cell (p := ⟨w.heap.size + 1, 0, none⟩) (World.block_lt_of_cell? _ _ x1)).trans x1
    replace x2 := (hBr2.cell (p := ⟨w.heap.size + 1 + 1, 0, none⟩) (World.block_lt_of_cell? _ _ x2)).trans x2
    replace y8 := (hBr2.cell (p := ⟨g8, 0, none⟩) (World.block_lt_of_cell? _ _ y8)).trans y8
    replace y9 := (hBr2.cell (p := ⟨g9, 0, none⟩) (World.block_lt_of_cell? _ _ y9)).trans y9
    replace y13 := (hBr2.cell (p := ⟨wx0.heap.size, 0, none⟩) (World.block_lt_of_cell? _ _ y13)).trans y13
    replace y14 := (hBr2.cell (p := ⟨wx1.heap.size, 0, none⟩) (World.block_lt_of_cell? _ _ y14)).trans y14
    replace y15 := (hBr2.cell (p := ⟨wx2.heap.size, 0, none⟩) (World.block_lt_of_cell? _ _ y15)).trans y15
    replace y16 := (hBr2.cell (p := ⟨wg.heap.size, 0, none⟩) (World.block_lt_of_cell? _ _ y16)).trans y16
    replace y17 := (hBr2.cell (p := ⟨wg.heap.size + 1, 0, none⟩) (World.block_lt_of_cell? _ _ y17)).trans y17
    replace O8 := Lib.hid (O8.out.below hBr2)
    replace O9 := Lib.hid (O9.out.below hBr2)
    replace OX0 := Lib.hid (OX0.out.below hBr2)
    replace OX1 := Lib.hid (OX1.out.below hBr2)
    replace OX2 := Lib.hid (OX2.out.below hBr2)
    replace OG := Lib.hid (OG.out.below hBr2)
    replace OG2 := Lib.hid (OG2.out.below hBr2)
    have zz19 := hBr2.size
    replace BB := Lib.hid (show Below w.heap.size w we2 from BB.out.trans (hBr2.mono BB.out.size))
    clear hBr2 hbd hbe od2
    have lx_x0 := World.block_lt_of_cell? _ _ x0
    simp only at lx_x0
    have lx_x1 := World.block_lt_of_cell? _ _ x1
    simp only at lx_x1
    have lx_x2 := World.block_lt_of_cell? _ _ x2
    simp only at lx_x2
    have lx_y8 := World.block_lt_of_cell? _ _ y8
    simp only at lx_y8
    have lx_y9 := World.block_lt_of_cell? _ _ y9
    simp only at lx_y9
    have lx_y13 := World.block_lt_of_cell? _ _ y13
    simp only at lx_y13
    have lx_y14 := World.block_lt_of_cell? _ _ y14
    simp only at lx_y14
    have lx_y15 := World.block_lt_of_cell? _ _ y15
    simp only at lx_y15
    have lx_y16 := World.block_lt_of_cell? _ _ y16
    simp only at lx_y16
    have lx_y17 := World.block_lt_of_cell? _ _ y17
    simp only at lx_y17
    go_wp2_with fail
    (go_at_call 36; ((with_reducible refine (mark_whole _ a wd.heap.size wx0.heap.size (1) _ OX0.out (by omega) (by omega) (by omega)).mono ?_); rintro e wm0 ⟨rfl, om20, hb20⟩))
    replace OX0 := Lib.hid (show OwR wm0 wd.heap.size wx0.heap.size _ _ from ⟨om20, OX0.out.2⟩)
    clear om20
    replace x0 := (hb20.cell (p := ⟨w.heap.size, 0, none⟩) (World.block_lt_of_cell? _ _ x0) (by simp only; omega)).trans x0
    replace x1 := (hb20.cell (p := ⟨w.heap.size + 1, 0, none⟩) (World.block_lt_of_cell? _ _ x1) (by simp only; omega)).trans x1
    replace x2 := (hb20.cell (p := ⟨w.heap.size + 1 + 1, 0, none⟩) (World.block_lt_of_cell? _ _ x2) (by simp only; omega)).trans x2
    replace y8 := (hb20.cell (p := ⟨g8, 0, none⟩) (World.block_lt_of_cell? _ _ y8) (by simp only; omega)).trans y8
    replace y9 := (hb20.cell (p := ⟨g9, 0, none⟩) (World.block_lt_of_cell? _ _ y9) (by simp only; omega)).trans y9
    replace y13 := (hb20.cell (p := ⟨wx0.heap.size, 0, none⟩) (World.block_lt_of_cell? _ _ y13) (by simp only; omega)).trans y13
    replace y14 := (hb20.cell (p := ⟨wx1.heap.size, 0, none⟩) (World.block_lt_of_cell? _ _ y14) (by simp only; omega)).trans y14
    replace y15 := (hb20.cell (p := ⟨wx2.heap.size, 0, none⟩) (World.block_lt_of_cell? _ _ y15) (by simp only; omega)).trans y15
    replace y16 := (hb20.cell (p := ⟨wg.heap.size, 0, none⟩) (World.block_lt_of_cell? _ _ y16) (by simp only; omega)).trans y16
    replace y17 := (hb20.cell (p := ⟨wg.heap.size + 1, 0, none⟩) (World.block_lt_of_cell? _ _ y17) (by simp only; omega)).trans y17
    replace O8 := Lib.hid (O8.out.only hb20 (by omega))
    replace O9 := Lib.hid (O9.out.only hb20 (by omega))
    replace OX1 := Lib.hid (OX1.out.only hb20 (by omega))
    replace OX2 := Lib.hid (OX2.out.only hb20 (by omega))
    replace OG := Lib.hid (OG.out.only hb20 (by omega))
    replace OG2 := Lib.hid (OG2.out.only hb20 (by omega))
    have zz20 := hb20.size
    replace BB := Lib.hid (show Below w.heap.size w wm0 from BB.out.trans (hb20.toBelow (by omega) (by omega)))
    clear hb20
    have lx_x0 := World.block_lt_of_cell? _ _ x0
    simp only at lx_x0
    have lx_x1 := World.block_lt_of_cell? _ _ x1
    simp only at lx_x1
    have lx_x2 := World.block_lt_of_cell? _ _ x2
    simp only at lx_x2
    have lx_y8 := World.block_lt_of_cell? _ _ y8
    simp only at lx_y8
    have lx_y9 := World.block_lt_of_cell? _ _ y9
    simp only at lx_y9
    have lx_y13 := World.block_lt_of_cell? _ _ y13
    simp only at lx_y13
    have lx_y14 := World.block_lt_of_cell? _ _ y14
    simp only at lx_y14
    have lx_y15 := World.block_lt_of_cell? _ _ y15
    simp only at lx_y15
    have lx_y16 := World.block_lt_of_cell? _ _ y16
    simp only at lx_y16
    have lx_y17 := World.block_lt_of_cell? _ _ y17
    simp only at lx_y17
    clear OX0
    go_wp2_with fail
    (go_at_call 36; ((with_reducible refine (mark_whole _ b (wx0.heap.size + 1) wx1.heap.size (1 + a.length) _ OX1.out (by omega) (by omega) (by omega)).mono ?_); rintro e wm1 ⟨rfl, om21, hb21⟩))
    replace OX1 := Lib.hid (show OwR wm1 (wx0.heap.size + 1) wx1.heap.size _ _ from ⟨om21, OX1.out.2⟩)
    clear om21
    replace x0 := (hb21.cell (p := ⟨w.heap.size, 0, none⟩) (World.block_lt_of_cell? _ _ x0) (by simp only; omega)).trans x0
    replace x1 := (hb21.cell (p := ⟨w.heap.size + 1, 0, none⟩) (World.block_lt_of_cell? _ _ x1) (by simp only; omega)).trans x1
    replace x2 := (hb21.cell (p := ⟨w.heap.size + 1 + 1, 0, none⟩) (World.block_lt_of_cell? _ _ x2) (by simp only; omega)).trans x2
    replace y8 := (hb21.cell (p := ⟨g8, 0, none⟩) (World.block_lt_of_cell? _ _ y8) (by simp only; omega)).trans y8
    replace y9 := (hb21.cell (p := ⟨g9, 0, none⟩) (World.block_lt_of_cell? _ _ y9) (by simp only; omega)).trans y9
    replace y13 := (hb21.cell (p := ⟨wx0.heap.size, 0, none⟩) (World.block_lt_of_cell? _ _ y13) (by simp only; omega)).trans y13
    replace y14 := (hb21.cell (p := ⟨wx1.heap.size, 0, none⟩) (World.block_lt_of_cell? _ _ y14) (by simp only; omega)).trans y14
    replace y15 := (hb21.cell (p := ⟨wx2.heap.size, 0, none⟩) (World.block_lt_of_cell? _ _ y15) (by simp only; omega)).trans y15
    replace y16 := (hb21.cell (p := ⟨wg.heap.size, 0, none⟩) (World.block_lt_of_cell? _ _ y16) (by simp only; omega)).trans y16
    replace y17 := (hb21.cell (p := ⟨wg.heap.size + 1, 0, none⟩) (World.block_lt_of_cell? _ _ y17) (by simp only; omega)).trans y17
    replace O8 := Lib.hid (O8.out.only hb21 (by omega))
    replace O9 := Lib.hid (O9.out.only hb21 (by omega))
    replace OX2 := Lib.hid (OX2.out.only hb21 (by omega))
    replace OG := Lib.hid (OG.out.only hb21 (by omega))
    replace OG2 := Lib.hid (OG2.out.only hb21 (by omega))
    have zz21 := hb21.size
    replace BB := Lib.hid (show Below w.heap.size w wm1 from BB.out.trans (hb21.toBelow (by omega) (by omega)))
    clear hb21
    have lx_x0 := World.block_lt_of_cell? _ _ x0
    simp only at lx_x0
    have lx_x1 := World.block_lt_of_cell? _ _ x1
    simp only at lx_x1
    have lx_x2 := World.block_lt_of_cell? _ _ x2
    simp only at lx_x2
    have lx_y8 := World.block_lt_of_cell? _ _ y8
    simp only at lx_y8
    have lx_y9 := World.block_lt_of_cell? _ _ y9
    simp only at lx_y9
    have lx_y13 := World.block_lt_of_cell? _ _ y13
    simp only at lx_y13
    have lx_y14 := World.block_lt_of_cell? _ _ y14
    simp only at lx_y14
    have lx_y15 := World.block_lt_of_cell? _ _ y15
    simp only at lx_y15
    have lx_y16 := World.block_lt_of_cell? _ _ y16
    simp only at lx_y16
    have lx_y17 := World.block_lt_of_cell? _ _ y17
    simp only at lx_y17
    clear OX1
    go_wp2_with fail
    (go_at_call 36; ((with_reducible refine (mark_whole _ c (wx1.heap.size + 1) wx2.heap.size (1 + a.length + b.length) _ OX2.out (by omega) (by omega) (by omega)).mono ?_); rintro e wm2 ⟨rfl, om22, hb22⟩))
    replace OX2 := Lib.hid (show OwR wm2 (wx1.heap.size + 1) wx2.heap.size _ _ from ⟨om22, OX2.out.2⟩)
    clear om22
    replace x0 := (hb22.cell (p := ⟨w.heap.size, 0, none⟩) (World.block_lt_of_cell? _ _ x0) (by simp only; omega)).trans x0
    replace x1 := (hb22.cell (p := ⟨w.heap.size + 1, 0, none⟩) (World.block_lt_of_cell? _ _ x1) (by simp only; omega)).trans x1
    replace x2 := (hb22.cell (p := ⟨w.heap.size + 1 + 1, 0, none⟩) (World.block_lt_of_cell? _ _ x2) (by simp only; omega)).trans x2
    replace y8 := (hb22.cell (p := ⟨g8, 0, none⟩) (World.block_lt_of_cell? _ _ y8) (by simp only; omega)).trans y8
    replace y9 := (hb22.cell (p := ⟨g9, 0, none⟩) (World.block_lt_of_cell? _ _ y9) (by simp only; omega)).trans y9
    replace y13 := (hb22.cell (p := ⟨wx0.heap.size, 0, none⟩) (World.block_lt_of_cell? _ _ y13) (by simp only; omega)).trans y13
    replace y14 := (hb22.cell (p := ⟨wx1.heap.size, 0, none⟩) (World.block_lt_of_cell? _ _ y14) (by simp only; omega)).trans y14
    replace y15 := (hb22.cell (p := ⟨wx2.heap.size, 0, none⟩) (World.block_lt_of_cell? _ _ y15) (by simp only; omega)).trans y15
    replace y16 := (hb22.cell (p := ⟨wg.heap.size, 0, none⟩) (World.block_lt_of_cell? _ _ y16) (by simp only; omega)).trans y16
    replace y17 := (hb22.cell (p := ⟨wg.heap.size + 1, 0, none⟩) (World.block_lt_of_cell? _ _ y17) (by simp only; omega)).trans y17
    replace O8 := Lib.hid (O8.out.only hb22 (by omega))
    replace O9 := Lib.hid (O9.out.only hb22 (by omega))
    replace OG := Lib.hid (OG.out.only hb22 (by omega))
    replace OG2 := Lib.hid (OG2.out.only hb22 (by omega))
    have zz22 := hb22.size
    replace BB := Lib.hid (show Below w.heap.size w wm2 from BB.out.trans (hb22.toBelow (by omega) (by omega)))
    clear hb22
    have lx_x0 := World.block_lt_of_cell? _ _ x0
    simp only at lx_x0
    have lx_x1 := World.block_lt_of_cell? _ _ x1
    simp only at lx_x1
    have lx_x2 := World.block_lt_of_cell? _ _ x2
    simp only at lx_x2
    have lx_y8 := World.block_lt_of_cell? _ _ y8
    simp only at lx_y8
    have lx_y9 := World.block_lt_of_cell? _ _ y9
    simp only at lx_y9
    have lx_y13 := World.block_lt_of_cell? _ _ y13
    simp only at lx_y13
    have lx_y14 := World.block_lt_of_cell? _ _ y14
    simp only at lx_y14
    have lx_y15 := World.block_lt_of_cell? _ _ y15
    simp only at lx_y15
    have lx_y16 := World.block_lt_of_cell? _ _ y16
    simp only at lx_y16
    have lx_y17 := World.block_lt_of_cell? _ _ y17
    simp only at lx_y17
    clear OX2
    have hk9 : ¬ ((1 : Int) + a.length + b.length + c.length < 0) := by omega
    go_wp2_with fail
    (go_at_call 35; ((with_reducible refine (eq_whole _ _ R.1 _ (OG.out.rd.below (by (repeat' (first | (with_reducible exact Below.refl _ _) | (with_reducible assumption) | (with_reducible refine Below.alloc ?_ ?_ _) | (with_reducible refine Below.setCell ?_ ?_ _) | (with_reducible refine Below.drew ?_) | (with_reducible refine Below.via (by assumption) ?_ ?_) | go_size)))) (O8.out.rd.below (by (repeat' (first | (with_reducible exact Below.refl _ _) | (with_reducible assumption) | (with_reducible refine Below.alloc ?_ ?_ _) | (with_reducible refine Below.setCell ?_ ?_ _) | (with_reducible refine Below.drew ?_) | (with_reducible refine Below.via (by assumption) ?_ ?_) | go_size)))) (by omega)).mono ?_); rintro e wh3 ⟨rfl, hbe3⟩))
    have hB23 := (show Below wm2.heap.size wm2 wh3 by (repeat' (first | (with_reducible exact Below.refl _ _) | (with_reducible assumption) | (with_reducible refine Below.alloc ?_ ?_ _) | (with_reducible refine Below.setCell ?_ ?_ _) | (with_reducible refine Below.drew ?_) | (with_reducible refine Below.via (by assumption) ?_ ?_) | go_size)))
    replace x0 := (hB23.cell (p := ⟨w.heap.size, 0, none⟩) (World.block_lt_of_cell? _ _ x0)).trans x0
    replace x1 := (hB23.cell (p := ⟨w.heap.size + 1, 0, none⟩) (World.block_lt_of_cell? _ _ x1)).trans x1
    replace x2 := (hB23.cell (p := ⟨w.heap.size + 1 + 1, 0, none⟩) (World.block_lt_of_cell? _ _ x2)).trans x2
    replace y8 := (hB23.cell (p := ⟨g8, 0, none⟩) (World.block_lt_of_cell? _ _ y8)).trans y8
    replace y9 := (hB23.cell (p := ⟨g9, 0, none⟩) (World.block_lt_of_cell? _ _ y9)).trans y9
    replace y13 := (hB23.cell (p := ⟨wx0.heap.size, 0, none⟩) (World.block_lt_of_cell? _ _ y13)).trans y13
    replace y14 := (hB23.cell (p := ⟨wx1.heap.size, 0, none⟩) (World.block_lt_of_cell? _ _ y14)).trans y14
    replace y15 := (hB23.cell (p := ⟨wx2.heap.size, 0, none⟩) (World.block_lt_of_cell? _ _ y15)).trans y15
    replace y16 := (hB23.cell (p := ⟨wg.heap.size, 0, none⟩) (World.block_lt_of_cell? _ _ y16)).trans y16
    replace y17 := (hB23.cell (p := ⟨wg.heap.size + 1, 0, none⟩) (World.block_lt_of_cell? _ _ y17)).trans y17
    replace O8 := Lib.hid (O8.out.below hB23)
    replace O9 := Lib.hid (O9.out.below hB23)
    replace OG := Lib.hid (OG.out.below hB23)
    replace OG2 := Lib.hid (OG2.out.below hB23)
    have zz24 := hB23.size
    replace BB := Lib.hid (show Below w.heap.size w wh3 from BB.out.trans (hB23.mono BB.out.size))
    clear hB23 hbe3
    have lx_x0 := World.block_lt_of_cell? _ _ x0
    simp only at lx_x0
    have lx_x1 := World.block_lt_of_cell? _ _ x1
    simp only at lx_x1
    have lx_x2 := World.block_lt_of_cell? _ _ x2
    simp only at lx_x2
    have lx_y8 := World.block_lt_of_cell? _ _ y8
    simp only at lx_y8
    have lx_y9 := World.block_lt_of_cell? _ _ y9
    simp only at lx_y9
    have lx_y13 := World.block_lt_of_cell? _ _ y13
    simp only at lx_y13
    have lx_y14 := World.block_lt_of_cell? _ _ y14
    simp only at lx_y14
    have lx_y15 := World.block_lt_of_cell? _ _ y15
    simp only at lx_y15
    have lx_y16 := World.block_lt_of_cell? _ _ y16
    simp only at lx_y16
    have lx_y17 := World.block_lt_of_cell? _ _ y17
    simp only at lx_y17
    go_wp2_with fail
    (go_at_call 35; ((with_reducible refine (eq_whole _ _ R.2.1 _ (OG2.out.rd.below (by (repeat' (first | (with_reducible exact Below.refl _ _) | (with_reducible assumption) | (with_reducible refine Below.alloc ?_ ?_ _) | (with_reducible refine Below.setCell ?_ ?_ _) | (with_reducible refine Below.drew ?_) | (with_reducible refine Below.via (by assumption) ?_ ?_) | go_size)))) (O9.out.rd.below (by (repeat' (first | (with_reducible exact Below.refl _ _) | (with_reducible assumption) | (with_reducible refine Below.alloc ?_ ?_ _) | (with_reducible refine Below.setCell ?_ ?_ _) | (with_reducible refine Below.drew ?_) | (with_reducible refine Below.via (by assumption) ?_ ?_) | go_size)))) (by omega)).mono ?_); rintro e wh4 ⟨rfl, hbe4⟩))
    have hB25 := (show Below wh3.heap.size wh3 wh4 by (repeat' (first | (with_reducible exact Below.refl _ _) | (with_reducible assumption) | (with_reducible refine Below.alloc ?_ ?_ _) | (with_reducible refine Below.setCell ?_ ?_ _) | (with_reducible refine Below.drew ?_) | (with_reducible refine Below.via (by assumption) ?_ ?_) | go_size)))
    replace x0 := (hB25.cell (p := ⟨w.heap.size, 0, none⟩) (World.block_lt_of_cell? _ _ x0)).trans x0
    replace x1 := (hB25.cell (p := ⟨w.heap.size + 1, 0, none⟩) (World.block_lt_of_cell? _ _ x1)).trans x1
    replace x2 := (hB25.cell (p := ⟨w.heap.size + 1 + 1, 0, none⟩) (World.block_lt_of_cell? _ _ x2)).trans x2
    replace y8 := (hB25.cell (p := ⟨g8, 0, none⟩) (World.block_lt_of_cell? _ _ y8)).trans y8
    replace y9 := (hB25.cell (p := ⟨g9, 0, none⟩) (World.block_lt_of_cell? _ _ y9)).trans y9
    replace y13 := (hB25.cell (p := ⟨wx0.heap.size, 0, none⟩) (World.block_lt_of_cell? _ _ y13)).trans y13
    replace y14 := (hB25.cell (p := ⟨wx1.heap.size, 0, none⟩) (World.block_lt_of_cell? _ _ y14)).trans y14
    replace y15 := (hB25.cell (p := ⟨wx2.heap.size, 0, none⟩) (World.block_lt_of_cell? _ _ y15)).trans y15
    replace y16 := (hB25.cell (p := ⟨wg.heap.size, 0, none⟩) (World.block_lt_of_cell? _ _ y16)).trans y16
    replace y17 := (hB25.cell (p := ⟨wg.heap.size + 1, 0, none⟩) (World.block_lt_of_cell? _ _ y17)).trans y17
    replace O8 := Lib.hid (O8.out.below hB25)
    replace O9 := Lib.hid (O9.out.below hB25)
    replace OG := Lib.hid (OG.out.below hB25)
    replace OG2 := Lib.hid (OG2.out.below hB25)
    have zz26 := hB25.size
    replace BB := Lib.hid (show Below w.heap.size w wh4 from BB.out.trans (hB25.mono BB.out.size))
    clear hB25 hbe4
    have lx_x0 := World.block_lt_of_cell? _ _ x0
    simp only at lx_x0
    have lx_x1 := World.block_lt_of_cell? _ _ x1
    simp only at lx_x1
    have lx_x2 := World.block_lt_of_cell? _ _ x2
    simp only at lx_x2
    have lx_y8 := World.block_lt_of_cell? _ _ y8
    simp only at lx_y8
    have lx_y9 := World.block_lt_of_cell? _ _ y9
    simp only at lx_y9
    have lx_y13 := World.block_lt_of_cell? _ _ y13
    simp only at lx_y13
    have lx_y14 := World.block_lt_of_cell? _ _ y14
    simp only at lx_y14
    have lx_y15 := World.block_lt_of_cell? _ _ y15
    simp only at lx_y15
    have lx_y16 := World.block_lt_of_cell? _ _ y16
    simp only at lx_y16
    have lx_y17 := World.block_lt_of_cell? _ _ y17
    simp only at lx_y17
    go_wp2_with fail
    (go_at_call 36; ((with_reducible refine (mark_whole _ R.1 (wx2.heap.size + 1) mid (1) _ OG.out (by omega) (by omega) (by omega)).mono ?_); rintro e wm8 ⟨rfl, om27, hb27⟩))
    replace OG := Lib.hid (show OwR wm8 (wx2.heap.size + 1) mid _ _ from ⟨om27, OG.out.2⟩)
    clear om27
    replace x0 := (hb27.cell (p := ⟨w.heap.size, 0, none⟩) (World.block_lt_of_cell? _ _ x0) (by simp only; omega)).trans x0
    replace x1 := (hb27.cell (p := ⟨w.heap.size + 1, 0, none⟩) (World.block_lt_of_cell? _ _ x1) (by simp only; omega)).trans x1
    replace x2 := (hb27.cell (p := ⟨w.heap.size + 1 + 1, 0, none⟩) (World.block_lt_of_cell? _ _ x2) (by simp only; omega)).trans x2
    replace y8 := (hb27.cell (p := ⟨g8, 0, none⟩) (World.block_lt_of_cell? _ _ y8) (by simp only; omega)).trans y8
    replace y9 := (hb27.cell (p := ⟨g9, 0, none⟩) (World.block_lt_of_cell? _ _ y9) (by simp only; omega)).trans y9
    replace y13 := (hb27.cell (p := ⟨wx0.heap.size, 0, none⟩) (World.block_lt_of_cell? _ _ y13) (by simp only; omega)).trans y13
    replace y14 := (hb27.cell (p := ⟨wx1.heap.size, 0, none⟩) (World.block_lt_of_cell? _ _ y14) (by simp only; omega)).trans y14
    replace y15 := (hb27.cell (p := ⟨wx2.heap.size, 0, none⟩) (World.block_lt_of_cell? _ _ y15) (by simp only; omega)).trans y15
    replace y16 := (hb27.cell (p := ⟨wg.heap.size, 0, none⟩) (World.block_lt_of_cell? _ _ y16) (by simp only; omega)).trans y16
    replace y17 := (hb27.cell (p := ⟨wg.heap.size + 1, 0, none⟩) (World.block_lt_of_cell? _ _ y17) (by simp only; omega)).trans y17
    replace O8 := Lib.hid (O8.out.only hb27 (by omega))
    replace O9 := Lib.hid (O9.out.only hb27 (by omega))
    replace OG2 := Lib.hid (OG2.out.only hb27 (by omega))
    have zz27 := hb27.size
    replace BB := Lib.hid (show Below w.heap.size w wm8 from BB.out.trans (hb27.toBelow (by omega) (by omega)))
    clear hb27
    have lx_x0 := World.block_lt_of_cell? _ _ x0
    simp only at lx_x0
    have lx_x1 := World.block_lt_of_cell? _ _ x1
    simp only at lx_x1
    have lx_x2 := World.block_lt_of_cell? _ _ x2
    simp only at lx_x2
    have lx_y8 := World.block_lt_of_cell? _ _ y8
    simp only at lx_y8
    have lx_y9 := World.block_lt_of_cell? _ _ y9
    simp only at lx_y9
    have lx_y13 := World.block_lt_of_cell? _ _ y13
    simp only at lx_y13
    have lx_y14 := World.block_lt_of_cell? _ _ y14
    simp only at lx_y14
    have lx_y15 := World.block_lt_of_cell? _ _ y15
    simp only at lx_y15
    have lx_y16 := World.block_lt_of_cell? _ _ y16
    simp only at lx_y16
    have lx_y17 := World.block_lt_of_cell? _ _ y17
    simp only at lx_y17
    go_wp2_with fail
    (go_at_call 36; ((with_reducible refine (mark_whole _ R.2.1 mid wg.heap.size (1 + R.1.length) _ OG2.out (by omega) (by omega) (by omega)).mono ?_); rintro e wm9 ⟨rfl, om28, hb28⟩))
    replace OG2 := Lib.hid (show OwR wm9 mid wg.heap.size _ _ from ⟨om28, OG2.out.2⟩)
    clear om28
    replace x0 := (hb28.cell (p := ⟨w.heap.size, 0, none⟩) (World.block_lt_of_cell? _ _ x0) (by simp only; omega)).trans x0
    replace x1 := (hb28.cell (p := ⟨w.heap.size + 1, 0, none⟩) (World.block_lt_of_cell? _ _ x1) (by simp only; omega)).trans x1
    replace x2 := (hb28.cell (p := ⟨w.heap.size + 1 + 1, 0, none⟩) (World.block_lt_of_cell? _ _ x2) (by simp only; omega)).trans x2
    replace y8 := (hb28.cell (p := ⟨g8, 0, none⟩) (World.block_lt_of_cell? _ _ y8) (by simp only; omega)).trans y8
    replace y9 := (hb28.cell (p := ⟨g9, 0, none⟩) (World.block_lt_of_cell? _ _ y9) (by simp only; omega)).trans y9
    replace y13 := (hb28.cell (p := ⟨wx0.heap.size, 0, none⟩) (World.block_lt_of_cell? _ _ y13) (by simp only; omega)).trans y13
    replace y14 := (hb28.cell (p := ⟨wx1.heap.size, 0, none⟩) (World.block_lt_of_cell? _ _ y14) (by simp only; omega)).trans y14
    replace y15 := (hb28.cell (p := ⟨wx2.heap.size, 0, none⟩) (World.block_lt_of_cell? _ _ y15) (by simp only; omega)).trans y15
    replace y16 := (hb28.cell (p := ⟨wg.heap.size, 0, none⟩) (World.block_lt_of_cell? _ _ y16) (by simp only; omega)).trans y16
    replace y17 := (hb28.cell (p := ⟨wg.heap.size + 1, 0, none⟩) (World.block_lt_of_cell? _ _ y17) (by simp only; omega)).trans y17
    replace O8 := Lib.hid (O8.out.only hb28 (by omega))
    replace O9 := Lib.hid (O9.out.only hb28 (by omega))
    replace OG := Lib.hid (OG.out.only hb28 (by omega))
    have zz28 := hb28.size
    replace BB := Lib.hid (show Below w.heap.size w wm9 from BB.out.trans (hb28.toBelow (by omega) (by omega)))
    clear hb28
    have lx_x0 := World.block_lt_of_cell? _ _ x0
    simp only at lx_x0
    have lx_x1 := World.block_lt_of_cell? _ _ x1
    simp only at lx_x1
    have lx_x2 := World.block_lt_of_cell? _ _ x2
    simp only at lx_x2
    have lx_y8 := World.block_lt_of_cell? _ _ y8
    simp only at lx_y8
    have lx_y9 := World.block_lt_of_cell? _ _ y9
    simp only at lx_y9
    have lx_y13 := World.block_lt_of_cell? _ _ y13
    simp only at lx_y13
    have lx_y14 := World.block_lt_of_cell? _ _ y14
    simp only at lx_y14
    have lx_y15 := World.block_lt_of_cell? _ _ y15
    simp only at lx_y15
    have lx_y16 := World.block_lt_of_cell? _ _ y16
    simp only at lx_y16
    have lx_y17 := World.block_lt_of_cell? _ _ y17
    simp only at lx_y17
    have hk8 : ¬ ((1 : Int) + R.1.length < 0) := by omega
    have hk7 : ¬ ((1 : Int) + R.1.length + R.2.1.length < 0) := by omega
    go_wp2_with fail
    (go_at_call 37; ((with_reducible refine (held_whole _ R.1.length (1) _ (OG.out.rd.below (by (repeat' (first | (with_reducible exact Below.refl _ _) | (with_reducible assumption) | (with_reducible refine Below.alloc ?_ ?_ _) | (with_reducible refine Below.setCell ?_ ?_ _) | (with_reducible refine Below.drew ?_) | (with_reducible refine Below.via (by assumption) ?_ ?_) | go_size)))) (by omega) (by omega) (by omega)).mono ?_); rintro e wn1 ⟨rfl, hbn1⟩))
    have hB29 := (show Below wm9.heap.size wm9 wn1 by (repeat' (first | (with_reducible exact Below.refl _ _) | (with_reducible assumption) | (with_reducible refine Below.alloc ?_ ?_ _) | (with_reducible refine Below.setCell ?_ ?_ _) | (with_reducible refine Below.drew ?_) | (with_reducible refine Below.via (by assumption) ?_ ?_) | go_size)))
    replace x0 := (hB29.cell (p := ⟨w.heap.size, 0, none⟩) (World.block_lt_of_cell? _ _ x0)).trans x0
    replace x1 := (hB29.cell (p := ⟨w.heap.size + 1, 0, none⟩) (World.block_lt_of_cell? _ _ x1)).trans x1
    replace x2 := (hB29.cell (p := ⟨w.heap.size + 1 + 1, 0, none⟩) (World.block_lt_of_cell? _ _ x2)).trans x2
    replace y8 := (hB29.cell (p := ⟨g8, 0, none⟩) (World.block_lt_of_cell? _ _ y8)).trans y8
    replace y9 := (hB29.cell (p := ⟨g9, 0, none⟩) (World.block_lt_of_cell? _ _ y9)).trans y9
    replace y13 := (hB29.cell (p := ⟨wx0.heap.size, 0, none⟩) (World.block_lt_of_cell? _ _ y13)).trans y13
    replace y14 := (hB29.cell (p := ⟨wx1.heap.size, 0, none⟩) (World.block_lt_of_cell? _ _ y14)).trans y14
    replace y15 := (hB29.cell (p := ⟨wx2.heap.size, 0, none⟩) (World.block_lt_of_cell? _ _ y15)).trans y15
    replace y16 := (hB29.cell (p := ⟨wg.heap.size, 0, none⟩) (World.block_lt_of_cell? _ _ y16)).trans y16
    replace y17 := (hB29.cell (p := ⟨wg.heap.size + 1, 0, none⟩) (World.block_lt_of_cell? _ _ y17)).trans y17
    replace O8 := Lib.hid (O8.out.below hB29)
    replace O9 := Lib.hid (O9.out.below hB29)
    replace OG := Lib.hid (OG.out.below hB29)
    replace OG2 := Lib.hid (OG2.out.below hB29)
    have zz30 := hB29.size
    replace BB := Lib.hid (show Below w.heap.size w wn1 from BB.out.trans (hB29.mono BB.out.size))
    clear hB29 hbn1
    have lx_x0 := World.block_lt_of_cell? _ _ x0
    simp only at lx_x0
    have lx_x1 := World.block_lt_of_cell? _ _ x1
    simp only at lx_x1
    have lx_x2 := World.block_lt_of_cell? _ _ x2
    simp only at lx_x2
    have lx_y8 := World.block_lt_of_cell? _ _ y8
    simp only at lx_y8
    have lx_y9 := World.block_lt_of_cell? _ _ y9
    simp only at lx_y9
    have lx_y13 := World.block_lt_of_cell? _ _ y13
    simp only at lx_y13
    have lx_y14 := World.block_lt_of_cell? _ _ y14
    simp only at lx_y14
    have lx_y15 := World.block_lt_of_cell? _ _ y15
    simp only at lx_y15
    have lx_y16 := World.block_lt_of_cell? _ _ y16
    simp only at lx_y16
    have lx_y17 := World.block_lt_of_cell? _ _ y17
    simp only at lx_y17
    go_wp2_with fail
    (go_at_call 37; ((with_reducible refine (held_whole _ R.2.1.length (1 + R.1.length) _ (OG2.out.rd.below (by (repeat' (first | (with_reducible exact Below.refl _ _) | (with_reducible assumption) | (with_reducible refine Below.alloc ?_ ?_ _) | (with_reducible refine Below.setCell ?_ ?_ _) | (with_reducible refine Below.drew ?_) | (with_reducible refine Below.via (by assumption) ?_ ?_) | go_size)))) (by omega) (by omega) (by omega)).mono ?_); rintro e wn2 ⟨rfl, hbn2⟩))
    have hB31 := (show Below wn1.heap.size wn1 wn2 by (repeat' (first | (with_reducible exact Below.refl _ _) | (with_reducible assumption) | (with_reducible refine Below.alloc ?_ ?_ _) | (with_reducible refine Below.setCell ?_ ?_ _) | (with_reducible refine Below.drew ?_) | (with_reducible refine Below.via (by assumption) ?_ ?_) | go_size)))
    replace x0 := (hB31.cell (p := ⟨w.heap.size, 0, none⟩) (World.block_lt_of_cell? _ _ x0)).trans x0
    replace x1 := (hB31.cell (p := ⟨w.heap.size + 1, 0, none⟩) (World.block_lt_of_cell? _ _ x1)).trans x1
    replace x2 := (hB31.cell (p := ⟨w.heap.size + 1 + 1, 0, none⟩) (World.block_lt_of_cell? _ _ x2)).trans x2
    replace y8 := (hB31.cell (p := ⟨g8, 0, none⟩) (World.block_lt_of_cell? _ _ y8)).trans y8
    replace y9 := (hB31.cell (p := ⟨g9, 0, none⟩) (World.block_lt_of_cell? _ _ y9)).trans y9
    replace y13 := (hB31.cell (p := ⟨wx0.heap.size, 0, none⟩) (World.block_lt_of_cell? _ _ y13)).trans y13
    replace y14 := (hB31.cell (p := ⟨wx1.heap.size, 0, none⟩) (World.block_lt_of_cell? _ _ y14)).trans y14
    replace y15 := (hB31.cell (p := ⟨wx2.heap.size, 0, none⟩) (World.block_lt_of_cell? _ _ y15)).trans y15
    replace y16 := (hB31.cell (p := ⟨wg.heap.size, 0, none⟩) (World.block_lt_of_cell? _ _ y16)).trans y16
    replace y17 := (hB31.cell (p := ⟨wg.heap.size + 1, 0, none⟩) (World.block_lt_of_cell? _ _ y17)).trans y17
    replace O8 := Lib.hid (O8.out.below hB31)
    replace O9 := Lib.hid (O9.out.below hB31)
    replace OG := Lib.hid (OG.out.below hB31)
    replace OG2 := Lib.hid (OG2.out.below hB31)
    have zz32 := hB31.size
    replace BB := Lib.hid (show Below w.heap.size w wn2 from BB.out.trans (hB31.mono BB.out.size))
    clear hB31 hbn2
    have lx_x0 := World.block_lt_of_cell? _ _ x0
    simp only at lx_x0
    have lx_x1 := World.block_lt_of_cell? _ _ x1
    simp only at lx_x1
    have lx_x2 := World.block_lt_of_cell? _ _ x2
    simp only at lx_x2
    have lx_y8 := World.block_lt_of_cell? _ _ y8
    simp only at lx_y8
    have lx_y9 := World.block_lt_of_cell? _ _ y9
    simp only at lx_y9
    have lx_y13 := World.block_lt_of_cell? _ _ y13
    simp only at lx_y13
    have lx_y14 := World.block_lt_of_cell? _ _ y14
    simp only at lx_y14
    have lx_y15 := World.block_lt_of_cell? _ _ y15
    simp only at lx_y15
    have lx_y16 := World.block_lt_of_cell? _ _ y16
    simp only at lx_y16
    have lx_y17 := World.block_lt_of_cell? _ _ y17
    simp only at lx_y17
    have lx_x0 := World.block_lt_of_cell? _ _ x0
    simp only at lx_x0
    have lx_x1 := World.block_lt_of_cell? _ _ x1
    simp only at lx_x1
    have lx_x2 := World.block_lt_of_cell? _ _ x2
    simp only at lx_x2
    have lx_y8 := World.block_lt_of_cell? _ _ y8
    simp only at lx_y8
    have lx_y9 := World.block_lt_of_cell? _ _ y9
    simp only at lx_y9
    have lx_y13 := World.block_lt_of_cell? _ _ y13
    simp only at lx_y13
    have lx_y14 := World.block_lt_of_cell? _ _ y14
    simp only at lx_y14
    have lx_y15 := World.block_lt_of_cell? _ _ y15
    simp only at lx_y15
    have lx_y16 := World.block_lt_of_cell? _ _ y16
    simp only at lx_y16
    have lx_y17 := World.block_lt_of_cell? _ _ y17
    simp only at lx_y17
    have bb0 := Below.refl wn2.heap.size wn2
    go_upto_region 42 with fail
    refine lawL_42 Ha Hb Hc hla hlb hlc HRe BB x0 x1 x2 ?_
    intro s8 s9 s10 wc _ _ _ _ _ _ _ _ _ _ _ _ _ _ _ _ _ _ _ _ _ _ _ _ _ _ _ _ _ _ _ _ _ _ _ _ _ _ _ _ _ _ _ _ _ _ _ _ _ _ _ _ _ _ _ _ _ _ _ _ _ _ _ _ _ _ _ _ _ _ _ _ _ _ _ _ _ _ _ _ _ _ _ _ _ _ _ _ _ _ _ _ _ _ _ _ _ _ _ _ _ _ _ _ _ _ _ _ _ _ _ _ _ _ _ _ _ _ _ _ _ _ _ _ _ _ _ _ _ _ _ _ _ _ _ _ _ _ _ _ _ _ _ _ _ _ _ _ _ _ _ _ _ _ _ _ _ _ _ hcut
    · skip
      obtain ⟨h8, r8, t8, h9, r9, t9, rfl, rfl, rfl, ⟨hh8, hh8b, z8, Q8⟩, ⟨hh9, hh9b, z9, Q9⟩, hbc⟩ := hcut
      replace Q8 := Lib.hid Q8
      replace Q9 := Lib.hid Q9
      generalize wc = wk at *
      replace x0 := (hbc.cell (p := ⟨w.heap.size, 0, none⟩) (World.block_lt_of_cell? _ _ x0)).trans x0
      replace x1 := (hbc.cell (p := ⟨w.heap.size + 1, 0, none⟩) (World.block_lt_of_cell? _ _ x1)).trans x1
      replace x2 := (hbc.cell (p := ⟨w.heap.size + 1 + 1, 0, none⟩) (World.block_lt_of_cell? _ _ x2)).trans x2
      replace y8 := (hbc.cell (p := ⟨g8, 0, none⟩) (World.block_lt_of_cell? _ _ y8)).trans y8
      replace y9 := (hbc.cell (p := ⟨g9, 0, none⟩) (World.block_lt_of_cell? _ _ y9)).trans y9
      replace y13 := (hbc.cell (p := ⟨wx0.heap.size, 0, none⟩) (World.block_lt_of_cell? _ _ y13)).trans y13
      replace y14 := (hbc.cell (p := ⟨wx1.heap.size, 0, none⟩) (World.block_lt_of_cell? _ _ y14)).trans y14
      replace y15 := (hbc.cell (p := ⟨wx2.heap.size, 0, none⟩) (World.block_lt_of_cell? _ _ y15)).trans y15
      replace y16 := (hbc.cell (p := ⟨wg.heap.size, 0, none⟩) (World.block_lt_of_cell? _ _ y16)).trans y16
      replace y17 := (hbc.cell (p := ⟨wg.heap.size + 1, 0, none⟩) (World.block_lt_of_cell? _ _ y17)).trans y17
      replace O8 := Lib.hid (O8.out.below hbc)
      replace O9 := Lib.hid (O9.out.below hbc)
      replace OG := Lib.hid (OG.out.below hbc)
      replace OG2 := Lib.hid (OG2.out.below hbc)
      have zz33 := hbc.size
      replace BB := Lib.hid (show Below w.heap.size w wk from BB.out.trans (hbc.mono BB.out.size))
      clear hbc
      have lx_x0 := World.block_lt_of_cell? _ _ x0
      simp only at lx_x0
      have lx_x1 := World.block_lt_of_cell? _ _ x1
      simp only at lx_x1
      have lx_x2 := World.block_lt_of_cell? _ _ x2
      simp only at lx_x2
      have lx_y8 := World.block_lt_of_cell? _ _ y8
      simp only at lx_y8
      have lx_y9 := World.block_lt_of_cell? _ _ y9
      simp only at lx_y9
      have lx_y13 := World.block_lt_of_cell? _ _ y13
      simp only at lx_y13
      have lx_y14 := World.block_lt_of_cell? _ _ y14
      simp only at lx_y14
      have lx_y15 := World.block_lt_of_cell? _ _ y15
      simp only at lx_y15
      have lx_y16 := World.block_lt_of_cell? _ _ y16
      simp only at lx_y16
      have lx_y17 := World.block_lt_of_cell? _ _ y17
      simp only at lx_y17
      have lx_z8 := World.block_lt_of_cell? _ _ z8
      simp only at lx_z8
      have lx_z9 := World.block_lt_of_cell? _ _ z9
      simp only at lx_z9
      go_wp2_with fail
      (go_at_call 35; ((with_reducible refine (eq_whole _ _ R.1 _ (Q8.out.rd.below (by (repeat' (first | (with_reducible exact Below.refl _ _) | (with_reducible assumption) | (with_reducible refine Below.alloc ?_ ?_ _) | (with_reducible refine Below.setCell ?_ ?_ _) | (with_reducible refine Below.drew ?_) | (with_reducible refine Below.via (by assumption) ?_ ?_) | go_size)))) (O8.out.rd.below (by (repeat' (first | (with_reducible exact Below.refl _ _) | (with_reducible assumption) | (with_reducible refine Below.alloc ?_ ?_ _) | (with_reducible refine Below.setCell ?_ ?_ _) | (with_reducible refine Below.drew ?_) | (with_reducible refine Below.via (by assumption) ?_ ?_) | go_size)))) (by omega)).mono ?_); rintro e wh5 ⟨rfl, hbe5⟩))
      have hB34 := (show Below wk.heap.size wk wh5 by (repeat' (first | (with_reducible exact Below.refl _ _) | (with_reducible assumption) | (with_reducible refine Below.alloc ?_ ?_ _) | (with_reducible refine Below.setCell ?_ ?_ _) | (with_reducible refine Below.drew ?_) | (with_reducible refine Below.via (by assumption) ?_ ?_) | go_size)))
      replace x0 := (hB34.cell (p := ⟨w.heap.size, 0, none⟩) (World.block_lt_of_cell? _ _ x0)).trans x0
      replace x1 := (hB34.cell (p := ⟨w.heap.size + 1, 0, none⟩) (World.block_lt_of_cell? _ _ x1)).trans x1
      replace x2 := (hB34.cell (p := ⟨w.heap.size + 1 + 1, 0, none⟩) (World.block_lt_of_cell? _ _ x2)).trans x2
      replace y8 := (hB34.cell (p := ⟨g8, 0, none⟩) (World.block_lt_of_cell? _ _ y8)).trans y8
      replace y9 := (hB34.cell (p := ⟨g9, 0, none⟩) (World.block_lt_of_cell? _ _ y9)).trans y9
      replace y13 := (hB34.cell (p := ⟨wx0.heap.size, 0, none⟩) (World.block_lt_of_cell? _ _ y13)).trans y13
      replace y14 := (hB34.cell (p := ⟨wx1.heap.size, 0, none⟩) (World.block_lt_of_cell? _ _ y14)).trans y14
      replace y15 := (hB34.cell (p := ⟨wx2.heap.size, 0, none⟩) (World.block_lt_of_cell? _ _ y15)).trans y15
      replace y16 := (hB34.cell (p := ⟨wg.heap.size, 0, none⟩) (World.block_lt_of_cell? _ _ y16)).trans y16
      replace y17 := (hB34.cell (p := ⟨wg.heap.size + 1, 0, none⟩) (World.block_lt_of_cell? _ _ y17)).trans y17
      replace z8 := (hB34.cell (p := ⟨h8, 0, none⟩) (World.block_lt_of_cell? _ _ z8)).trans z8
      replace z9 := (hB34.cell (p := ⟨h9, 0, none⟩) (World.block_lt_of_cell? _ _ z9)).trans z9
      replace O8 := Lib.hid (O8.out.below hB34)
      replace O9 := Lib.hid (O9.out.below hB34)
      replace OG := Lib.hid (OG.out.below hB34)
      replace OG2 := Lib.hid (OG2.out.below hB34)
      replace Q8 := Lib.hid (Q8.out.below hB34)
      replace Q9 := Lib.hid (Q9.out.below hB34)
      have zz35 := hB34.size
      replace BB := Lib.hid (show Below w.heap.size w wh5 from BB.out.trans (hB34.mono BB.out.size))
      clear hB34 hbe5
      have lx_x0 := World.block_lt_of_cell? _ _ x0
      simp only at lx_x0
      have lx_x1 := World.block_lt_of_cell? _ _ x1
      simp only at lx_x1
      have lx_x2 := World.block_lt_of_cell? _ _ x2
      simp only at lx_x2
      have lx_y8 := World.block_lt_of_cell? _ _ y8
      simp only at lx_y8
      have lx_y9 := World.block_lt_of_cell? _ _ y9
      simp only at lx_y9
      have lx_y13 := World.block_lt_of_cell? _ _ y13
      simp only at lx_y13
      have lx_y14 := World.block_lt_of_cell? _ _ y14
      simp only at lx_y14
      have lx_y15 := World.block_lt_of_cell? _ _ y15
      simp only at lx_y15
      have lx_y16 := World.block_lt_of_cell? _ _ y16
      simp only at lx_y16
      have lx_y17 := World.block_lt_of_cell? _ _ y17
      simp only at lx_y17
      have lx_z8 := World.block_lt_of_cell? _ _ z8
      simp only at lx_z8
      have lx_z9 := World.block_lt_of_cell? _ _ z9
      simp only at lx_z9
      go_wp2_with fail
      (go_at_call 35; ((with_reducible refine (eq_whole _ _ R.2.1 _ (Q9.out.rd.below (by (repeat' (first | (with_reducible exact Below.refl _ _) | (with_reducible assumption) | (with_reducible refine Below.alloc ?_ ?_ _) | (with_reducible refine Below.setCell ?_ ?_ _) | (with_reducible refine Below.drew ?_) | (with_reducible refine Below.via (by assumption) ?_ ?_) | go_size)))) (O9.out.rd.below (by (repeat' (first | (with_reducible exact Below.refl _ _) | (with_reducible assumption) | (with_reducible refine Below.alloc ?_ ?_ _) | (with_reducible refine Below.setCell ?_ ?_ _) | (with_reducible refine Below.drew ?_) | (with_reducible refine Below.via (by assumption) ?_ ?_) | go_size)))) (by omega)).mono ?_); rintro e wh6 ⟨rfl, hbe6⟩))
      have hB36 := (show Below wh5.heap.size wh5 wh6 by (repeat' (first | (with_reducible exact Below.refl _ _) | (with_reducible assumption) | (with_reducible refine Below.alloc ?_ ?_ _) | (with_reducible refine Below.setCell ?_ ?_ _) | (with_reducible refine Below.drew ?_) | (with_reducible refine Below.via (by assumption) ?_ ?_) | go_size)))
      replace x0 := (hB36.cell (p := ⟨w.heap.size, 0, none⟩) (World.block_lt_of_cell? _ _ x0)).trans x0
      replace x1 := (hB36.cell (p := ⟨w.heap.size + 1, 0, none⟩) (World.block_lt_of_cell? _ _ x1)).trans x1
      replace x2 := (hB36.cell (p := ⟨w.heap.size + 1 + 1, 0, none⟩) (World.block_lt_of_cell? _ _ x2)).trans x2
      replace y8 := (hB36.cell (p := ⟨g8, 0, none⟩) (World.block_lt_of_cell? _ _ y8)).trans y8
      replace y9 := (hB36.cell (p := ⟨g9, 0, none⟩) (World.block_lt_of_cell? _ _ y9)).trans y9
      replace y13 := (hB36.cell (p := ⟨wx0.heap.size, 0, none⟩) (World.block_lt_of_cell? _ _ y13)).trans y13
      replace y14 := (hB36.cell (p := ⟨wx1.heap.size, 0, none⟩) (World.block_lt_of_cell? _ _ y14)).trans y14
      replace y15 := (hB36.cell (p := ⟨wx2.heap.size, 0, none⟩) (World.block_lt_of_cell? _ _ y15)).trans y15
      replace y16 := (hB36.cell (p := ⟨wg.heap.size, 0, none⟩) (World.block_lt_of_cell? _ _ y16)).trans y16
      replace y17 := (hB36.cell (p := ⟨wg.heap.size + 1, 0, none⟩) (World.block_lt_of_cell? _ _ y17)).trans y17
      replace z8 := (hB36.cell (p := ⟨h8, 0, none⟩) (World.block_lt_of_cell? _ _ z8)).trans z8
      replace z9 := (hB36.cell (p := ⟨h9, 0, none⟩) (World.block_lt_of_cell? _ _ z9)).trans z9
      replace O8 := Lib.hid (O8.out.below hB36)
      replace O9 := Lib.hid (O9.out.below hB36)
      replace OG := Lib.hid (OG.out.below hB36)
      replace OG2 := Lib.hid (OG2.out.below hB36)
      replace Q8 := Lib.hid (Q8.out.below hB36)
      replace Q9 := Lib.hid (Q9.out.below hB36)
      have zz37 := hB36.size
      replace BB := Lib.hid (show Below w.heap.size w wh6 from BB.out.trans (hB36.mono BB.out.size))
      clear hB36 hbe6
      have lx_x0 := World.block_lt_of_cell? _ _ x0
      simp only at lx_x0
      have lx_x1 := World.block_lt_of_cell? _ _ x1
      simp only at lx_x1
      have lx_x2 := World.block_lt_of_cell? _ _ x2
      simp only at lx_x2
      have lx_y8 := World.block_lt_of_cell? _ _ y8
      simp only at lx_y8
      have lx_y9 := World.block_lt_of_cell? _ _ y9
      simp only at lx_y9
      have lx_y13 := World.block_lt_of_cell? _ _ y13
      simp only at lx_y13
      have lx_y14 := World.block_lt_of_cell? _ _ y14
      simp only at lx_y14
      have lx_y15 := World.block_lt_of_cell? _ _ y15
      simp only at lx_y15
      have lx_y16 := World.block_lt_of_cell? _ _ y16
      simp only at lx_y16
      have lx_y17 := World.block_lt_of_cell? _ _ y17
      simp only at lx_y17
      have lx_z8 := World.block_lt_of_cell? _ _ z8
      simp only at lx_z8
      have lx_z9 := World.block_lt_of_cell? _ _ z9
      simp only at lx_z9
      go_wp2_with fail
      (go_at_call 37; ((with_reducible refine (held_whole _ R.1.length (1) _ (OG.out.rd.below (by (repeat' (first | (with_reducible exact Below.refl _ _) | (with_reducible assumption) | (with_reducible refine Below.alloc ?_ ?_ _) | (with_reducible refine Below.setCell ?_ ?_ _) | (with_reducible refine Below.drew ?_) | (with_reducible refine Below.via (by assumption) ?_ ?_) | go_size)))) (by omega) (by omega) (by omega)).mono ?_); rintro e wn3 ⟨rfl, hbn3⟩))
      have hB38 := (show Below wh6.heap.size wh6 wn3 by (repeat' (first | (with_reducible exact Below.refl _ _) | (with_reducible assumption) | (with_reducible refine Below.alloc ?_ ?_ _) | (with_reducible refine Below.setCell ?_ ?_ _) | (with_reducible refine Below.drew ?_) | (with_reducible refine Below.via (by assumption) ?_ ?_) | go_size)))
      replace x0 := (hB38.cell (p := ⟨w.heap.size, 0, none⟩) (World.block_lt_of_cell? _ _ x0)).trans x0
      replace x1 := (hB38.cell (p := ⟨w.heap.size + 1, 0, none⟩) (World.block_lt_of_cell? _ _ x1)).trans x1
      replace x2 := (hB38.cell (p := ⟨w.heap.size + 1 + 1, 0, none⟩) (World.block_lt_of_cell? _ _ x2)).trans x2
      replace y8 := (hB38.cell (p := ⟨g8, 0, none⟩) (World.block_lt_of_cell? _ _ y8)).trans y8
      replace y9 := (hB38.cell (p := ⟨g9, 0, none⟩) (World.block_lt_of_cell? _ _ y9)).trans y9
      replace y13 := (hB38.cell (p := ⟨wx0.heap.size, 0, none⟩) (World.block_lt_of_cell? _ _ y13)).trans y13
      replace y14 := (hB38.cell (p := ⟨wx1.heap.size, 0, none⟩) (World.block_lt_of_cell? _ _ y14)).trans y14
      replace y15 := (hB38.cell (p := ⟨wx2.heap.size, 0, none⟩) (World.block_lt_of_cell? _ _ y15)).trans y15
      replace y16 := (hB38.cell (p := ⟨wg.heap.size, 0, none⟩) (World.block_lt_of_cell? _ _ y16)).trans y16
      replace y17 := (hB38.cell (p := ⟨wg.heap.size + 1, 0, none⟩) (World.block_lt_of_cell? _ _ y17)).trans y17
      replace z8 := (hB38.cell (p := ⟨h8, 0, none⟩) (World.block_lt_of_cell? _ _ z8)).trans z8
      replace z9 := (hB38.cell (p := ⟨h9, 0, none⟩) (World.block_lt_of_cell? _ _ z9)).trans z9
      replace O8 := Lib.hid (O8.out.below hB38)
      replace O9 := Lib.hid (O9.out.below hB38)
      replace OG := Lib.hid (OG.out.below hB38)
      replace OG2 := Lib.hid (OG2.out.below hB38)
      replace Q8 := Lib.hid (Q8.out.below hB38)
      replace Q9 := Lib.hid (Q9.out.below hB38)
      have zz39 := hB38.size
      replace BB := Lib.hid (show Below w.heap.size w wn3 from BB.out.trans (hB38.mono BB.out.size))
      clear hB38 hbn3
      have lx_x0 := World.block_lt_of_cell? _ _ x0
      simp only at lx_x0
      have lx_x1 := World.block_lt_of_cell? _ _ x1
      simp only at lx_x1
      have lx_x2 := World.block_lt_of_cell? _ _ x2
      simp only at lx_x2
      have lx_y8 := World.block_lt_of_cell? _ _ y8
      simp only at lx_y8
      have lx_y9 := World.block_lt_of_cell? _ _ y9
      simp only at lx_y9
      have lx_y13 := World.block_lt_of_cell? _ _ y13
      simp only at lx_y13
      have lx_y14 := World.block_lt_of_cell? _ _ y14
      simp only at lx_y14
      have lx_y15 := World.block_lt_of_cell? _ _ y15
      simp only at lx_y15
      have lx_y16 := World.block_lt_of_cell? _ _ y16
      simp only at lx_y16
      have lx_y17 := World.block_lt_of_cell? _ _ y17
      simp only at lx_y17
      have lx_z8 := World.block_lt_of_cell? _ _ z8
      simp only at lx_z8
      have lx_z9 := World.block_lt_of_cell? _ _ z9
      simp only at lx_z9
      go_wp2_with fail
      (go_at_call 37; ((with_reducible refine (held_whole _ R.2.1.length (1 + R.1.length) _ (OG2.out.rd.below (by (repeat' (first | (with_reducible exact Below.refl _ _) | (with_reducible assumption) | (with_reducible refine Below.alloc ?_ ?_ _) | (with_reducible refine Below.setCell ?_ ?_ _) | (with_reducible refine Below.drew ?_) | (with_reducible refine Below.via (by assumption) ?_ ?_) | go_size)))) (by omega) (by omega) (by omega)).mono ?_); rintro e wn4 ⟨rfl, hbn4⟩))
      have hB40 := (show Below wn3.heap.size wn3 wn4 by (repeat' (first | (with_reducible exact Below.refl _ _) | (with_reducible assumption) | (with_reducible refine Below.alloc ?_ ?_ _) | (with_reducible refine Below.setCell ?_ ?_ _) | (with_reducible refine Below.drew ?_) | (with_reducible refine Below.via (by assumption) ?_ ?_) | go_size)))
      replace x0 := (hB40.cell (p := ⟨w.heap.size, 0, none⟩) (World.block_lt_of_cell? _ _ x0)).trans x0
      replace x1 := (hB40.cell (p := ⟨w.heap.size + 1, 0, none⟩) (World.block_lt_of_cell? _ _ x1)).trans x1
      replace x2 := (hB40.cell (p := ⟨w.heap.size + 1 + 1, 0, none⟩) (World.block_lt_of_cell? _ _ x2)).trans x2
      replace y8 := (hB40.cell (p := ⟨g8, 0, none⟩) (World.block_lt_of_cell? _ _ y8)).trans y8
      replace y9 := (hB40.cell (p := ⟨g9, 0, none⟩) (World.block_lt_of_cell? _ _ y9)).trans y9
      replace y13 := (hB40.cell (p := ⟨wx0.heap.size, 0, none⟩) (World.block_lt_of_cell? _ _ y13)).trans y13
      replace y14 := (hB40.cell (p := ⟨wx1.heap.size, 0, none⟩) (World.block_lt_of_cell? _ _ y14)).trans y14
      replace y15 := (hB40.cell (p := ⟨wx2.heap.size, 0, none⟩) (World.block_lt_of_cell? _ _ y15)).trans y15
      replace y16 := (hB40.cell (p := ⟨wg.heap.size, 0, none⟩) (World.block_lt_of_cell? _ _ y16)).trans y16
      replace y17 := (hB40.cell (p := ⟨wg.heap.size + 1, 0, none⟩) (World.block_lt_of_cell? _ _ y17)).trans y17
      replace z8 := (hB40.cell (p := ⟨h8, 0, none⟩) (World.block_lt_of_cell? _ _ z8)).trans z8
      replace z9 := (hB40.cell (p := ⟨h9, 0, none⟩) (World.block_lt_of_cell? _ _ z9)).trans z9
      replace O8 := Lib.hid (O8.out.below hB40)
      replace O9 := Lib.hid (O9.out.below hB40)
      replace OG := Lib.hid (OG.out.below hB40)
      replace OG2 := Lib.hid (OG2.out.below hB40)
      replace Q8 := Lib.hid (Q8.out.below hB40)
      replace Q9 := Lib.hid (Q9.out.below hB40)
      have zz41 := hB40.size
      replace BB := Lib.hid (show Below w.heap.size w wn4 from BB.out.trans (hB40.mono BB.out.size))
      clear hB40 hbn4
      have lx_x0 := World.block_lt_of_cell? _ _ x0
      simp only at lx_x0
      have lx_x1 := World.block_lt_of_cell? _ _ x1
      simp only at lx_x1
      have lx_x2 := World.block_lt_of_cell? _ _ x2
      simp only at lx_x2
      have lx_y8 := World.block_lt_of_cell? _ _ y8
      simp only at lx_y8
      have lx_y9 := World.block_lt_of_cell? _ _ y9
      simp only at lx_y9
      have lx_y13 := World.block_lt_of_cell? _ _ y13
      simp only at lx_y13
      have lx_y14 := World.block_lt_of_cell? _ _ y14
      simp only at lx_y14
      have lx_y15 := World.block_lt_of_cell? _ _ y15
      simp only at lx_y15
      have lx_y16 := World.block_lt_of_cell? _ _ y16
      simp only at lx_y16
      have lx_y17 := World.block_lt_of_cell? _ _ y17
      simp only at lx_y17
      have lx_z8 := World.block_lt_of_cell? _ _ z8
      simp only at lx_z8
      have lx_z9 := World.block_lt_of_cell? _ _ z9
      simp only at lx_z9
      go_wp2_with fail
      go_ret
      exact ⟨rfl, BB.out⟩

end Go.Proofs.Ytlnjkjogedbhfaa
