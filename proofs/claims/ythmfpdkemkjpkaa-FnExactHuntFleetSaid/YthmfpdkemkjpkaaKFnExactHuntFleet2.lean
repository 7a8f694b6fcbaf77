-- written by the session's program xp.py over the kit's print program, and by hand; texts joined by pack.py
import Derived.Test.YthmfpdkemkjpkaaKFnExactHuntFleet1
namespace Go.Proofs.Ythmfpdkemkjpkaa.F
open Go.RowKit Go.Proofs.YthmfpdkemkjpkaaW.PrintWords Go.Proofs.YthmfpdkemkjpkaaW.PrintLast Go.Proofs.YthmfpdkemkjpkaaW.PrintMore
attribute [local go_sem] max2_int min2_int max_two min_two max_three min_three max_four min_four   -- for this text's walks alone
set_option linter.unusedVariables false
set_option linter.unusedSimpArgs false

def Try.sortI_ren : Go.Shelf.Ren := ⟨fun | 53 => 65 | 64 => 73 | 63 => 72 | 78 => 85 | 79 => 86 | 70 => 76 | 71 => 77 | 72 => 78 | 73 => 79 | 74 => 80 | 75 => 81 | 59 => 82 | 76 => 83 | 77 => 84 | 88 => 87 | 89 => 88 | 90 => 89 | 91 => 90 | 92 => 91 | 68 => 92 | 96 => 93 | n => n, fun | 22 => 22 | 23 => 2 | 3 => 3 | 51 => 91 | 0 => 0 | 67 => 104 | 69 => 42 | 4 => 4 | 61 => 96 | 60 => 95 | 44 => 101 | 5 => 5 | 9 => 9 | 75 => 106 | 79 => 110 | 83 => 112 | 84 => 113 | n => n, fun | n => n⟩
theorem Try.sortI : Go.Proofs.SlLaysN.n53 Try.prog Try.sortI_ren := {
 mixed := by kernel_rfl
 f53 := ⟨Try.f65.name, by decide, Try.func65.trans (congrArg some (by kernel_rfl))⟩
 f59 := ⟨Try.f82.name, by decide, Try.func82.trans (congrArg some (by kernel_rfl))⟩
 f63 := ⟨Try.f72.name, by decide, Try.func72.trans (congrArg some (by kernel_rfl))⟩
 f64 := Try.func73.trans (congrArg some (by kernel_rfl))
 f68 := ⟨Try.f92.name, by decide, Try.func92.trans (congrArg some (by kernel_rfl))⟩
 f70 := ⟨Try.f76.name, by decide, Try.func76.trans (congrArg some (by kernel_rfl))⟩
 f71 := ⟨Try.f77.name, by decide, Try.func77.trans (congrArg some (by kernel_rfl))⟩
 f72 := ⟨Try.f78.name, by decide, Try.func78.trans (congrArg some (by kernel_rfl))⟩
 f73 := ⟨Try.f79.name, by decide, Try.func79.trans (congrArg some (by kernel_rfl))⟩
 f74 := ⟨Try.f80.name, by decide, Try.func80.trans (congrArg some (by kernel_rfl))⟩
 f75 := ⟨Try.f81.name, by decide, Try.func81.trans (congrArg some (by kernel_rfl))⟩
 f76 := ⟨Try.f83.name, by decide, Try.func83.trans (congrArg some (by kernel_rfl))⟩
 f77 := ⟨Try.f84.name, by decide, Try.func84.trans (congrArg some (by kernel_rfl))⟩
 f78 := Try.func85.trans (congrArg some (by kernel_rfl))
 f79 := Try.func86.trans (congrArg some (by kernel_rfl))
 f88 := ⟨Try.f87.name, by decide, Try.func87.trans (congrArg some (by kernel_rfl))⟩
 f89 := Try.func88.trans (congrArg some (by kernel_rfl))
 f90 := Try.func89.trans (congrArg some (by kernel_rfl))
 f91 := ⟨Try.f90.name, by decide, Try.func90.trans (congrArg some (by kernel_rfl))⟩
 f92 := ⟨Try.f91.name, by decide, Try.func91.trans (congrArg some (by kernel_rfl))⟩
 f96 := ⟨Try.f93.name, by decide, Try.func93.trans (congrArg some (by kernel_rfl))⟩
 t0 := Try.underlying0
 a0 := Try.isAgg0
 z0 := Try.sizeOf0
 v0 := Try.zeroValue0
 t3 := Try.underlying3
 a3 := Try.isAgg3
 z3 := Try.sizeOf3
 v3 := Try.zeroValue3
 t4 := Try.underlying4
 a4 := Try.isAgg4
 z4 := Try.sizeOf4
 v4 := Try.zeroValue4
 t5 := Try.underlying5
 a5 := Try.isAgg5
 z5 := Try.sizeOf5
 v5 := Try.zeroValue5
 t9 := Try.underlying9
 a9 := Try.isAgg9
 z9 := Try.sizeOf9
 v9 := Try.zeroValue9
 t22 := Try.underlying22
 a22 := Try.isAgg22
 z22 := Try.sizeOf22
 v22 := Try.zeroValue22
 t23 := Try.underlying2
 a23 := Try.isAgg2
 z23 := Try.sizeOf2
 v23 := Try.zeroValue2
 t44 := Try.underlying101
 a44 := Try.isAgg101
 z44 := Try.sizeOf101
 v44 := Try.zeroValue101
 t51 := Try.underlying91
 a51 := Try.isAgg91
 z51 := Try.sizeOf91
 v51 := Try.zeroValue91
 t60 := Try.underlying95
 a60 := Try.isAgg95
 z60 := Try.sizeOf95
 v60 := Try.zeroValue95
 t61 := Try.underlying96
 a61 := Try.isAgg96
 z61 := Try.sizeOf96
 v61 := Try.zeroValue96
 t67 := Try.underlying104
 a67 := Try.isAgg104
 z67 := Try.sizeOf104
 v67 := Try.zeroValue104
 t69 := Try.underlying42
 a69 := Try.isAgg42
 z69 := Try.sizeOf42
 v69 := Try.zeroValue42
 t75 := Try.underlying106
 a75 := Try.isAgg106
 z75 := Try.sizeOf106
 v75 := Try.zeroValue106
 t79 := Try.underlying110
 a79 := Try.isAgg110
 z79 := Try.sizeOf110
 v79 := Try.zeroValue110
 t83 := Try.underlying112
 a83 := Try.isAgg112
 z83 := Try.sizeOf112
 v83 := Try.zeroValue112
 t84 := Try.underlying113
 a84 := Try.isAgg113
 z84 := Try.sizeOf113
 v84 := Try.zeroValue113 }
def Try.compactI_ren : Go.Shelf.Ren := ⟨fun | 43 => 66 | n => n, fun | 22 => 22 | 23 => 2 | 3 => 3 | 4 => 4 | 0 => 0 | n => n, fun | n => n⟩
theorem Try.compactI : Go.Proofs.SlLaysN.n43 Try.prog Try.compactI_ren := {
 mixed := by kernel_rfl
 f43 := ⟨Try.f66.name, by decide, Try.func66.trans (congrArg some (by kernel_rfl))⟩
 t0 := Try.underlying0
 a0 := Try.isAgg0
 z0 := Try.sizeOf0
 v0 := Try.zeroValue0
 t3 := Try.underlying3
 a3 := Try.isAgg3
 z3 := Try.sizeOf3
 v3 := Try.zeroValue3
 t4 := Try.underlying4
 a4 := Try.isAgg4
 z4 := Try.sizeOf4
 v4 := Try.zeroValue4
 t22 := Try.underlying22
 a22 := Try.isAgg22
 z22 := Try.sizeOf22
 v22 := Try.zeroValue22
 t23 := Try.underlying2
 a23 := Try.isAgg2
 z23 := Try.sizeOf2
 v23 := Try.zeroValue2
 i23 := by kernel_rfl }
theorem own_none {t : TypeId} {w : World} {base : Nat} {ok : Nat → Prop} {xs : List Int} (h : Kd.R (Kd.int .i64) t w base ok (.slice none 0 0) xs) : xs = [] := by
 have := (Kd.R_reads' h).1
 exact List.eq_nil_of_length_eq_zero this.symm
theorem sort_own {w0 w : World} {ok : Nat → Prop} {v : Value} {xs : List Int} (ho : Kd.R (Kd.int .i64) 2 w w0.heap.size ok v xs) (hb : Below w0.heap.size w0 w) (hl : xs.length < 4611686018427387904) :
  Calls Try.prog 65 #[v] w fun e w' => e = .returned (.tuple #[]) ∧ Kd.R (Kd.int .i64) 2 w' w0.heap.size ok v (xs.mergeSort fun x y => decide (x ≤ y)) ∧ Below w0.heap.size w0 w' := by
 by_cases hv : v = .slice none 0 0
 ·subst hv
  obtain rfl := own_none ho
  refine (AnyG.slices_Sort_int_none Try.sortI none 0 w).mono ?_
  rintro e w' ⟨rfl, rfl⟩
  exact ⟨rfl, by rw [List.mergeSort_nil]; exact ho, hb⟩
 ·have hown := Kd.own_of_R ho
  obtain ⟨g, cap, rfl, hbg, hgl, hnc, hcm, hz, hH⟩ := Go.Lib.holds_of_ownsRow (enc := Value.int .i64) hown hv
  refine (AnyG.slices_Sort_int Try.sortI g 0 cap xs w hH hgl hl).mono ?_
  rintro e w' ⟨rfl, n, os, rfl⟩
  have hlen : (xs.mergeSort fun x y => decide (x ≤ y)).length = xs.length := List.length_mergeSort _
  rcases hown.2 with ⟨e0, _⟩ | ⟨g', cap', cur, e0, hbg', hh, h1, h2, h3, h4⟩
  ·cases e0
  injection e0 with e1 _ e3
  injection e1 with e1
  injection e1 with e1
  subst e1 e3
  refine ⟨rfl, Kd.R_of_own ?_ ?_, ?_⟩
  ·have := ownsRow_sortedI (n := n) (os := os) hlen hbg hh h1 h2 h3
   rw [hlen]
   exact this
  ·exact ho.1
  ·have hp := Go.Lib.below_putRow (enc := Value.int .i64) (q := n) (d := (xs.mergeSort fun x y => decide (x ≤ y)).toArray) hb hbg
   refine ⟨hp.os, hp.tape, hp.output, Nat.le_trans hp.size (by simp [Go.Sort.grow]), fun k hk => ?_⟩
   rw [← hp.block k hk]
   exact Array.getElem?_append_left (Nat.lt_of_lt_of_le hk hp.size)
theorem compact_own {w0 w : World} {ok : Nat → Prop} {v : Value} {xs : List Int} (ho : Kd.R (Kd.int .i64) 2 w w0.heap.size ok v xs) (hb : Below w0.heap.size w0 w) (hl : xs.length ≤ 4611686018427387904) :
  Calls Try.prog 66 #[v] w fun e w' => ∃ v1, e = .returned v1 ∧ Kd.R (Kd.int .i64) 2 w' w0.heap.size ok v1 (Go.Lib.compact xs) ∧ Below w0.heap.size w0 w' := by
 by_cases hv : v = .slice none 0 0
 ·subst hv
  obtain rfl := own_none ho
  refine (AnyG.slices_Compact_int_empty Try.compactI none 0 w).mono ?_
  rintro e w' ⟨rfl, rfl⟩
  exact ⟨_, rfl, ho, hb⟩
 ·have hown := Kd.own_of_R ho
  obtain ⟨g, cap, rfl, hbg, hgl, hnc, hcm, hz, hH⟩ := Go.Lib.holds_of_ownsRow (enc := Value.int .i64) hown hv
  refine (AnyG.slices_Compact_int Try.compactI g 0 cap xs w hH (by omega) (by omega)).mono ?_
  rintro e w' ⟨rfl, q, rfl⟩
  have hle := Go.Lib.compact_length_le xs
  refine ⟨_, rfl, Kd.R_of_own ?_ ?_, ?_⟩
  ·have := Go.Lib.ownsRow_putRow (q := q) (ys := Go.Lib.compact xs ++ List.replicate (xs.length - (Go.Lib.compact xs).length) 0) hown (by simp; omega) hle
   rw [List.take_left] at this
   exact this
  ·exact ho.1
  ·exact Go.Lib.below_putRow hb hbg
def impl_Sea_placements.f (a0_0 a0_1 : Int) (l0_2 : List Int) (a1 : Int) : Option (List Int) := if inW a0_0 1 5 = true ∧ inW a0_1 1 5 = true ∧ inW a1 1 5 = true then some (placesOf a0_0.toNat a0_1.toNat a1.toNat) else none
theorem inW_nat {a : Int} (h : inW a 1 5 = true) : ∃ n : Nat, a = (n : Int) ∧ 1 ≤ n ∧ n ≤ 5 := by
 unfold inW at h
 simp only [Bool.and_eq_true, decide_eq_true_eq] at h
 exact ⟨a.toNat, by omega, by omega, by omega⟩
theorem place_small {w h : Nat} (hw : w ≤ 5) (hh : h ≤ 5) : w * h ≤ 25 := by
 have := Nat.mul_le_mul hw hh
 omega
theorem place_rem (c w : Nat) : Int.tmod (c : Int) (w : Int) = ((c % w : Nat) : Int) := by rw [Int.ofNat_tmod]
theorem place_quo (c w : Nat) : Int.tdiv (c : Int) (w : Int) = ((c / w : Nat) : Int) := by rw [Int.ofNat_tdiv]
set_option maxHeartbeats 4000000 in
set_option maxRecDepth 100000 in
theorem impl_Sea_placements.calls (a0_0 a0_1 : Int) (A0_2 : Option Addr) (c0_2 : Nat) (l0_2 : List Int) (a1 : Int) (r : List Int) (w : World) (hr0_2 : Kd.C (Kd.int .i64) w A0_2 l0_2.length l0_2) (hc0_2 : l0_2.length ≤ c0_2) (h : impl_Sea_placements.f a0_0 a0_1 l0_2 a1 = some r) :
  Calls Try.prog 49 #[.agg #[.int .i64 a0_0, .int .i64 a0_1, .slice A0_2 l0_2.length c0_2], .int .i64 a1] w fun e w' => ∃ v0_ : Value, e = .returned v0_ ∧ Kd.R (Kd.int .i64) 2 w' w.heap.size (fun _ => True) v0_ r ∧ Below w.heap.size w w' := by
 unfold impl_Sea_placements.f at h
 split at h
 case isFalse => cases h
 rename_i hcond
 obtain rfl := Option.some.inj h
 clear h
 obtain ⟨wn, rfl, hw1, hw5⟩ := inW_nat hcond.1
 obtain ⟨hn, rfl, hh1, hh5⟩ := inW_nat hcond.2.1
 obtain ⟨nn, rfl, hn1, hn5⟩ := inW_nat hcond.2.2
 simp only [Int.toNat_natCast]
 clear hcond
 have HW := Aside0.mk (show 1 ≤ wn ∧ wn ≤ 5 ∧ 1 ≤ hn ∧ hn ≤ 5 ∧ 1 ≤ nn ∧ nn ≤ 5 from ⟨hw1, hw5, hh1, hh5, hn1, hn5⟩)
 have HM := Aside0.mk (place_small hw5 hh5)
 have hmul : wrap64 ((wn : Int) * (hn : Int)) = ((wn * hn : Nat) : Int) := by
  have h1 := place_small hw5 hh5
  rw [← Int.natCast_mul]
  exact wrap_small (by omega) (by omega)
 unfold placesOf
 obtain ⟨N, hN⟩ : ∃ N, wn * hn = N := ⟨_, rfl⟩
 rw [hN] at hmul HM ⊢
 have HMul := Aside0.mk hmul
 clear hmul
 have HNN := Aside0.mk hN
 clear hN
 have hne2 : ((wn : Int) = 0) = False := eq_false (by omega)
 have hne3 : (wn = 0) = False := eq_false (by omega)
 have HB := Aside0.mk (Below.refl w.heap.size w)
 have HR := Aside0.mk hr0_2
 have HC := Aside0.mk hc0_2
 have hu28 := Try.underlying28
 have hu106 := Try.underlying85
 have hcells : Try.prog.cellsOf 85 = 2 := by kernel_rfl
 have hne0 : ((wn : Int) == 0) = false := beq_eq_false_iff_ne.mpr (by omega)
 have hne1 : ((wn : Int) != 0) = true := bne_iff_ne.mpr (by omega)
 clear hr0_2 hc0_2
 clear hw1 hw5 hh1 hh5 hn1 hn5
 go_enter Try.func49, Try.ntmps49
 go_wp2_with (first | ((with_reducible refine gate_dst (N := 2) rfl ?_); refine box_event ?hg (N := 2) ?hd (cs := #[.int .i64 (wn : Int), .int .i64 (hn : Int), .slice A0_2 l0_2.length c0_2]) (t := 28) ?hr ?_; (case hd => rfl); (case hg => rfl); (case hr => first | (go_simp; done) | (go_simp; rfl)); intro g2 hg2 w1 hbox hb; have HX1 := Aside0.mk hbox; have HB1 := Aside0.mk (bp_ HB.out hb); have HRR1 := Aside0.mk (Kd.C_below HR.out hb); have hs0 := (bc_ hbox 0).trans rfl; have hs1 := (bc_ hbox 1).trans rfl; have hs2 := (bc_ hbox 2).trans rfl; clear hbox hb hg2) | ((with_reducible refine gate_dst (N := 13) rfl ?_); refine Kd.R_lit (Kd.int .i64) _ 2 ?hg (N := 13) ?hd (xs := ([] : List Int)) (inner := []) (ok := fun _ => True) (okp := fun _ => True) ?hr ?hp (fun _ hk => hk) trivial (Below.refl _ _) (Nat.le_refl _) (by simp) ?_; (case hd => rfl); (case hg => rfl); (case hr => first | (go_simp; done) | (go_simp; rfl)); (case hp => exact (Reps.none _ _)); intro v0 w2 ho hb hg_ hnew_; clear hg_ hnew_; have HO2 := Aside0.mk (Kd.R_lower ho (bz_ HB1.out)); have HX2 := Aside0.mk (bb_ HX1.out hb); have HRR2 := Aside0.mk (Kd.C_below HRR1.out hb); have HB2 := Aside0.mk (bp_ HB1.out hb); (try clear hs0 hs1 hs2); have hs0 := (bc_ HX2.out 0).trans rfl; have hs1 := (bc_ HX2.out 1).trans rfl; have hs2 := (bc_ HX2.out 2).trans rfl; clear ho hb HX1 HRR1 HB1) | (go_at_call 54; refine (impl_Sea_cells.calls (wn : Int) (hn : Int) A0_2 c0_2 l0_2 _ _ HRR2.out HC.out rfl).mono ?_; rintro e w3 ⟨rfl, hb⟩; have HO3 := Aside0.mk (Kd.R_below HO2.out hb); have HX3 := Aside0.mk (bb_ HX2.out hb); have HB3 := Aside0.mk (bp_ HB2.out hb); clear hs0 hs1 hs2 hb HO2 HX2 HRR2 HB2))
 (try rw [HMul.out])
 go_loopg [5, 16] (N) (fun gg s5 s16 wr => ∃ kk : Nat, kk ≤ N ∧ N - kk ≤ gg ∧ s16 = .int .i64 kk ∧ Aside0 (Kd.R (Kd.int .i64) 2 wr w.heap.size (fun _ => True) s5 (placeTo wn hn nn kk)) ∧ Aside0 (wr.heap[g2]? = some (.cells #[.int .i64 (wn : Int), .int .i64 (hn : Int), .slice A0_2 l0_2.length c0_2] 28 (0, 0))) ∧ Aside0 (Below w.heap.size w wr))
 case atStart => exact ⟨0, by omega, by omega, rfl, HO3, HX3, HB3⟩
 case round =>
  obtain ⟨kk, hkk, hgg, rfl, HO4, HX4, HB4⟩ := hrel
  clear HO3 HX3 HB3
  by_cases hlt : kk < N
  case pos =>
   have hltz : decide ((kk : Int) < (N : Int)) = true := decide_eq_true (by omega)
   have hltn : decide (kk < N) = true := decide_eq_true hlt
   have hltz1 := eq_true (show (kk : Int) < (N : Int) by omega)
   have hs0 := (bc_ HX4.out 0).trans rfl
   have hs1 := (bc_ HX4.out 1).trans rfl
   obtain ⟨x, hx⟩ : ∃ x, kk % wn = x := ⟨_, rfl⟩
   obtain ⟨y, hy⟩ : ∃ y, kk / wn = y := ⟨_, rfl⟩
   have HXY := Aside0.mk (show x < wn ∧ y < hn ∧ kk = wn * y + x by
    have h1 := Nat.mod_lt kk (show 0 < wn by have := HW.out; omega)
    have h2 := Nat.div_add_mod kk wn
    have h3 : kk / wn < hn := Nat.div_lt_of_lt_mul (by rw [HNN.out]; exact hlt)
    rw [hx] at h1 h2; rw [hy] at h2 h3; exact ⟨h1, h3, h2.symm⟩)
   have hrem : Int.tmod (kk : Int) (wn : Int) = (x : Int) := by rw [place_rem, hx]
   have hquo : Int.tdiv (kk : Int) (wn : Int) = (y : Int) := by rw [place_quo, hy]
   have hquw : wrap64 (y : Int) = (y : Int) := wrap_num (by have := HXY.out; have := HW.out; omega)
   have HXe := Aside0.mk hx
   have HYe := Aside0.mk hy
   clear hx hy
   go_wp2_with fail
   go_quiet (fail)
   clear hrem hquo
   go_wp2_with (first | ((with_reducible refine gate_dst (N := 29) rfl ?_); refine lit_event ?hg (N := 29) ?hd (cs := #[.int .i64 1, .int .i64 0, .int .i64 0, .int .i64 1]) (t := 85) (n := 2) ?hr ?_; (case hd => rfl); (case hg => rfl); (case hr => first | (go_simp; done) | (go_simp; rfl)); intro g1 hg1 w5 hbox hb; have HL1 := Aside0.mk hbox; have HO1 := Aside0.mk (Kd.R_below (Kd.R_drewN HO4.out nq) hb); have HX1 := Aside0.mk (bb_ (bN_ HX4.out nq) hb); have HB1 := Aside0.mk (bp_ (pbN_ HB4.out nq) hb); have HG := Aside0.mk (show w.heap.size ≤ g1 by have := bz_ (pbN_ HB4.out nq); omega); (try clear hs0 hs1); clear hb hbox hg1 HO4 HX4 HB4))
   clear hquw
   obtain ⟨n1, hn1e⟩ : ∃ n1 : Int, ((nn - 1 : Nat) : Int) = n1 := ⟨_, rfl⟩
   have HN1 := Aside0.mk hn1e
   have HN2 := Aside0.mk (show wrap64 ((nn : Int) - 1) = n1 by rw [← hn1e, show ((nn : Int) - 1) = ((nn - 1 : Nat) : Int) by have := HW.out; omega]; exact wrap_num (by have := HW.out; omega))
   clear hn1e
   go_loopg [5, 31] 2 (fun gg s5 s31 wr => ∃ j : Nat, j ≤ 2 ∧ 2 - j ≤ gg ∧ s31 = .int .i64 j ∧ Aside0 (Kd.R (Kd.int .i64) 2 wr w.heap.size (fun _ => True) s5 (placeTo wn hn nn kk ++ placeFew wn hn nn kk j)) ∧ Aside0 (wr.heap[g2]? = some (.cells #[.int .i64 (wn : Int), .int .i64 (hn : Int), .slice A0_2 l0_2.length c0_2] 28 (0, 0))) ∧ Aside0 (wr.heap[g1]? = some (.cells #[.int .i64 1, .int .i64 0, .int .i64 0, .int .i64 1] 85 (0, 0))) ∧ Aside0 (Below w.heap.size w wr))
   case atStart => exact ⟨0, by omega, by omega, rfl, ⟨by rw [show placeFew wn hn nn kk 0 = [] from rfl, List.append_nil]; exact HO1.out⟩, HX1, HL1, HB1⟩
   case round =>
    obtain ⟨j, hj, hgj, rfl, HO, HX, HL, HB⟩ := hrel
    clear HO1 HX1 HL1 HB1
    (try clear hs0 hs1)
    by_cases hj2 : j < 2
    case pos =>
     have hs0 := (bc_ HX.out 0).trans rfl
     have hs1 := (bc_ HX.out 1).trans rfl
     have hjz := decide_eq_true (show (j : Int) < 2 by omega)
     have hjn := decide_eq_true hj2
     have hjp := eq_true (show (j : Int) < 2 by omega)
     have HMe := Aside0.mk (show 2 - (j + 1) < gk by omega)
     have HRe := Aside0.mk (show j + 1 ≤ 2 by omega)
     have HJ1 := Aside0.mk (wrap_one (a := j) (by omega))
     have h01 : j = 0 ∨ j = 1 := by omega
     have hc0 : wr.cell? ⟨g1, j * 2, none⟩ = some (.int .i64 (dirA j)) := (bc_ HL.out _).trans (by rcases h01 with rfl | rfl <;> rfl)
     have hc1 : wr.cell? ⟨g1, j * 2 + 1, none⟩ = some (.int .i64 (dirB j)) := (bc_ HL.out _).trans (by rcases h01 with rfl | rfl <;> rfl)
     clear h01
     have HF := place_dir HW.out HXY.out.1 HXY.out.2.1 HXe.out HYe.out hj2
     rw [HN1.out] at HF
     generalize dirA j = dA at hc0 HF
     generalize dirB j = dB at hc1 HF
     obtain ⟨eA, eB, sB, fA, fB, st, bA, bB, heA, heB, hsB, hst, hsj, hfA, hfB, hbA, hbB, hok⟩ := HF
     have hn1 := HN2.out
     have HOK := Aside0.mk hok
     have HSJ := Aside0.mk hsj
     have HFe := Aside0.mk (show placeFew wn hn nn kk (j + 1) = if placeOk wn hn nn kk j then placeFew wn hn nn kk j ++ [placeSet wn nn kk j] else placeFew wn hn nn kk j from rfl)
     clear hok hsj
     cases bA with
     | true =>
      have HE := Aside0.mk (show placeTo wn hn nn kk ++ placeFew wn hn nn kk (j + 1) = placeTo wn hn nn kk ++ placeFew wn hn nn kk j by rw [HFe.out, if_neg (by rw [HOK.out]; simp)])
      go_wp2_with (first | ((with_reducible refine gate_dst (N := 10) rfl ?_); refine box_event ?hg (N := 10) ?hd (cs := #[.int .i64 0, .int .i64 0]) (t := 85) ?hr ?_; (case hd => rfl); (case hg => rfl); (case hr => first | (go_simp; done) | (go_simp; rfl)); intro g9 hg9 w7 hbox hb; have hd0 : w7.cell? ⟨g9, 0, none⟩ = some (.int .i64 0) := (bc_ hbox 0).trans rfl; have hd1 : w7.cell? ⟨g9, 1, none⟩ = some (.int .i64 0) := (bc_ hbox 1).trans rfl; have hf0 : w7.frozen? ⟨g9, 0, none⟩ = false := bf_ hbox 0; have hf1 : (w7.setCell ⟨g9, 0, none⟩ (.int .i64 dA)).frozen? ⟨g9, 1, none⟩ = false := bf_ (blk_set hbox 0 _) 1; have HY0 := Aside0.mk hbox; have HX7 := Aside0.mk (bb_ HX.out hb); have HL7 := Aside0.mk (bb_ HL.out hb); have HO7 := Aside0.mk (Kd.R_below (Kd.R_elderB HO.out g9 (by omega)) hb); have HG9 := Aside0.mk (show w.heap.size ≤ g9 by have := bz_ HB.out; omega); have HG19 := Aside0.mk (show g1 ≠ g9 by have := blk_lt HL.out; omega); have HG29 := Aside0.mk (show g2 ≠ g9 by have := blk_lt HX.out; omega); have HB7 := Aside0.mk (bp_ HB.out hb); clear hb hbox hg9 hc0 hc1) | ((with_reducible refine gate_store (t := 85) (p := 10) rfl ?_); refine store_event (t := 85) (p := 10) (v := .tmp 34) (w1 := ((w7.setCell ⟨g9, 0, none⟩ (.int .i64 dA)).setCell ⟨g9, 1, none⟩ (.int .i64 dB))) ?hg ?ho ?hn ?hr ?_; (case ho => rfl); (case hg => rfl); (case hn => rfl); (case hr => first | (go_simp; done) | (go_simp; rfl)); intro w8 hw8; have HY := Aside0.mk (show w8.heap[g9]? = some (.cells #[.int .i64 dA, .int .i64 dB] 85 (0, 0)) by rw [hw8]; exact blk_put (blk_put HY0.out 0 _ rfl) 1 _ rfl); have t1_ := blk_far (p := ⟨g9, 1, none⟩) (blk_far (p := ⟨g9, 0, none⟩) HX7.out HG29.out (.int .i64 dA)) HG29.out (.int .i64 dB); rw [← hw8] at t1_; have HX8 := Aside0.mk t1_; clear t1_; have t1_ := blk_far (p := ⟨g9, 1, none⟩) (blk_far (p := ⟨g9, 0, none⟩) HL7.out HG19.out (.int .i64 dA)) HG19.out (.int .i64 dB); rw [← hw8] at t1_; have HL8 := Aside0.mk t1_; clear t1_; have t1_ := Kd.R_far (p := ⟨g9, 1, none⟩) (Kd.R_far (p := ⟨g9, 0, none⟩) HO7.out (fun _ hk => hk.2) (.int .i64 dA)) (fun _ hk => hk.2) (.int .i64 dB); rw [← hw8] at t1_; have HO8 := Aside0.mk t1_; clear t1_; have HB8 := Aside0.mk (show Below w.heap.size w w8 by rw [hw8]; exact arr_below (arr_below HB7.out HG9.out _ _) HG9.out _ _); have hc2 : w8.cell? ⟨g9, 0, none⟩ = some (.int .i64 dA) := (bc_ HY.out 0).trans rfl; have hc3 : w8.cell? ⟨g9, 1, none⟩ = some (.int .i64 dB) := (bc_ HY.out 1).trans rfl; have hs0 := (bc_ HX8.out 0).trans rfl; have hs1 := (bc_ HX8.out 1).trans rfl; clear hw8 hd0 hd1 hf0 hf1))
      go_roundg (2 - (j + 1))
      case measure => exact HMe.out
      case rel => exact ⟨j + 1, HRe.out, Nat.le_refl _, (by first | rfl | exact congrArg (Value.int .i64) HJ1.out), ⟨by rw [HE.out]; exact Kd.R_mono HO8.out (fun _ hk => hk.1)⟩, HX8, HL8, HB8⟩
     | false =>
      cases bB with
      | true =>
       have HE := Aside0.mk (show placeTo wn hn nn kk ++ placeFew wn hn nn kk (j + 1) = placeTo wn hn nn kk ++ placeFew wn hn nn kk j by rw [HFe.out, if_neg (by rw [HOK.out]; simp)])
       go_wp2_with (first | ((with_reducible refine gate_dst (N := 10) rfl ?_); refine box_event ?hg (N := 10) ?hd (cs := #[.int .i64 0, .int .i64 0]) (t := 85) ?hr ?_; (case hd => rfl); (case hg => rfl); (case hr => first | (go_simp; done) | (go_simp; rfl)); intro g9 hg9 w7 hbox hb; have hd0 : w7.cell? ⟨g9, 0, none⟩ = some (.int .i64 0) := (bc_ hbox 0).trans rfl; have hd1 : w7.cell? ⟨g9, 1, none⟩ = some (.int .i64 0) := (bc_ hbox 1).trans rfl; have hf0 : w7.frozen? ⟨g9, 0, none⟩ = false := bf_ hbox 0; have hf1 : (w7.setCell ⟨g9, 0, none⟩ (.int .i64 dA)).frozen? ⟨g9, 1, none⟩ = false := bf_ (blk_set hbox 0 _) 1; have HY0 := Aside0.mk hbox; have HX7 := Aside0.mk (bb_ HX.out hb); have HL7 := Aside0.mk (bb_ HL.out hb); have HO7 := Aside0.mk (Kd.R_below (Kd.R_elderB HO.out g9 (by omega)) hb); have HG9 := Aside0.mk (show w.heap.size ≤ g9 by have := bz_ HB.out; omega); have HG19 := Aside0.mk (show g1 ≠ g9 by have := blk_lt HL.out; omega); have HG29 := Aside0.mk (show g2 ≠ g9 by have := blk_lt HX.out; omega); have HB7 := Aside0.mk (bp_ HB.out hb); clear hb hbox hg9 hc0 hc1) | ((with_reducible refine gate_store (t := 85) (p := 10) rfl ?_); refine store_event (t := 85) (p := 10) (v := .tmp 34) (w1 := ((w7.setCell ⟨g9, 0, none⟩ (.int .i64 dA)).setCell ⟨g9, 1, none⟩ (.int .i64 dB))) ?hg ?ho ?hn ?hr ?_; (case ho => rfl); (case hg => rfl); (case hn => rfl); (case hr => first | (go_simp; done) | (go_simp; rfl)); intro w8 hw8; have HY := Aside0.mk (show w8.heap[g9]? = some (.cells #[.int .i64 dA, .int .i64 dB] 85 (0, 0)) by rw [hw8]; exact blk_put (blk_put HY0.out 0 _ rfl) 1 _ rfl); have t1_ := blk_far (p := ⟨g9, 1, none⟩) (blk_far (p := ⟨g9, 0, none⟩) HX7.out HG29.out (.int .i64 dA)) HG29.out (.int .i64 dB); rw [← hw8] at t1_; have HX8 := Aside0.mk t1_; clear t1_; have t1_ := blk_far (p := ⟨g9, 1, none⟩) (blk_far (p := ⟨g9, 0, none⟩) HL7.out HG19.out (.int .i64 dA)) HG19.out (.int .i64 dB); rw [← hw8] at t1_; have HL8 := Aside0.mk t1_; clear t1_; have t1_ := Kd.R_far (p := ⟨g9, 1, none⟩) (Kd.R_far (p := ⟨g9, 0, none⟩) HO7.out (fun _ hk => hk.2) (.int .i64 dA)) (fun _ hk => hk.2) (.int .i64 dB); rw [← hw8] at t1_; have HO8 := Aside0.mk t1_; clear t1_; have HB8 := Aside0.mk (show Below w.heap.size w w8 by rw [hw8]; exact arr_below (arr_below HB7.out HG9.out _ _) HG9.out _ _); have hc2 : w8.cell? ⟨g9, 0, none⟩ = some (.int .i64 dA) := (bc_ HY.out 0).trans rfl; have hc3 : w8.cell? ⟨g9, 1, none⟩ = some (.int .i64 dB) := (bc_ HY.out 1).trans rfl; have hs0 := (bc_ HX8.out 0).trans rfl; have hs1 := (bc_ HX8.out 1).trans rfl; clear hw8 hd0 hd1 hf0 hf1))
       go_roundg (2 - (j + 1))
       case measure => exact HMe.out
       case rel => exact ⟨j + 1, HRe.out, Nat.le_refl _, (by first | rfl | exact congrArg (Value.int .i64) HJ1.out), ⟨by rw [HE.out]; exact Kd.R_mono HO8.out (fun _ hk => hk.1)⟩, HX8, HL8, HB8⟩
      | false =>
       have HE := Aside0.mk (show placeTo wn hn nn kk ++ placeFew wn hn nn kk (j + 1) = (placeTo wn hn nn kk ++ placeFew wn hn nn kk j) ++ [((rowN kk st nn : Nat) : Int)] by rw [HFe.out, if_pos (by rw [HOK.out]; rfl), List.append_assoc, HSJ.out]; rfl)
       have HLn := Aside0.mk (place_room (hn := hn) (nn := nn) HM.out (Nat.le_of_lt hlt) hj : ((placeTo wn hn nn kk ++ placeFew wn hn nn kk j).length + 1) * 8 ≤ 140737488355328)
       have HKN := Aside0.mk (place_reach HW.out HM.out (Nat.le_of_lt hlt) HSJ.out)
       generalize placeTo wn hn nn kk ++ placeFew wn hn nn kk j = xs at HO HE HLn
       go_wp2_with (first | ((with_reducible refine gate_dst (N := 10) rfl ?_); refine box_event ?hg (N := 10) ?hd (cs := #[.int .i64 0, .int .i64 0]) (t := 85) ?hr ?_; (case hd => rfl); (case hg => rfl); (case hr => first | (go_simp; done) | (go_simp; rfl)); intro g9 hg9 w7 hbox hb; have hd0 : w7.cell? ⟨g9, 0, none⟩ = some (.int .i64 0) := (bc_ hbox 0).trans rfl; have hd1 : w7.cell? ⟨g9, 1, none⟩ = some (.int .i64 0) := (bc_ hbox 1).trans rfl; have hf0 : w7.frozen? ⟨g9, 0, none⟩ = false := bf_ hbox 0; have hf1 : (w7.setCell ⟨g9, 0, none⟩ (.int .i64 dA)).frozen? ⟨g9, 1, none⟩ = false := bf_ (blk_set hbox 0 _) 1; have HY0 := Aside0.mk hbox; have HX7 := Aside0.mk (bb_ HX.out hb); have HL7 := Aside0.mk (bb_ HL.out hb); have HO7 := Aside0.mk (Kd.R_below (Kd.R_elderB HO.out g9 (by omega)) hb); have HG9 := Aside0.mk (show w.heap.size ≤ g9 by have := bz_ HB.out; omega); have HG19 := Aside0.mk (show g1 ≠ g9 by have := blk_lt HL.out; omega); have HG29 := Aside0.mk (show g2 ≠ g9 by have := blk_lt HX.out; omega); have HB7 := Aside0.mk (bp_ HB.out hb); clear hb hbox hg9 hc0 hc1) | ((with_reducible refine gate_store (t := 85) (p := 10) rfl ?_); refine store_event (t := 85) (p := 10) (v := .tmp 34) (w1 := ((w7.setCell ⟨g9, 0, none⟩ (.int .i64 dA)).setCell ⟨g9, 1, none⟩ (.int .i64 dB))) ?hg ?ho ?hn ?hr ?_; (case ho => rfl); (case hg => rfl); (case hn => rfl); (case hr => first | (go_simp; done) | (go_simp; rfl)); intro w8 hw8; have HY := Aside0.mk (show w8.heap[g9]? = some (.cells #[.int .i64 dA, .int .i64 dB] 85 (0, 0)) by rw [hw8]; exact blk_put (blk_put HY0.out 0 _ rfl) 1 _ rfl); have t1_ := blk_far (p := ⟨g9, 1, none⟩) (blk_far (p := ⟨g9, 0, none⟩) HX7.out HG29.out (.int .i64 dA)) HG29.out (.int .i64 dB); rw [← hw8] at t1_; have HX8 := Aside0.mk t1_; clear t1_; have t1_ := blk_far (p := ⟨g9, 1, none⟩) (blk_far (p := ⟨g9, 0, none⟩) HL7.out HG19.out (.int .i64 dA)) HG19.out (.int .i64 dB); rw [← hw8] at t1_; have HL8 := Aside0.mk t1_; clear t1_; have t1_ := Kd.R_far (p := ⟨g9, 1, none⟩) (Kd.R_far (p := ⟨g9, 0, none⟩) HO7.out (fun _ hk => hk.2) (.int .i64 dA)) (fun _ hk => hk.2) (.int .i64 dB); rw [← hw8] at t1_; have HO8 := Aside0.mk t1_; clear t1_; have HB8 := Aside0.mk (show Below w.heap.size w w8 by rw [hw8]; exact arr_below (arr_below HB7.out HG9.out _ _) HG9.out _ _); have hc2 : w8.cell? ⟨g9, 0, none⟩ = some (.int .i64 dA) := (bc_ HY.out 0).trans rfl; have hc3 : w8.cell? ⟨g9, 1, none⟩ = some (.int .i64 dB) := (bc_ HY.out 1).trans rfl; have hs0 := (bc_ HX8.out 0).trans rfl; have hs1 := (bc_ HX8.out 1).trans rfl; clear hw8 hd0 hd1 hf0 hf1))
       go_loopg [11, 58] nn (fun gg s11 s58 wr => ∃ i : Nat, i ≤ nn ∧ nn - i ≤ gg ∧ s58 = .int .i64 i ∧ s11 = .int .i64 (rowN kk st i : Nat) ∧ Aside0 (Kd.R (Kd.int .i64) 2 wr w.heap.size (fun _ => True) u5 xs) ∧ Aside0 (wr.heap[g2]? = some (.cells #[.int .i64 (wn : Int), .int .i64 (hn : Int), .slice A0_2 l0_2.length c0_2] 28 (0, 0))) ∧ Aside0 (wr.heap[g1]? = some (.cells #[.int .i64 1, .int .i64 0, .int .i64 0, .int .i64 1] 85 (0, 0))) ∧ Aside0 (wr.heap[g9]? = some (.cells #[.int .i64 dA, .int .i64 dB] 85 (0, 0))) ∧ Aside0 (Below w.heap.size w wr))
       case atStart => exact ⟨0, Nat.zero_le _, Nat.le_refl _, rfl, rfl, ⟨Kd.R_mono HO8.out (fun _ hk => hk.1)⟩, HX8, HL8, HY, HB8⟩
       case round =>
        obtain ⟨i, hi, hgi, rfl, hs11, HOb, HXb, HLb, HYb, HBb⟩ := hrel
        clear HO8 HX8 HL8 HY HB8 HO7 HX7 HL7 HB7 HY0
        (try clear hc2 hc3)
        (try clear hs0 hs1)
        by_cases hin : i < nn
        case pos =>
         have hs0 := (bc_ HXb.out 0).trans rfl
         have hc2 := (bc_ HYb.out 0).trans rfl
         have hc3 := (bc_ HYb.out 1).trans rfl
         have hizt : (i : Int) < (nn : Int) := Int.ofNat_lt.2 hin
         have hiz := decide_eq_true hizt
         have hizn := decide_eq_true hin
         have hizp := eq_true hizt
         clear hizt
         have HMi := Aside0.mk (show nn - (i + 1) < gk from Nat.lt_of_lt_of_le (Nat.sub_lt_sub_left hin (Nat.lt_succ_self i)) hgi)
         have HJi := Aside0.mk (wrap_one (a := i) (Nat.le_trans (Nat.le_of_lt hin) (Nat.le_trans HW.out.2.2.2.2.2 (by simp))))
         obtain ⟨pp, qq, ee, hk1, hk2, hk3, hk5, hk4, hq0a, hq1a⟩ := place_bits (kk := kk) (st := st) (i := i) (fun a ha => HKN.out a (Nat.lt_of_lt_of_le ha hin))
         have hq0 := eq_true hq0a
         have hq1 := decide_eq_false hq1a
         have hq2 := eq_false hq1a
         obtain ⟨o1, ho1⟩ : ∃ o1 : Int, ((rowN kk st i : Nat) : Int) = o1 := ⟨_, rfl⟩
         obtain ⟨o2, ho2⟩ : ∃ o2 : Int, ((rowN kk st (i + 1) : Nat) : Int) = o2 := ⟨_, rfl⟩
         rw [ho1, ho2] at hk4
         rw [ho1] at hs11
         have HO2e := Aside0.mk ho2
         have HIN := Aside0.mk hin
         subst hs11
         clear ho1 ho2 hq0a hq1a hin
         go_wp2_with fail
         go_roundg (nn - (i + 1))
         case measure => exact HMi.out
         case rel => exact ⟨i + 1, HIN.out, Nat.le_refl _, (by first | rfl | exact congrArg (Value.int .i64) HJi.out), congrArg (Value.int .i64) HO2e.out.symm, HOb, HXb, HLb, HYb, HBb⟩
        case neg =>
         have hie : i = nn := Nat.le_antisymm hi (Nat.le_of_not_lt hin)
         subst hie
         have hiz := decide_eq_false (show ¬ (i : Int) < (i : Int) from Int.lt_irrefl _)
         obtain ⟨sN, hsN⟩ : ∃ sN : Int, ((rowN kk st i : Nat) : Int) = sN := ⟨_, rfl⟩
         rw [hsN] at hs11 HE
         clear hsN
         subst hs11
         go_wp2_with (first | ((with_reducible refine gate_builtin (b := .append) (xs := #[.tmp 77, .tmp 79]) rfl ?_); at_builtin; refine Kd.R_append (Kd.int .i64) (w0 := w) w.heap.size rfl (.tmp 77) (.tmp 79) 22 2 (.int .i64 0) 8 rfl Try.underlying22 info2 rfl (by decide) (by omega) u5 xs (sN : Int) [.int .i64 (sN : Int)] (fun _ => True) (fun _ => False) rfl rfl ?aP (fun _ hk => hk.elim) ?aF ?aO ?aB ?aS ?aL ?_; (case aP => exact rfl); (case aF => exact fun _ _ => trivial); (case aO => exact HOb.out); (case aB => exact HBb.out); (case aS => exact bz_ HBb.out); (case aL => exact HLn.out); intro v2 w11 ho hb hg hat; have HO11 := Aside0.mk ho; have HB11 := Aside0.mk hb; have HX11 := Aside0.mk (blk_grown HXb.out hg (Kd.R_ne HOb.out HXb.out (by decide))); have HL11 := Aside0.mk (blk_grown HLb.out hg (Kd.R_ne HOb.out HLb.out (by decide))); clear ho hb hg hat))
         go_roundg (2 - (j + 1))
         case measure => exact HMe.out
         case rel => exact ⟨j + 1, HRe.out, Nat.le_refl _, (by first | rfl | exact congrArg (Value.int .i64) HJ1.out), ⟨by rw [HE.out]; exact HO11.out⟩, HX11, HL11, HB11⟩
    case neg =>
     have hje : j = 2 := by omega
     subst hje
     go_wp2_with fail
     go_roundg (N - (kk + 1))
     case measure => omega
     case rel => have hm25 := HM.out; exact ⟨kk + 1, by omega, by omega, (by first | rfl | exact congrArg (Value.int .i64) (wrap_one (a := kk) (by omega))), ⟨by have h := HO.out; rw [placeFew_two] at h; exact h⟩, HX, HB⟩
  case neg =>
   have hke : N = kk := by omega
   subst hke
   have hnz : decide ((N : Int) < (N : Int)) = false := decide_eq_false (by omega)
   have hnn : decide (N < N) = false := decide_eq_false (by omega)
   have HS0 := Aside0.mk (placeTo_len wn hn nn N)
   have HSO := fun W (ho : Kd.R (Kd.int .i64) 2 W w.heap.size (fun _ => True) u5 (placeTo wn hn nn N)) (hb : Below w.heap.size w W) => sort_own ho hb (by have := HS0.out; have := HM.out; omega)
   go_wp2_with (first | (go_at_call 65; refine (HSO _ HO4.out HB4.out).mono ?_; rintro e w5 ⟨rfl, ho, hb⟩; have HO5 := Aside0.mk ho; have HB5 := Aside0.mk hb; clear ho hb) | (go_at_call 66; refine (compact_own HO5.out HB5.out (by rw [List.length_mergeSort]; have := HS0.out; have := HM.out; omega)).mono ?_; rintro e w6 ⟨v1, rfl, ho, hb⟩; have HO6 := Aside0.mk ho; have HB6 := Aside0.mk hb; clear ho hb))
   go_ret
   exact ⟨_, rfl, HO6.out, HB6.out⟩
set_option maxHeartbeats 4000000 in
set_option maxRecDepth 100000 in
theorem slices_IndexFunc_int64_int64.calls (g : Nat) (lb : Array Value) (q : Int → Prop) (p : Int → Bool) (eg : ∀ args w, (callFunc g args).run Try.prog w = .ok (.enter g args) w)
  (A0 : Option Addr) (c0 : Nat) (l0 : List Int) (w : World) (hp : PredK Try.prog g lb (Kd.int .i64) q p w) (hq : ∀ x ∈ l0, q x) (hr0 : Kd.C (Kd.int .i64) w A0 l0.length l0) (hm : l0.length ≤ 9223372036854775807) :
  Calls Try.prog 74 #[.slice A0 l0.length c0, .func (.func g) #[] lb] w fun e w' => e = .returned (.int .i64 (idxK p l0 0)) ∧ Below w.heap.size w w' := by
 have HP := Aside0.mk hp
 have HR := Aside0.mk hr0
 have HQ := Aside0.mk hq
 clear hp hr0 hq
 go_enter Try.func74, Try.ntmps74
 go_wp2
 go_loopg [5, 8] l0.length (fun gg _ s8 wr => ∃ kk : Nat, kk ≤ l0.length ∧ l0.length - kk ≤ gg ∧ s8 = .int .i64 kk ∧ Aside0 (idxK p (l0.drop kk) kk = idxK p l0 0) ∧ Aside0 (Below w.heap.size w wr))
 case atStart => exact ⟨0, Nat.zero_le _, by omega, rfl, ⟨rfl⟩, ⟨Below.refl _ _⟩⟩
 case round =>
  obtain ⟨kk, hkk, hg, rfl, A, HB⟩ := hrel
  by_cases hlt : kk < l0.length
  ·have hltz : (kk : Int) < (l0.length : Int) := by omega
   obtain ⟨ad, v, rfl, hcell, hK⟩ := Kd.C_one rfl (Kd.C_below HR.out HB.out) kk hlt rfl
   have hcall := HP.out wr _ v (HQ.out _ (List.getElem_mem hlt)) hK HB.out
   have HK1 := (Kd.int .i64).K_one hK v (by simp)
   have E := Aside0.mk (idxK_drop p l0 kk hlt)
   generalize p l0[kk] = b at hcall E
   clear hK
   cases b with
   | true =>
    go_wp2_with (go_at_fn g; refine hcall.mono ?_; rintro e w' ⟨rfl, hb⟩)
    go_ret
    refine ⟨?_, below_then HB.out HB.out.size hb⟩
    rw [← A.out, E.out]; rfl
   | false =>
    go_wp2_with (go_at_fn g; refine hcall.mono ?_; rintro e w' ⟨rfl, hb⟩)
    go_roundg (l0.length - (kk + 1))
    case measure => omega
    case rel => exact ⟨kk + 1, by omega, by omega, by go_num, ⟨by rw [← A.out, E.out]; rfl⟩, ⟨below_then HB.out HB.out.size hb⟩⟩
  ·have hltz : ¬ (kk : Int) < (l0.length : Int) := by omega
   have : kk = l0.length := by omega
   subst this
   go_wp2
   go_ret
   refine ⟨?_, HB.out⟩
   rw [← A.out]; simp [idxK]
set_option maxHeartbeats 1000000 in
theorem slices_ContainsFunc_int64_int64.calls (g : Nat) (lb : Array Value) (q : Int → Prop) (p : Int → Bool) (eg : ∀ args w, (callFunc g args).run Try.prog w = .ok (.enter g args) w)
  (A0 : Option Addr) (c0 : Nat) (l0 : List Int) (w : World) (hp : PredK Try.prog g lb (Kd.int .i64) q p w) (hq : ∀ x ∈ l0, q x) (hr0 : Kd.C (Kd.int .i64) w A0 l0.length l0) (hm : l0.length ≤ 9223372036854775807) :
  Calls Try.prog 67 #[.slice A0 l0.length c0, .func (.func g) #[] lb] w fun e w' => e = .returned (.bool (l0.any p)) ∧ Below w.heap.size w w' := by
 rw [← idxK_any]
 have HI := slices_IndexFunc_int64_int64.calls g lb q p eg A0 c0 l0 w hp hq hr0 hm
 clear hp hq hr0
 generalize idxK p l0 0 = r at HI ⊢
 go_enter Try.func67, Try.ntmps67
 go_wp2_with (go_at_call 74; refine HI.mono ?_; rintro e w' ⟨rfl, hb⟩)
 go_ret
 exact ⟨rfl, hb⟩
def goesStop (ships list : List Int) (own : Int) : Bool := decide (0 < list.length) && (decide (rd ships list.length = rd ships ((list.length : Int) - 1)) && decide (own ≤ rd list ((list.length : Int) - 1)))
def goesV (ships list : List Int) (own : Int) : Bool := !goesStop ships list own && !list.any (fun x => Go.bits .and .i64 x own != 0)
def impl_Sea_goesOn.f (a0_0 a0_1 : Int) (l0_2 l1 : List Int) (a2 : Int) : Option Bool := if l1.length < l0_2.length ∧ l0_2.length ≤ 1000 then some (goesV l0_2 l1 a2) else none
theorem goesPred (B : Nat) (a2 : Int) (w : World) (hbox : w.heap[B]? = some (.cells #[.int .i64 a2] 2 (0, 0))) :
  PredK Try.prog 68 #[.pointer (some ⟨B, 0, none⟩)] (Kd.int .i64) (fun _ => True) (fun x => Go.bits .and .i64 x a2 != 0) w := by
 intro W x v _ hK hb
 obtain rfl : v = .int .i64 x := by simpa [Kd.int, Kd.scalar] using hK
 show Calls Try.prog 68 #[.int .i64 x, .pointer (some ⟨B, 0, none⟩)] W _
 have hc0 : W.cell? ⟨B, 0, none⟩ = some (.int .i64 a2) := (bc_ (bb_ hbox hb) 0).trans rfl
 clear hbox hK hb
 go_enter Try.func68, Try.ntmps68
 go_wp2_with fail
 go_ret
 exact ⟨rfl, Below.refl _ _⟩
set_option maxHeartbeats 4000000 in
set_option maxRecDepth 100000 in
theorem impl_Sea_goesOn.calls (a0_0 a0_1 : Int) (A0_2 : Option Addr) (c0_2 : Nat) (l0_2 : List Int) (A1 : Option Addr) (c1 : Nat) (l1 : List Int) (a2 : Int) (r : Bool) (w : World) (hr0_2 : Kd.C (Kd.int .i64) w A0_2 l0_2.length l0_2) (hc0_2 : l0_2.length ≤ c0_2) (hr1 : Kd.C (Kd.int .i64) w A1 l1.length l1) (hc1 : l1.length ≤ c1) (h : impl_Sea_goesOn.f a0_0 a0_1 l0_2 l1 a2 = some r) :
  Calls Try.prog 50 #[.agg #[.int .i64 a0_0, .int .i64 a0_1, .slice A0_2 l0_2.length c0_2], .slice A1 l1.length c1, .int .i64 a2] w fun e w' => e = .returned (.bool r) ∧ Below w.heap.size w w' := by
 have eg : ∀ args w, (callFunc 68 args).run Try.prog w = .ok (.enter 68 args) w := enters_of Try.func68 (by kernel_rfl) rfl
 unfold impl_Sea_goesOn.f at h
 split at h
 case isFalse => cases h
 rename_i hcond
 obtain rfl := Option.some.inj h
 clear h
 have HB := Aside0.mk (Below.refl w.heap.size w)
 have HRa := Aside0.mk hr0_2
 have HRb := Aside0.mk hr1
 have HM := Aside0.mk (show l1.length ≤ 9223372036854775807 by omega)
 have HC := Aside0.mk hcond
 have hu28 := Try.underlying28
 clear hr0_2 hr1 hcond
 by_cases h0 : 0 < l1.length
 case neg =>
  have he : l1.length = 0 := by omega
  have hV : goesV l0_2 l1 a2 = !l1.any (fun x => Go.bits .and .i64 x a2 != 0) := by unfold goesV goesStop; rw [decide_eq_false h0]; rfl
  rw [hV]
  clear hV h0
  have hz := decide_eq_false (show ¬ (0 : Int) < (l1.length : Int) by omega)
  have hzn := decide_eq_false (show ¬ 0 < l1.length by omega)
  generalize hany : l1.any (fun x => Go.bits .and .i64 x a2 != 0) = ba
  have HAny := Aside0.mk hany
  clear hany he
  go_enter Try.func50, Try.ntmps50
  go_wp2_with (first | ((with_reducible refine gate_dst (N := 3) rfl ?_); refine box_event ?hg (N := 3) ?hd (cs := #[.int .i64 a0_0, .int .i64 a0_1, .slice A0_2 l0_2.length c0_2]) (t := 28) ?hr ?_; (case hd => rfl); (case hg => rfl); (case hr => first | (go_simp; done) | (go_simp; rfl)); intro g3 hg3 w1 hbox hb; have HX1 := Aside0.mk hbox; have HB1 := Aside0.mk (bp_ HB.out hb); have HRa1 := Aside0.mk (Kd.C_below HRa.out hb); have HRb1 := Aside0.mk (Kd.C_below HRb.out hb); clear hbox hb hg3) | ((with_reducible refine gate_dst (N := 5) rfl ?_); refine box_event ?hg (N := 5) ?hd (cs := #[.int .i64 a2]) (t := 2) ?hr ?_; (case hd => rfl); (case hg => rfl); (case hr => first | (go_simp; done) | (go_simp; rfl)); intro g5 hg5 w2 hbox hb; have HY2 := Aside0.mk hbox; have HX2 := Aside0.mk (bb_ HX1.out hb); have HB2 := Aside0.mk (bp_ HB1.out hb); have HRa2 := Aside0.mk (Kd.C_below HRa1.out hb); have HRb2 := Aside0.mk (Kd.C_below HRb1.out hb); clear hbox hb hg5))
  go_quiet (fail)
  go_wp2_with (first | (go_at_call 67; refine (slices_ContainsFunc_int64_int64.calls 68 #[.pointer (some ⟨g5, 0, none⟩)] (fun _ => True) (fun x => Go.bits .and .i64 x a2 != 0) eg A1 c1 l1 _ (goesPred g5 a2 _ (bN_ HY2.out nq)) (fun _ _ => trivial) (Kd.C_below HRb2.out (pbN_ (Below.refl _ _) nq)) HM.out).mono ?_; rintro e w4 ⟨rfl, hb⟩; have HB4 := Aside0.mk (bp_ (pbN_ HB2.out nq) hb); clear hb))
  go_ret
  exact ⟨by rw [← HAny.out]; rfl, HB4.out⟩
 case pos =>
  obtain ⟨m, hm⟩ : ∃ m : Nat, l1.length = m + 1 := ⟨l1.length - 1, by omega⟩
  obtain ⟨ad, eqa_, _⟩ := Kd.at_int HRa.out (l1.length : Int) (by omega) (by have := HC.out; omega)
  obtain ⟨bd, eqb_, _⟩ := Kd.at_int HRb.out (m : Int) (by omega) (by omega)
  subst eqa_ eqb_
  have hn1 : wrap64 ((l1.length : Int) - 1) = (m : Int) := by have := HC.out; unfold wrap64; omega
  have hz := decide_eq_true (show (0 : Int) < (l1.length : Int) by omega)
  have hzn := decide_eq_true h0
  have q1 := eq_true (show (l1.length : Int) < (l0_2.length : Int) by have := HC.out; omega)
  have q2 := eq_true (show (m : Int) < (l0_2.length : Int) by have := HC.out; omega)
  have q3 := eq_true (show (m : Int) < (l1.length : Int) by omega)
  have q4 := eq_true (show l1.length < l0_2.length by have := HC.out; omega)
  have q5 := eq_true (show m < l0_2.length by have := HC.out; omega)
  have q6 := eq_true (show m < l1.length by omega)
  have q7 := eq_true (show (0 : Int) ≤ (m : Int) by omega)
  have q8 := eq_true (show (0 : Int) ≤ (l1.length : Int) by omega)
  have HV : goesV l0_2 l1 a2 = (!(decide (rd l0_2 (l1.length : Int) = rd l0_2 (m : Int)) && decide (a2 ≤ rd l1 (m : Int))) && !l1.any (fun x => Go.bits .and .i64 x a2 != 0)) := by
   unfold goesV goesStop
   rw [decide_eq_true h0, show ((l1.length : Int) - 1) = (m : Int) by omega]; rfl
  rw [HV]
  clear HV h0
  have HK := fun W (hb : Below w.heap.size w W) => Kd.at_int (Kd.C_below HRa.out hb) (l1.length : Int) (by omega) (by have := HC.out; omega)
  have HK2 := fun W (hb : Below w.heap.size w W) => Kd.at_int (Kd.C_below HRa.out hb) (m : Int) (by omega) (by have := HC.out; omega)
  have HK3 := fun W (hb : Below w.heap.size w W) => Kd.at_int (Kd.C_below HRb.out hb) (m : Int) (by omega) (by omega)
  generalize hany : l1.any (fun x => Go.bits .and .i64 x a2 != 0) = ba
  have HAny := Aside0.mk hany
  clear hany
  generalize rd l0_2 (l1.length : Int) = s1 at *
  generalize rd l0_2 (m : Int) = s2 at *
  generalize rd l1 (m : Int) = lx at *
  have HKa := Aside0.mk HK
  have HKb := Aside0.mk HK2
  have HKc := Aside0.mk HK3
  clear HK HK2 HK3 hm
  by_cases h1 : s1 = s2
  case neg =>
   have h1b : (s1 == s2) = false := beq_eq_false_iff_ne.mpr h1
   rw [decide_eq_false h1]
   go_enter Try.func50, Try.ntmps50
   go_wp2_with (first | ((with_reducible refine gate_dst (N := 3) rfl ?_); refine box_event ?hg (N := 3) ?hd (cs := #[.int .i64 a0_0, .int .i64 a0_1, .slice (some ad) l0_2.length c0_2]) (t := 28) ?hr ?_; (case hd => rfl); (case hg => rfl); (case hr => first | (go_simp; done) | (go_simp; rfl)); intro g3 hg3 w1 hbox hb; have HX1 := Aside0.mk hbox; have HB1 := Aside0.mk (bp_ HB.out hb); have HRa1 := Aside0.mk (Kd.C_below HRa.out hb); have HRb1 := Aside0.mk (Kd.C_below HRb.out hb); clear hbox hb hg3) | ((with_reducible refine gate_dst (N := 5) rfl ?_); refine box_event ?hg (N := 5) ?hd (cs := #[.int .i64 a2]) (t := 2) ?hr ?_; (case hd => rfl); (case hg => rfl); (case hr => first | (go_simp; done) | (go_simp; rfl)); intro g5 hg5 w2 hbox hb; have HY2 := Aside0.mk hbox; have HX2 := Aside0.mk (bb_ HX1.out hb); have HB2 := Aside0.mk (bp_ HB1.out hb); have HRa2 := Aside0.mk (Kd.C_below HRa1.out hb); have HRb2 := Aside0.mk (Kd.C_below HRb1.out hb); clear hbox hb hg5))
   obtain ⟨ad1, e1, k1⟩ := HKa.out _ HB2.out
   obtain ⟨ad2, e2, k2⟩ := HKb.out _ HB2.out
   obtain ⟨bd1, e3, k3⟩ := HKc.out _ HB2.out
   injection e1 with e1
   injection e2 with e2
   injection e3 with e3
   subst e1 e2 e3
   rw [Int.toNat_natCast] at k1 k2 k3
   have hs2 := (bc_ HX2.out 2).trans rfl
   have ho0 := (bc_ HY2.out 0).trans rfl
   go_quiet (fail)
   go_wp2_with (first | (go_at_call 67; refine (slices_ContainsFunc_int64_int64.calls 68 #[.pointer (some ⟨g5, 0, none⟩)] (fun _ => True) (fun x => Go.bits .and .i64 x a2 != 0) eg (some bd) c1 l1 _ (goesPred g5 a2 _ (bN_ HY2.out nq)) (fun _ _ => trivial) (Kd.C_below HRb2.out (pbN_ (Below.refl _ _) nq)) HM.out).mono ?_; rintro e w4 ⟨rfl, hb⟩; have HB4 := Aside0.mk (bp_ (pbN_ HB2.out nq) hb); clear hb))
   go_ret
   exact ⟨by rw [← HAny.out]; rfl, HB4.out⟩
  case pos =>
   subst h1
   have h1b : (s1 == s1) = true := beq_self_eq_true s1
   rw [decide_eq_true (rfl : s1 = s1)]
   by_cases h2 : a2 ≤ lx
   case pos =>
    have h2b := decide_eq_true h2
    rw [h2b]
    clear h2
    go_enter Try.func50, Try.ntmps50
    go_wp2_with (first | ((with_reducible refine gate_dst (N := 3) rfl ?_); refine box_event ?hg (N := 3) ?hd (cs := #[.int .i64 a0_0, .int .i64 a0_1, .slice (some ad) l0_2.length c0_2]) (t := 28) ?hr ?_; (case hd => rfl); (case hg => rfl); (case hr => first | (go_simp; done) | (go_simp; rfl)); intro g3 hg3 w1 hbox hb; have HX1 := Aside0.mk hbox; have HB1 := Aside0.mk (bp_ HB.out hb); have HRa1 := Aside0.mk (Kd.C_below HRa.out hb); have HRb1 := Aside0.mk (Kd.C_below HRb.out hb); clear hbox hb hg3) | ((with_reducible refine gate_dst (N := 5) rfl ?_); refine box_event ?hg (N := 5) ?hd (cs := #[.int .i64 a2]) (t := 2) ?hr ?_; (case hd => rfl); (case hg => rfl); (case hr => first | (go_simp; done) | (go_simp; rfl)); intro g5 hg5 w2 hbox hb; have HY2 := Aside0.mk hbox; have HX2 := Aside0.mk (bb_ HX1.out hb); have HB2 := Aside0.mk (bp_ HB1.out hb); have HRa2 := Aside0.mk (Kd.C_below HRa1.out hb); have HRb2 := Aside0.mk (Kd.C_below HRb1.out hb); clear hbox hb hg5))
    obtain ⟨ad1, e1, k1⟩ := HKa.out _ HB2.out
    obtain ⟨ad2, e2, k2⟩ := HKb.out _ HB2.out
    obtain ⟨bd1, e3, k3⟩ := HKc.out _ HB2.out
    injection e1 with e1
    injection e2 with e2
    injection e3 with e3
    subst e1 e2 e3
    rw [Int.toNat_natCast] at k1 k2 k3
    have hs2 := (bc_ HX2.out 2).trans rfl
    have ho0 := (bc_ HY2.out 0).trans rfl
    go_quiet (fail)
    go_wp2_with fail
    go_ret
    exact ⟨rfl, pbN_ HB2.out nq⟩
   case neg =>
    have h2b := decide_eq_false h2
    rw [h2b]
    clear h2
    go_enter Try.func50, Try.ntmps50
    go_wp2_with (first | ((with_reducible refine gate_dst (N := 3) rfl ?_); refine box_event ?hg (N := 3) ?hd (cs := #[.int .i64 a0_0, .int .i64 a0_1, .slice (some ad) l0_2.length c0_2]) (t := 28) ?hr ?_; (case hd => rfl); (case hg => rfl); (case hr => first | (go_simp; done) | (go_simp; rfl)); intro g3 hg3 w1 hbox hb; have HX1 := Aside0.mk hbox; have HB1 := Aside0.mk (bp_ HB.out hb); have HRa1 := Aside0.mk (Kd.C_below HRa.out hb); have HRb1 := Aside0.mk (Kd.C_below HRb.out hb); clear hbox hb hg3) | ((with_reducible refine gate_dst (N := 5) rfl ?_); refine box_event ?hg (N := 5) ?hd (cs := #[.int .i64 a2]) (t := 2) ?hr ?_; (case hd => rfl); (case hg => rfl); (case hr => first | (go_simp; done) | (go_simp; rfl)); intro g5 hg5 w2 hbox hb; have HY2 := Aside0.mk hbox; have HX2 := Aside0.mk (bb_ HX1.out hb); have HB2 := Aside0.mk (bp_ HB1.out hb); have HRa2 := Aside0.mk (Kd.C_below HRa1.out hb); have HRb2 := Aside0.mk (Kd.C_below HRb1.out hb); clear hbox hb hg5))
    obtain ⟨ad1, e1, k1⟩ := HKa.out _ HB2.out
    obtain ⟨ad2, e2, k2⟩ := HKb.out _ HB2.out
    obtain ⟨bd1, e3, k3⟩ := HKc.out _ HB2.out
    injection e1 with e1
    injection e2 with e2
    injection e3 with e3
    subst e1 e2 e3
    rw [Int.toNat_natCast] at k1 k2 k3
    have hs2 := (bc_ HX2.out 2).trans rfl
    have ho0 := (bc_ HY2.out 0).trans rfl
    go_quiet (fail)
    go_wp2_with (first | (go_at_call 67; refine (slices_ContainsFunc_int64_int64.calls 68 #[.pointer (some ⟨g5, 0, none⟩)] (fun _ => True) (fun x => Go.bits .and .i64 x a2 != 0) eg (some bd) c1 l1 _ (goesPred g5 a2 _ (bN_ HY2.out nq)) (fun _ _ => trivial) (Kd.C_below HRb2.out (pbN_ (Below.refl _ _) nq)) HM.out).mono ?_; rintro e w4 ⟨rfl, hb⟩; have HB4 := Aside0.mk (bp_ (pbN_ HB2.out nq) hb); clear hb))
    go_ret
    exact ⟨by rw [← HAny.out]; rfl, HB4.out⟩
def placeOf (W H : Nat) (ships : List Int) (j : Nat) : List Int := placesOf W H (rd ships (j : Int)).toNat
def fleetsFrom (W H : Nat) (ships : List Int) : Nat → List Int → List (List Int)
 | 0, list => [list]
 | d + 1, list => (placeOf W H ships list.length).flatMap fun own => if goesV ships list own = true then fleetsFrom W H ships d (list ++ [own]) else []
def Frame (M M' : Nat → Prop) (W W' : World) : Prop := W'.os = W.os ∧ W'.tape = W.tape ∧ W'.output = W.output ∧ W.heap.size ≤ W'.heap.size ∧ (∀ k, k < W.heap.size → ¬ M k → W'.heap[k]? = W.heap[k]?) ∧ ∀ k, M' k → M k ∨ W.heap.size ≤ k
theorem Frame.refl (M : Nat → Prop) (W : World) : Frame M M W W := ⟨rfl, rfl, rfl, Nat.le_refl _, fun _ _ _ => rfl, fun _ h => .inl h⟩
theorem Frame.trans {M M1 M2 : Nat → Prop} {W W1 W2 : World} (h : Frame M M1 W W1) (h2 : Frame M1 M2 W1 W2) : Frame M M2 W W2 := by
 obtain ⟨a1, a2, a3, a4, a5, a6⟩ := h
 obtain ⟨b1, b2, b3, b4, b5, b6⟩ := h2
 refine ⟨b1.trans a1, b2.trans a2, b3.trans a3, Nat.le_trans a4 b4, fun k hk hm => ?_, fun k hk => ?_⟩
 ·have hm1 : ¬ M1 k := fun h => by rcases a6 k h with h | h; exact hm h; omega
  exact (b5 k (by omega) hm1).trans (a5 k hk hm)
 ·rcases b6 k hk with h | h
  ·exact a6 k h
  ·exact .inr (by omega)
def FrameX (a M M' : Nat → Prop) (W W' : World) : Prop := W'.os = W.os ∧ W'.tape = W.tape ∧ W'.output = W.output ∧ W.heap.size ≤ W'.heap.size ∧ (∀ k, k < W.heap.size → ¬ M k → W'.heap[k]? = W.heap[k]?) ∧ ∀ k, M' k → M k ∨ W.heap.size ≤ k ∨ a k
theorem Frame.x {a M M' : Nat → Prop} {W W' : World} (h : Frame M M' W W') : FrameX a M M' W W' := ⟨h.1, h.2.1, h.2.2.1, h.2.2.2.1, h.2.2.2.2.1, fun k hk => (h.2.2.2.2.2 k hk).imp id .inl⟩
theorem Frame.transX {a M M1 M2 : Nat → Prop} {W W1 W2 : World} (h : Frame M M1 W W1) (h2 : FrameX a M1 M2 W1 W2) (ha : ∀ k, a k → W.heap.size ≤ k) : Frame M M2 W W2 := by
 obtain ⟨a1, a2, a3, a4, a5, a6⟩ := h
 obtain ⟨b1, b2, b3, b4, b5, b6⟩ := h2
 refine ⟨b1.trans a1, b2.trans a2, b3.trans a3, Nat.le_trans a4 b4, fun k hk hm => ?_, fun k hk => ?_⟩
 ·have hm1 : ¬ M1 k := fun h => by rcases a6 k h with h | h; exact hm h; omega
  exact (b5 k (by omega) hm1).trans (a5 k hk hm)
 ·rcases b6 k hk with h | h | h
  ·exact a6 k h
  ·exact .inr (by omega)
  ·exact .inr (ha k h)
theorem Frame.below {M : Nat → Prop} {W W' : World} (h : Below W.heap.size W W') : Frame M M W W' := ⟨h.os, h.tape, h.output, h.size, fun k hk _ => h.block k hk, fun _ h => .inl h⟩
theorem Frame.block {M M' : Nat → Prop} {W W' : World} (h : Frame M M' W W') {g : Nat} {o : Obj} (hb : W.heap[g]? = some o) (hm : ¬ M g) : W'.heap[g]? = some o := (h.2.2.2.2.1 g (blk_lt hb) hm).trans hb
theorem Frame.out {M M' : Nat → Prop} {W W' : World} (h : Frame M M' W W') {k : Nat} (hk : k < W.heap.size) (hm : ¬ M k) : ¬ M' k := fun h2 => by
 rcases h.2.2.2.2.2 k h2 with h3 | h3
 ·exact hm h3
 ·omega
def Clear (M : Nat → Prop) (W : World) (A : Option Addr) (xs : List Int) : Prop := Kd.C (Kd.int .i64) W A xs.length xs ∧ (0 < xs.length → ∀ a, A = some a → a.block < W.heap.size ∧ ¬ M a.block)
theorem Clear.frame {M M' : Nat → Prop} {W W' : World} {A : Option Addr} {xs : List Int} (h : Clear M W A xs) (hf : Frame M M' W W') : Clear M' W' A xs := by
 obtain ⟨hC, hm⟩ := h
 by_cases h0 : 0 < xs.length
 ·obtain ⟨a, rfl, _⟩ := Kd.at_int hC 0 (by omega) (by omega)
  obtain ⟨h1, h2⟩ := hm h0 a rfl
  refine ⟨⟨hC.1, hC.2.1, fun hp => ?_⟩, fun _ b hb => ?_⟩
  ·obtain ⟨ad, e, hc⟩ := hC.2.2 hp
   injection e with e
   subst e
   refine ⟨_, rfl, fun j p hj => ?_⟩
   obtain ⟨c, hl, hk, hcc⟩ := hc j p hj
   refine ⟨c, hl, hk, fun q u hu => ?_⟩
   have := hcc q u hu
   have hb : W'.heap[a.block]? = W.heap[a.block]? := hf.2.2.2.2.1 _ h1 h2
   simpa [World.cell?, add_block, hb] using this
  ·injection hb with hb
   subst hb
   exact ⟨Nat.lt_of_lt_of_le h1 hf.2.2.2.1, hf.out h1 h2⟩
 ·have hx : xs = [] := List.eq_nil_of_length_eq_zero (by omega)
  subst hx
  exact ⟨⟨rfl, hC.2.1, fun hp => absurd hp (by simp)⟩, fun h => absurd h (by simp)⟩
structure EachOk (b g : Nat) (lb : Array Value) (fleets : List (List Int)) (I : Nat → (Nat → Prop) → World → Prop) : Prop where
 stay : ∀ i M W W', I i M W → Below W.heap.size W W' → I i M W'
 own : ∀ i M W, I i M W → ∀ k, M k → k < W.heap.size
 call : ∀ i M W A c list, I i M W → fleets[i]? = some list → Clear M W A list → list.length ≤ c → Kd.R (Kd.int .i64) 2 W b (fun _ => True) (.slice A list.length c) list → Calls Try.prog g (#[.slice A list.length c] ++ lb) W fun e w' => e = .returned (.tuple #[]) ∧ ∃ M', I (i + 1) M' w' ∧ FrameX (fun k => some k = (Value.slice A list.length c).ownBlock) M M' W w'
structure FindEnv (W0 H0 : Nat) (ships : List Int) (A2 : Option Addr) (c2 g : Nat) (lb : Array Value) (g2 g3 g4 g7 : Nat) (ad4 : Addr) (c4 : Nat) (rows : List (List Int)) (M : Nat → Prop) (W : World) : Prop where
 sea : W.heap[g2]? = some (.cells #[.int .i64 (W0 : Int), .int .i64 (H0 : Int), .slice A2 ships.length c2] 28 (0, 0))
 each : W.heap[g3]? = some (.cells #[.func (.func g) #[] lb] 64 (0, 0))
 all : W.heap[g4]? = some (.cells #[.slice (some ad4) rows.length c4] 37 (0, 0))
 find : W.heap[g7]? = some (.cells #[.func (.func 56) #[] #[.pointer (some ⟨g2, 0, none⟩), .pointer (some ⟨g3, 0, none⟩), .pointer (some ⟨g4, 0, none⟩), .pointer (some ⟨g7, 0, none⟩)]] 64 (0, 0))
 not2 : ¬ M g2
 not3 : ¬ M g3
 not4 : ¬ M g4
 not7 : ¬ M g7
 cell : ∀ j (hj : j < rows.length), ∃ Aj cj, W.cell? (ad4.add j) = some (.slice Aj rows[j].length cj) ∧ rows[j].length ≤ cj ∧ Clear M W Aj rows[j]
 cells : ad4.block < W.heap.size ∧ ¬ M ad4.block
 ships : Clear M W A2 ships
theorem FindEnv.frame {W0 H0 : Nat} {ships : List Int} {A2 : Option Addr} {c2 g : Nat} {lb : Array Value} {g2 g3 g4 g7 : Nat} {ad4 : Addr} {c4 : Nat} {rows : List (List Int)} {M M' : Nat → Prop} {W W' : World}
  (h : FindEnv W0 H0 ships A2 c2 g lb g2 g3 g4 g7 ad4 c4 rows M W) (hf : Frame M M' W W') : FindEnv W0 H0 ships A2 c2 g lb g2 g3 g4 g7 ad4 c4 rows M' W' where
 sea := hf.block h.sea h.not2
 each := hf.block h.each h.not3
 all := hf.block h.all h.not4
 find := hf.block h.find h.not7
 not2 := hf.out (blk_lt h.sea) h.not2
 not3 := hf.out (blk_lt h.each) h.not3
 not4 := hf.out (blk_lt h.all) h.not4
 not7 := hf.out (blk_lt h.find) h.not7
 cell := fun j hj => by
  obtain ⟨Aj, cj, h1, h2, h3⟩ := h.cell j hj
  refine ⟨Aj, cj, ?_, h2, h3.frame hf⟩
  have hb : W'.heap[ad4.block]? = W.heap[ad4.block]? := hf.2.2.2.2.1 _ h.cells.1 h.cells.2
  simpa [World.cell?, add_block, hb] using h1
 cells := ⟨Nat.lt_of_lt_of_le h.cells.1 hf.2.2.2.1, hf.out h.cells.1 h.cells.2⟩
 ships := h.ships.frame hf
theorem flat_take {α β : Type} (F : α → List β) (P : List α) (j : Nat) (h : j < P.length) : ((P.take (j + 1)).flatMap F).length = ((P.take j).flatMap F).length + (F P[j]).length := by
 rw [List.take_succ_eq_append_getElem h, List.flatMap_append, List.length_append]
 simp
theorem flat_at {α β : Type} (F : α → List β) (P : List α) (j q : Nat) (h : j < P.length) (hq : q < (F P[j]).length) : (P.flatMap F)[((P.take j).flatMap F).length + q]? = (F P[j])[q]? := by
 have e : P.flatMap F = (P.take j).flatMap F ++ (F P[j] ++ (P.drop (j + 1)).flatMap F) := by
  conv => lhs; rw [← List.take_append_drop j P, List.drop_eq_getElem_cons h]
  rw [List.flatMap_append, List.flatMap_cons]
 rw [e, List.getElem?_append_right (by omega), Nat.add_sub_cancel_left, List.getElem?_append_left hq]
theorem clear_new {t : TypeId} {W : World} {base : Nat} {ok M : Nat → Prop} {A : Option Addr} {n c : Nat} {xs : List Int} (ho : Kd.R (Kd.int .i64) t W base ok (.slice A n c) xs) (hM : ∀ k, M k → k < base) : Clear M W A xs := by
 refine ⟨(Kd.R_reads' ho).2.2, fun h0 a ha => ?_⟩
 subst ha
 obtain ⟨g, cap, e, hb, hl, _⟩ := Kd.R_form ho h0
 injection e with e1
 injection e1 with e1
 subst e1
 exact ⟨hl, fun h => by have := hM _ h; simp at this; omega⟩
def slices_Clone_int64_int64.f (l0 : List Int) : Option (List Int) := if l0.length ≤ 17592186044416 then some l0 else none
set_option maxHeartbeats 2000000 in
set_option maxRecDepth 100000 in
theorem slices_Clone_int64_int64.calls (A0 : Option Addr) (c0 : Nat) (l0 : List Int) (r : List Int) (w : World) (hr0 : Kd.C (Kd.int .i64) w A0 l0.length l0) (hc0 : l0.length ≤ c0) (h : slices_Clone_int64_int64.f l0 = some r) :
  Calls Try.prog 57 #[.slice A0 l0.length c0] w fun e w' => ∃ v0_ : Value, e = .returned v0_ ∧ Kd.R (Kd.int .i64) 2 w' w.heap.size (fun _ => True) v0_ r ∧ Below w.heap.size w w' := by
 unfold slices_Clone_int64_int64.f at h
 by_cases hl : l0.length ≤ 17592186044416
 ·rw [if_pos hl] at h
  obtain rfl := Option.some.inj h
  clear h
  have HB := Aside0.mk (Below.refl w.heap.size w)
  have HR := Aside0.mk hr0
  clear hr0
  cases A0 with
  | none =>
   have h0 : l0.length = 0 := by
    rcases Nat.eq_zero_or_pos l0.length with h | h
    ·exact h
    ·obtain ⟨ad, _, e, _⟩ := Kd.C_get HR.out 0 0 (by omega) (by omega)
     cases e
   have hl0 : l0 = [] := List.eq_nil_of_length_eq_zero h0
   subst hl0
   have hE := fun W => Lib.run_eql_slice_nil (P := Try.prog) W 22 2 none 0 c0 0 0 Try.underlying22
   go_enter Try.func57, Try.ntmps57
   go_wp2_with fail
   go_ret
   exact ⟨_, rfl, Kd.R_nil _ _ _ _ _, HB.out⟩
  | some ad =>
   obtain ⟨n, hn⟩ : ∃ n, n = l0.length := ⟨_, rfl⟩
   rw [← hn] at HR hc0 hl ⊢
   have HN := Aside0.mk hn
   have HL := Aside0.mk hl
   clear hn hl
   go_enter Try.func57, Try.ntmps57
   have hE := fun W => Lib.run_eql_slice_nil (P := Try.prog) W 22 2 (some ad) n c0 0 0 Try.underlying22
   go_wp2_with (first | ((with_reducible refine gate_dst (N := 5) rfl ?_); refine Kd.R_lit (Kd.int .i64) _ 2 ?hg (N := 5) ?hd (xs := ([] : List Int)) (inner := []) (ok := fun _ => True) (okp := fun _ => True) ?hr ?hp (fun _ hk => hk) trivial (Below.refl _ _) (Nat.le_refl _) (by simp) ?_; (case hd => rfl); (case hg => rfl); (case hr => first | (go_simp; done) | (go_simp; rfl)); (case hp => exact Reps.none _ _); intro v1 w1 ho hb hg_ hnew_; clear hg_ hnew_; obtain ⟨A5, c5, e5⟩ := Kd.R_slice ho; subst e5; have n1_ := Aside0.mk ho; have n2_ := Aside0.mk hb; clear ho hb) | ((with_reducible refine gate_builtin (b := .append) (xs := #[.tmp 5, .tmp 6]) rfl ?_); at_builtin; refine Kd.R_append_row (Value.int .i64) (0 : Int) (w0 := w) w.heap.size rfl (.tmp 5) (.tmp 6) 22 2 (.int .i64 0) 8 rfl Try.underlying22 info2 rfl (by omega) _ [] l0 (some ad) n c0 (fun _ => True) rfl rfl (fun _ _ => trivial) n1_.out (Kd.C_below HR.out n2_.out) n2_.out (bz_ n2_.out) ?hl ?_; (case hl => have := HL.out; rw [List.length_nil]; omega); intro v3 w3 ho hb hg hat; rw [List.nil_append] at ho; have n3_ := Aside0.mk ho; have n4_ := Aside0.mk hb; clear ho hb hg hat))
   go_ret
   exact ⟨_, rfl, n3_.out, n4_.out⟩
 ·rw [if_neg hl] at h
  cases h
def laws_toInt64S.l0 : Nat → List Int → List Int → Int → Option (List Int)
 | 0, _, _, _ => none
 | k + 1, x0, x3, x4 => if x4 < (x0.length : Int) then (if 0 ≤ x4 then (if x4 < (x3.length : Int) then (laws_toInt64S.l0 k x0 (x3.set (x4 : Int).toNat (rd x0 x4)) (wrap64 (x4 + 1))) else (none)) else (none)) else (some x3)
def laws_toInt64S.f (k : Nat) (l0 : List Int) : Option (List Int) := if 0 ≤ (l0.length : Int) then (if ((l0.length : Int) : Int).toNat ≤ 35184372088832 then (laws_toInt64S.l0 k l0 (List.replicate ((l0.length : Int) : Int).toNat 0) 0) else (none)) else (none)
set_option maxHeartbeats 8000000 in
set_option maxRecDepth 100000 in
theorem laws_toInt64S.calls (k : Nat) (A0 : Option Addr) (c0 : Nat) (l0 : List Int) (r : List Int) (w : World) (hr0 : Kd.C (Kd.int .i64) w A0 l0.length l0) (hc0 : l0.length ≤ c0) (h : laws_toInt64S.f k l0 = some r) :
  Calls Try.prog 7 #[.slice A0 l0.length c0] w fun e w' => ∃ v0_ : Value, e = .returned (v0_) ∧ Kd.R (Kd.int .i64) 2 w' w.heap.size (fun _ => True) v0_ r ∧ Below w.heap.size w w' := by
 have HR0 := Aside0.mk hr0
 have HC0 := Aside0.mk hc0
 clear hr0 hc0
 have HB := Aside0.mk (Below.refl w.heap.size w)
 have H : (if 0 ≤ (l0.length : Int) then (if ((l0.length : Int) : Int).toNat ≤ 35184372088832 then (laws_toInt64S.l0 k l0 (List.replicate ((l0.length : Int) : Int).toNat 0) 0) else (none)) else (none)) = some r := h
 clear h
 by_cases c2 : 0 ≤ (l0.length : Int)
 ·rw [if_pos c2] at H
  have c2b0 := eq_true c2
  have c2b1 : decide (0 ≤ (l0.length : Int)) = true := decide_eq_true c2
  clear c2
  by_cases c3 : ((l0.length : Int) : Int).toNat ≤ 35184372088832
  ·rw [if_pos c3] at H
   have c3b0 := eq_true c3
   have c3b1 : decide (((l0.length : Int) : Int).toNat ≤ 35184372088832) = true := decide_eq_true c3
   clear c3
   obtain ⟨y231, hy231⟩ : ∃ y_ : List Int, y_ = (List.replicate ((l0.length : Int) : Int).toNat 0) := ⟨_, rfl⟩
   replace H : (laws_toInt64S.l0 k l0 y231 0) = some r := by first | (rw [hy231]; with_reducible exact H) | (have H2_ := (Option.bind_some _ _).symm.trans H; rw [hy231]; with_reducible exact H2_) | (have H2_ := (Option.bind_some _ _).symm.trans H; with_reducible exact H2_) | with_reducible exact H | (rw [hy231]; exact H) | exact H
   have Ny231 := Aside0.mk hy231
   clear hy231
   have H' := Aside0.mk H
   clear H
   go_enter Try.func7, Try.ntmps7
   go_wp2_with (first | ((with_reducible refine gate_dst (N := 7) rfl ?_); refine Kd.R_make (Kd.int .i64) _ 2 rfl (N := 7) rfl 22 _ _ rfl (l0.length : Int) rfl rfl Try.underlying22 (.int .i64 0) 8 info2 rfl (by decide) (by omega) 0 (ok := fun _ => True) (okp := fun _ => True) rfl (fun _ hk => hk) trivial (oda) (Nat.le_trans (Nat.mul_le_mul_right _ (oda : (l0.length : Int).toNat ≤ 35184372088832)) (by omega)) (Below.refl _ _) (Nat.le_refl _) ?_; intro v232 w4 ho5 hb hg_ hnew_; clear hg_ hnew_; (first | rw [← Ny231.out] at ho5 | (simp only [Int.reduceToNat] at ho5; rw [← Ny231.out] at ho5)); have n0_ := Aside0.mk (Kd.R_lower ho5 (bz_ hb_)); have n1_ := Aside0.mk (bp_ hb_ hb); clear HB; have HO233 := n0_; have HB := n1_; clear n0_ n1_; clear hb ho5))
   go_loopg [4] k (fun kq v4 w' => ∃ (x3_1 : List Int) (x4_1 : Int), v4 = .int .i64 x4_1 ∧ Aside0 (laws_toInt64S.l0 kq l0 x3_1 x4_1 = some r) ∧ Aside0 (kq ≤ k) ∧ Aside0 (Kd.R (Kd.int .i64) 2 w' w.heap.size (fun _ => True) v232 x3_1) ∧ Aside0 (Below w.heap.size w w'))
   case atStart => exact ⟨(y231), (0), (by first | rfl | (simp; done) | (simp [*]; done)), H', ⟨Nat.le_refl _⟩, ⟨by (with_reducible repeat (first | apply Kd.R_alloc | apply Kd.R_drewN | apply Kd.R_drew)); exact HO233.out⟩, ⟨by repeat (first | (with_reducible first | exact HB.out | apply ba_ | apply pbN_ | apply bd1_) | exact HB.out)⟩⟩
   case round =>
    clear H'
    (try clear c2); (try clear c2b0); (try clear c2b1); (try clear p2); (try clear c3); (try clear c3b0); (try clear c3b1)
    obtain ⟨x3_1, x4_1, rfl, HA, HK1, HO_3, HB⟩ := hrel
    cases gk with
    | zero => exact absurd HA.out (by simp [laws_toInt64S.l0])
    | succ k1 =>
     have H := HA.out
     clear HA
     simp only [laws_toInt64S.l0] at H
     by_cases c6 : x4_1 < (l0.length : Int)
     ·rw [if_pos c6] at H
      have c6b0 : decide (x4_1 < (l0.length : Int)) = true := decide_eq_true c6
      clear c6
      by_cases c7 : 0 ≤ x4_1
      ·rw [if_pos c7] at H
       have c7b0 : decide (0 ≤ x4_1) = true := decide_eq_true c7
       clear c7
       by_cases c8 : x4_1 < (x3_1.length : Int)
       ·rw [if_pos c8] at H
        have c8b0 : decide (x4_1 < (x3_1.length : Int)) = true := decide_eq_true c8
        clear c8
        obtain ⟨y235, hy235⟩ : ∃ y_ : List Int, y_ = (x3_1.set (x4_1 : Int).toNat (rd l0 x4_1)) := ⟨_, rfl⟩
        replace H : (laws_toInt64S.l0 k1 l0 y235 (wrap64 (x4_1 + 1))) = some r := by first | (rw [hy235]; with_reducible exact H) | (have H2_ := (Option.bind_some _ _).symm.trans H; rw [hy235]; with_reducible exact H2_) | (have H2_ := (Option.bind_some _ _).symm.trans H; with_reducible exact H2_) | with_reducible exact H | (rw [hy235]; exact H) | exact H
        have Ny235 := Aside0.mk hy235
        clear hy235
        have H' := Aside0.mk H
        clear H
        have p234 : 0 ≤ (x4_1 : Int) := oda
        have q234 : x4_1 < (l0.length : Int) := oda
        obtain ⟨ad234, e234, hx234_0⟩ := Kd.at_int HR0.out x4_1 p234 q234
        cases e234
        replace hx234_0 := (HB.out.cell (World.block_lt_of_cell? w _ hx234_0)).trans hx234_0
        replace p234 := eq_true p234
        replace q234 := eq_true q234
        have p9 : 0 ≤ (x4_1 : Int) := oda
        have q9 : (x4_1 : Int) < ((x3_1.length : Int) : Int) := oda
        obtain ⟨go9, co9, eo9, gb9, gl9, cl9, HG9⟩ := Kd.R_form HO_3.out (by omega)
        (first | cases eo9 | (injection eo9 with ea_ en_ ec_; (first | subst ea_ | (injection ea_ with ea_; subst ea_)); subst ec_; clear en_))
        have GB9 := Aside0.mk gb9
        have GG9 := Aside0.mk HG9
        clear gb9 gl9 HG9
        obtain ⟨hx9_0, hf9_0⟩ := Kd.R_celln 0 HO_3.out (x4_1 : Int) p9 q9
        replace p9 := eq_true p9
        replace q9 := eq_true q9
        have HP10 := Kd.R_putg HO_3.out (x4_1 : Int) (rd l0 x4_1)
        go_wp2_with (first | ((with_reducible refine gate_store (t := 2) (p := 20) rfl ?_); refine store_event (t := 2) (p := 20) (v := ?vo_w11) (w1 := (wr.setCell ⟨go9, (x4_1 : Int).toNat, none⟩ (.int .i64 (rd l0 x4_1)))) ?hg ?ho ?hn ?hr ?_; (case ho => rfl); (case hg => rfl); (case hn => rfl); (case hr => first | (go_simp; done) | (go_simp; rfl)); intro w11 hw; have hg : wr.grownBy w11 (some go9) := (by rw [hw]; exact HP10.2); have hp_ : Kd.R (Kd.int .i64) 2 w11 w.heap.size (fun _ => True) (.slice (some ⟨go9, 0, none⟩) x3_1.length co9) y235 := (by rw [hw, Ny235.out]; exact HP10.1); clear HP10; have n0_ := Aside0.mk (hp_); have n1_ := Aside0.mk ((by rw [hw]; exact bs_ (HB.out) GB9.out : Below w.heap.size w w11)); clear HO_3; clear HB; have HO_3 := n0_; have HB := n1_; clear n0_ n1_; clear hg hw hp_))
        go_roundg k1
        case measure => have := HK1.out; omega
        case rel => exact ⟨(y235), (wrap64 (x4_1 + 1)), (by first | rfl | (simp; done) | (simp [*]; done)), H', ⟨by have := HK1.out; omega⟩, ⟨by (with_reducible repeat (first | apply Kd.R_alloc | apply Kd.R_drewN | apply Kd.R_drew)); exact HO_3.out⟩, ⟨by repeat (first | (with_reducible first | exact HB.out | apply ba_ | apply pbN_ | apply bd1_) | exact HB.out)⟩⟩
       ·rw [if_neg c8] at H
        exact absurd H (by simp)
      ·rw [if_neg c7] at H
       exact absurd H (by simp)
     ·rw [if_neg c6] at H
      have c6b0 : decide (x4_1 < (l0.length : Int)) = false := decide_eq_false c6
      clear c6
      obtain rfl := Option.some.inj H
      go_wp2
      go_ret
      exact ⟨_, by first | rfl | (simp [errW_none, errW_some] <;> rfl) | (simp [*, errW_none, errW_some] <;> rfl), by (with_reducible repeat (first | apply Kd.R_alloc | apply Kd.R_drewN | apply Kd.R_drew)); exact HO_3.out, by repeat (first | (with_reducible first | exact HB.out | apply ba_ | apply pbN_ | apply bd1_) | exact HB.out)⟩
  ·rw [if_neg c3] at H
   exact absurd H (by simp)
 ·rw [if_neg c2] at H
  exact absurd H (by simp)
theorem wrap_next {i : Nat} {n : Nat} (h : i < n) (hn : n ≤ 9223372036854775807) : wrap64 ((i : Int) + 1) = ((i + 1 : Nat) : Int) := by
 unfold wrap64; omega
theorem rd_nat (l : List Int) (i : Nat) : rd l (i : Int) = l.getD i 0 := rfl
theorem rd_get (l : List Int) (i : Nat) (h : i < l.length) : rd l (i : Int) = l[i] := by
 rw [rd_nat, List.getD_eq_getElem?_getD, List.getElem?_eq_getElem h]; rfl
theorem take_set_next {α : Type} (x y : List α) (i : Nat) (h : i < x.length) (hl : y.length = x.length) (ht : y.take i = x.take i) : (y.set i x[i]).take (i + 1) = x.take (i + 1) := by
 rw [List.take_succ_eq_append_getElem h, List.take_succ_eq_append_getElem (by simpa [hl] using h)]
 congr 1
 ·rw [List.take_set_of_le (Nat.le_refl i)]; exact ht
 ·simp
theorem toInt64S_l0 (x : List Int) (hx : x.length ≤ 35184372088832) : ∀ (d i : Nat) (y : List Int), i + d = x.length → y.length = x.length → y.take i = x.take i → Ev (fun k => laws_toInt64S.l0 k x y i) x := by
 intro d
 induction d with
 | zero =>
  intro i y hi hl ht
  refine Ev.step (f := fun _ => some x) (fun k => ?_) (Ev.now _)
  simp only [laws_toInt64S.l0]
  rw [if_neg (by omega)]
  have : i = x.length := by omega
  rw [this, List.take_of_length_le (by omega), List.take_of_length_le (by omega)] at ht
  rw [ht]
 | succ d ih =>
  intro i y hi hl ht
  have hlt : i < x.length := by omega
  refine Ev.step (f := fun k => laws_toInt64S.l0 k x (y.set i x[i]) ((i + 1 : Nat) : Int)) (fun k => ?_) (ih (i + 1) _ (by omega) (by simpa using hl) (take_set_next x y i hlt hl ht))
  simp only [laws_toInt64S.l0]
  rw [if_pos (by omega), if_pos (by omega), if_pos (by omega), wrap_next hlt (by omega), rd_get x i hlt, Int.toNat_natCast]
theorem toInt64S_ev (x : List Int) (hx : x.length ≤ 35184372088832) : Ev (fun k => laws_toInt64S.f k x) x := by
 refine Ev.congr (f := fun k => laws_toInt64S.l0 k x (List.replicate x.length 0) ((0 : Nat) : Int)) (fun k => ?_) (toInt64S_l0 x hx x.length 0 _ (by omega) (by simp) (by simp))
 unfold laws_toInt64S.f
 rw [if_pos (by omega), if_pos (by omega), Int.toNat_natCast]; rfl
theorem eqInt64S_l0 (x y : List Int) (hl : x.length = y.length) (hx : x.length ≤ 9223372036854775807) : ∀ (d i : Nat), i + d = x.length → x.take i = y.take i → Ev (fun k => laws_eqInt64S.l0 k x y i) (decide (x = y)) := by
 intro d
 induction d with
 | zero =>
  intro i hi ht
  refine Ev.step (f := fun _ => some (decide (x = y))) (fun k => ?_) (Ev.now _)
  simp only [laws_eqInt64S.l0]
  rw [if_neg (by omega)]
  have : i = x.length := by omega
  rw [this, List.take_of_length_le (by omega), List.take_of_length_le (by omega)] at ht
  simp [ht]
 | succ d ih =>
  intro i hi ht
  have hlt : i < x.length := by omega
  by_cases he : x[i] = y[i]
  ·refine Ev.step (f := fun k => laws_eqInt64S.l0 k x y ((i + 1 : Nat) : Int)) (fun k => ?_) (ih (i + 1) (by omega) ?_)
   ·simp only [laws_eqInt64S.l0]
    rw [if_pos (by omega), if_pos (by omega), if_pos (by omega), wrap_next hlt (by omega), rd_get x i hlt, rd_get y i (by omega), if_pos he]
   ·rw [List.take_succ_eq_append_getElem hlt, List.take_succ_eq_append_getElem (by omega), ht, he]
  ·refine Ev.step (f := fun _ => some (decide (x = y))) (fun k => ?_) (Ev.now _)
   simp only [laws_eqInt64S.l0]
   rw [if_pos (by omega), if_pos (by omega), if_pos (by omega), rd_get x i hlt, rd_get y i (by omega), if_neg he]
   have : x ≠ y := fun h => he (by subst h; rfl)
   simp [this]
theorem eqInt64S_ev (x y : List Int) (hx : x.length ≤ 9223372036854775807) : Ev (fun k => laws_eqInt64S.f k x y) (decide (x = y)) := by
 by_cases h : x.length = y.length
 ·refine Ev.congr (f := fun k => laws_eqInt64S.l0 k x y ((0 : Nat) : Int)) (fun k => ?_) (eqInt64S_l0 x y h hx x.length 0 (by omega) (by simp))
  unfold laws_eqInt64S.f
  rw [if_pos (by omega)]; rfl
 ·refine Ev.congr (f := fun _ => some (decide (x = y))) (fun k => ?_) (Ev.now _)
  unfold laws_eqInt64S.f
  rw [if_neg (by omega)]
  have : x ≠ y := fun e => h (by rw [e])
  simp [this]
theorem eqInt64S_self (x : List Int) (hx : x.length ≤ 9223372036854775807) : Ev (fun k => laws_eqInt64S.f k x x) true := by
 have := eqInt64S_ev x x hx
 simpa using this
def Memo (P : Program) (k : TypeId) (F : Value → Int → Prop) (D : DataW Unit) : Prop :=
 ∀ key kl c, keyOf P k key = some kl → Go.Maps.has D kl = true → D.atKey kl (.lit (.int .i64 0)) = .lit (.int .i64 c) → F key c
theorem Memo.put {P : Program} {k : TypeId} {F : Value → Int → Prop} {D : DataW Unit} (K : Go.Maps.Keyed P k) (hm : Go.Maps.IsMap D) (h : Memo P k F D) {key : Value} {kl : Lit} {c : Int} (hk : keyOf P k key = some kl) (hF : F key c) :
  Memo P k F (D.put kl (.lit (.int .i64 c))) := by
 intro key' kl' c' hk' hh ha
 by_cases e : kl' = kl
 ·subst e
  have : key' = key := K.inj hk' hk
  subst this
  rw [Go.Maps.atKey_put_same hm (K.key hk)] at ha
  injection ha with ha
  injection ha with _ ha
  exact ha ▸ hF
 ·rw [Go.Maps.has_put_other e] at hh
  rw [Go.Maps.atKey_put_other e] at ha
  exact h key' kl' c' hk' hh ha
def HasMemo (P : Program) (k e : TypeId) (F : Value → Int → Prop) (gm N : Nat) (W : World) : Prop := ∃ D : DataW Unit, W.ownsMap P k (plainElem P e) gm N D ∧ Memo P k F D
theorem HasMemo.mono {P : Program} {k e : TypeId} {F : Value → Int → Prop} {gm N N' : Nat} {W : World} (h : HasMemo P k e F gm N W) (hN : N ≤ N') : HasMemo P k e F gm N' W := by
 obtain ⟨D, h1, h2⟩ := h
 exact ⟨D, h1.mono hN, h2⟩
theorem HasMemo.below {P : Program} {k e : TypeId} {F : Value → Int → Prop} {gm N : Nat} {W W' : World} (h : HasMemo P k e F gm N W) (hb : Below W.heap.size W W') : HasMemo P k e F gm N W' := by
 obtain ⟨D, h1, h2⟩ := h
 exact ⟨D, h1.kept (grown_of_below hb none) (by simp), h2⟩
theorem HasMemo.drew {P : Program} {k e : TypeId} {F : Value → Int → Prop} {gm N : Nat} {W : World} (h : HasMemo P k e F gm N W) : HasMemo P k e F gm N W.drew := by
 obtain ⟨D, h1, h2⟩ := h
 exact ⟨D, h1.drew, h2⟩
section
variable {P : Program} {ops : Array Oper} {S : World → Prop} {ds : List Nat} {md : Region.Mode} {Q : Exit → Act → World → Prop}
theorem goesF_ {oi : Oper} {N : Option Tmp} {a : Act} {w : World} {K : Act → World → Prop} {g : FuncId} {x : Operand} {lb : Array Value} {as_ : Array Operand} {ts : Array TypeId} (eg : ∀ args w, (callFunc g args).run P w = .ok (.enter g args) w) (args : Array Value)
  (hw : Region.wanted oi (yielded ops a.tmps) = true) (hN : oi.dst = N) (hop : oi.op = .call { callee := .value x, args := as_, argTypes := ts }) (hx : a.eval x = .func (.func g) #[] lb) (hargs : as_.map a.eval = args)
  (h : Calls P g (args ++ lb) w fun e w' => ∃ v, e = .returned v ∧ K (a.put N v) w') : if Region.wanted oi (yielded ops a.tmps) = true then Oper.wp P oi a w K Q else K (a.put N undef) w := by
 refine call_ g (args ++ lb) hw hN ?_ h
 unfold execOp
 simp [hop, resolve, Deferred.ofValue, invoke, hx, hargs, eg]
end
def impl_Sea_eachFleet_1.T6 : Bool × List (List Nat × List Nat) := (true, [([], []), ([], []), ([1], [1]), ([], []), ([3], [3]), ([2, 4, 2], [2, 4]), ([0, 5, 5], [0, 5])])
def impl_Sea_eachFleet_1.B6 : List Nat := [0, 0, 2, 0, 8, 30, 63]
theorem impl_Sea_eachFleet_1.tab6 : rtab .any (opsOf Try.f56 6) = impl_Sea_eachFleet_1.T6 := by kernel_rfl
theorem impl_Sea_eachFleet_1.bits6 : waitsOk impl_Sea_eachFleet_1.T6.2 impl_Sea_eachFleet_1.B6 = true := by kernel_rfl
set_option maxHeartbeats 8000000 in
set_option maxRecDepth 100000 in
theorem impl_Sea_eachFleet_1.does (W0 H0 : Nat) (ships : List Int) (A2 : Option Addr) (c2 g : Nat) (lb : Array Value) (g2 g3 g4 g7 : Nat) (ad4 : Addr) (c4 : Nat) (rows : List (List Int)) (fleets : List (List Int)) (I : Nat → (Nat → Prop) → World → Prop)
  (b : Nat) (eg : ∀ args w, (callFunc g args).run Try.prog w = .ok (.enter g args) w) (hok : EachOk b g lb fleets I) (hrows : rows.length = ships.length) (hrow : ∀ j (hj : j < rows.length), rows[j] = placeOf W0 H0 ships j) (hs3 : ships.length ≤ 3) (hsc : ships.length ≤ c2) (hpl : ∀ j, (placeOf W0 H0 ships j).length ≤ 100) :
  ∀ (d : Nat) (list : List Int) (i : Nat) (M : Nat → Prop) (W : World) (A : Option Addr) (c : Nat), list.length + d = ships.length → I i M W → FindEnv W0 H0 ships A2 c2 g lb g2 g3 g4 g7 ad4 c4 rows M W → Clear M W A list → list.length ≤ c → (∀ q, q < (fleetsFrom W0 H0 ships d list).length → fleets[i + q]? = (fleetsFrom W0 H0 ships d list)[q]?) → b ≤ W.heap.size → (d = 0 → Kd.R (Kd.int .i64) 2 W b (fun _ => True) (.slice A list.length c) list) →
  Calls Try.prog 56 #[.slice A list.length c, .pointer (some ⟨g2, 0, none⟩), .pointer (some ⟨g3, 0, none⟩), .pointer (some ⟨g4, 0, none⟩), .pointer (some ⟨g7, 0, none⟩)] W fun e w' => e = .returned (.tuple #[]) ∧ ∃ M', I (i + (fleetsFrom W0 H0 ships d list).length) M' w' ∧ FrameX (fun k => some k = (Value.slice A list.length c).ownBlock) M M' W w' := by
 have eg105 : ∀ args w, (callFunc 56 args).run Try.prog w = .ok (.enter 56 args) w := enters_of Try.func56 (by kernel_rfl) rfl
 have HOK := Aside0.mk hok
 have HRows := Aside0.mk hrows
 have HRow := Aside0.mk hrow
 have HS3 := Aside0.mk hs3
 have HSc := Aside0.mk hsc
 have HPl := Aside0.mk hpl
 clear hok hrows hrow hs3 hsc hpl
 have hu28 := Try.underlying28
 intro d
 induction d with
 | zero =>
  intro list i M W A c hd hi hE hL hc hfl hb0 hown
  have HOw := Aside0.mk (hown rfl)
  have HI := Aside0.mk hi
  have HE := Aside0.mk hE
  have HL := Aside0.mk hL
  have HLc := Aside0.mk hc
  have HFl := Aside0.mk (show fleets[i]? = some list by have := hfl 0 (by simp [fleetsFrom]); simpa [fleetsFrom] using this)
  have heq : ((list.length : Int) == (ships.length : Int)) = true := beq_iff_eq.mpr (by omega)
  have heqn : (list.length == ships.length) = true := beq_iff_eq.mpr (by omega)
  have hs0 := (bc_ HE.out.sea 0).trans rfl
  have hs1 := (bc_ HE.out.sea 1).trans rfl
  have hs2 := (bc_ HE.out.sea 2).trans rfl
  have he0 := (bc_ HE.out.each 0).trans rfl
  have ha0 := (bc_ HE.out.all 0).trans rfl
  have hf0 := (bc_ HE.out.find 0).trans rfl
  clear hi hE hL hc hfl hd hb0 hown
  go_enter Try.func56, Try.ntmps56
  go_wp2_with (first | (go_at_fn g; refine (HOK.out.call i M W A c list HI.out HFl.out HL.out HLc.out HOw.out).mono ?_; rintro e w1 ⟨rfl, M1, hi, hf⟩; have HI1 := Aside0.mk hi; have HF1 := Aside0.mk hf; clear hi hf))
  refine bodyPost_ret (results_none rfl _ _ _) rfl ?_
  exact ⟨rfl, M1, by simpa [fleetsFrom] using HI1.out, HF1.out⟩
 | succ d ih =>
  intro list i M W A c hd hi hE hL hc hfl hb0 hown
  have HBq := Aside0.mk hb0
  have HIH := Aside0.mk ih
  have HI0 := Aside0.mk hi
  have HE0 := Aside0.mk hE
  have HL0 := Aside0.mk hL
  have HLc := Aside0.mk hc
  have HD := Aside0.mk hd
  have hne : ((list.length : Int) == (ships.length : Int)) = false := beq_eq_false_iff_ne.mpr (by omega)
  have hnen : (list.length == ships.length) = false := beq_eq_false_iff_ne.mpr (by omega)
  obtain ⟨P, hP⟩ : ∃ P, placeOf W0 H0 ships list.length = P := ⟨_, rfl⟩
  have hPl : P.length ≤ 100 := by rw [← hP]; exact HPl.out _
  obtain ⟨Aj, cj, hcell, hcj, hrowC⟩ := hE.cell list.length (by rw [HRows.out]; omega)
  rw [HRow.out, hP] at hcell hcj hrowC
  obtain ⟨F, hF⟩ : ∃ F : Int → List (List Int), F = fun own => if goesV ships list own = true then fleetsFrom W0 H0 ships d (list ++ [own]) else [] := ⟨_, rfl⟩
  have hff : fleetsFrom W0 H0 ships (d + 1) list = P.flatMap F := by rw [← hP, hF]; rfl
  rw [hff] at hfl ⊢
  have HFl := Aside0.mk hfl
  have HFd := Aside0.mk hF
  have HRC := Aside0.mk hrowC
  have HPL := Aside0.mk hPl
  have HCl := Aside0.mk (show slices_Clone_int64_int64.f list = some list by unfold slices_Clone_int64_int64.f; rw [if_pos (by have := HS3.out; omega)])
  have HRoom := Aside0.mk (show (list.length + 1) * 8 ≤ 140737488355328 by have := HS3.out; omega)
  have qa := eq_true (show (list.length : Int) < (rows.length : Int) by rw [HRows.out]; omega)
  have qb := eq_true (show list.length < rows.length by rw [HRows.out]; omega)
  have qc := eq_true (show (0 : Int) ≤ (list.length : Int) by omega)
  have hs0 := (bc_ HE0.out.sea 0).trans rfl
  have hs1 := (bc_ HE0.out.sea 1).trans rfl
  have hs2 := (bc_ HE0.out.sea 2).trans rfl
  have he0 := (bc_ HE0.out.each 0).trans rfl
  have ha0 := (bc_ HE0.out.all 0).trans rfl
  have hf0 := (bc_ HE0.out.find 0).trans rfl
  clear hi hE hL hc hfl hd hb0 hown ih hff hF hP hrowC hPl hcj
  go_enter Try.func56, Try.ntmps56
  go_wp2_with fail
  (try clear hs0)
  (try clear hs1)
  (try clear hs2)
  (try clear he0)
  (try clear ha0)
  (try clear hf0)
  go_loopg [23] P.length (fun gg s23 wr => ∃ (j : Nat) (Mj : Nat → Prop), j ≤ P.length ∧ P.length - j ≤ gg ∧ s23 = .int .i64 j ∧ Aside0 (I (i + ((P.take j).flatMap F).length) Mj wr) ∧ Aside0 (Frame M Mj W wr))
  case atStart => exact ⟨0, M, Nat.zero_le _, by omega, rfl, ⟨by simpa using HI0.out⟩, ⟨Frame.refl M W⟩⟩
  case round =>
   obtain ⟨j, Mj, hj, hgj, rfl, HI, HFr⟩ := hrel
   by_cases hlt : j < P.length
   ·have HEj := Aside0.mk (HE0.out.frame HFr.out)
    have HLj := Aside0.mk (HL0.out.frame HFr.out)
    have HRj := Aside0.mk (HRC.out.frame HFr.out)
    obtain ⟨adj, rfl, hxj⟩ := Kd.at_int HRj.out.1 (j : Int) (by omega) (by omega)
    rw [Int.toNat_natCast, rd_get P j hlt] at hxj
    have HOwn := Aside0.mk (rfl : P[j] = P[j])
    obtain ⟨own, hown⟩ : ∃ own, P[j] = own := ⟨_, rfl⟩
    rw [hown] at hxj
    have HOw := Aside0.mk hown
    clear HOwn hown
    have q1 := decide_eq_true (show (j : Int) < (P.length : Int) by omega)
    have q2 := decide_eq_true hlt
    have q3 := eq_true (show (j : Int) < (P.length : Int) by omega)
    have q4 := eq_true (show (0 : Int) ≤ (j : Int) by omega)
    have q5 := eq_true hlt
    have HCnt := Aside0.mk (flat_take F P j hlt)
    have HAt := Aside0.mk (fun q => flat_at F P j q hlt)
    have HJm := Aside0.mk (show P.length - (j + 1) < gk by omega)
    have HJr := Aside0.mk (show j + 1 ≤ P.length by omega)
    have HJs := Aside0.mk (show wrap64 ((j : Int) + 1) = ((j + 1 : Nat) : Int) from wrap_one (a := j) (by have := HPL.out; omega))
    have hs0 := (bc_ HEj.out.sea 0).trans rfl
    have hs1 := (bc_ HEj.out.sea 1).trans rfl
    have hs2 := (bc_ HEj.out.sea 2).trans rfl
    have he0 := (bc_ HEj.out.each 0).trans rfl
    have ha0 := (bc_ HEj.out.all 0).trans rfl
    have hf0 := (bc_ HEj.out.find 0).trans rfl
    have HGo := Aside0.mk (show impl_Sea_goesOn.f (W0 : Int) (H0 : Int) ships list own = some (goesV ships list own) by unfold impl_Sea_goesOn.f; rw [if_pos ⟨by have := HD.out; omega, by have := HS3.out; omega⟩])
    have HFv := Aside0.mk (show F own = if goesV ships list own = true then fleetsFrom W0 H0 ships d (list ++ [own]) else [] by rw [HFd.out])
    rw [HOw.out] at HCnt HAt
    generalize goesV ships list own = bg at HGo HFv
    cases bg with
    | false =>
     have HZ := Aside0.mk (show i + ((P.take (j + 1)).flatMap F).length = i + ((P.take j).flatMap F).length by rw [HCnt.out, HFv.out, if_neg (by simp)]; rfl)
     go_wp2_with (first | (go_at_call 50; refine (impl_Sea_goesOn.calls (W0 : Int) (H0 : Int) A2 c2 ships A c list own _ _ HEj.out.ships.1 HSc.out HLj.out.1 HLc.out HGo.out).mono ?_; rintro e w1 ⟨rfl, hb⟩; have HB1 := Aside0.mk hb; clear hb))
     go_roundg (P.length - (j + 1))
     case measure => exact HJm.out
     case rel => exact ⟨j + 1, Mj, HJr.out, Nat.le_refl _, (by first | rfl | exact congrArg (Value.int .i64) HJs.out), ⟨by rw [HZ.out]; exact HOK.out.stay _ _ _ _ HI.out HB1.out⟩, ⟨HFr.out.trans (Frame.below HB1.out)⟩⟩
    | true =>
     have HZ := Aside0.mk (show i + ((P.take (j + 1)).flatMap F).length = i + ((P.take j).flatMap F).length + (fleetsFrom W0 H0 ships d (list ++ [own])).length by rw [HCnt.out, HFv.out, if_pos rfl]; omega)
     go_wp2_with (first | (go_at_call 50; refine (impl_Sea_goesOn.calls (W0 : Int) (H0 : Int) A2 c2 ships A c list own _ _ HEj.out.ships.1 HSc.out HLj.out.1 HLc.out HGo.out).mono ?_; rintro e w1 ⟨rfl, hb⟩; have HB1 := Aside0.mk hb; clear hb))
     (try clear hs0)
     (try clear hs1)
     (try clear hs2)
     (try clear he0)
     (try clear ha0)
     (try clear hf0)
     have HFr1 := Aside0.mk (HFr.out.trans (Frame.below (M := Mj) HB1.out))
     have n1_ := Aside0.mk (HEj.out.frame (Frame.below (M := Mj) HB1.out))
     have n2_ := Aside0.mk (HLj.out.frame (Frame.below (M := Mj) HB1.out))
     have n3_ := Aside0.mk (HOK.out.stay _ _ _ _ HI.out HB1.out)
     clear HEj HLj HRj HI HB1 hxj
     have HFd1 := Aside0.mk (HFr1.out.trans (Frame.below (M := Mj) (bd1_ (Below.refl _ _))))
     have HEd := Aside0.mk (n1_.out.frame (Frame.below (M := Mj) (bd1_ (Below.refl _ _))))
     have HLd := Aside0.mk (n2_.out.frame (Frame.below (M := Mj) (bd1_ (Below.refl _ _))))
     have HId := Aside0.mk (HOK.out.stay _ _ _ _ n3_.out (bd1_ (Below.refl _ _)))
     clear n1_ n2_ n3_ HFr1
     have HBd := Aside0.mk (Nat.le_trans HBq.out HFd1.out.2.2.2.1)
     have HLen := Aside0.mk (show (list ++ [own]).length + d = ships.length by have := HD.out; simp; omega)
     have HIdx := Aside0.mk (fun q (hq : q < (fleetsFrom W0 H0 ships d (list ++ [own])).length) => show fleets[i + ((P.take j).flatMap F).length + q]? = (fleetsFrom W0 H0 ships d (list ++ [own]))[q]? by
      have e : F own = fleetsFrom W0 H0 ships d (list ++ [own]) := by rw [HFv.out]; simp
      have h1 := HAt.out q (by rw [e]; exact hq)
      rw [e, List.getElem?_eq_getElem hq] at h1
      have hlt := (List.getElem?_eq_some_iff.1 h1).1
      rw [Nat.add_assoc, HFl.out _ hlt, h1, List.getElem?_eq_getElem hq])
     refine start_ (n := 7) (S := fun w' => w'.cell? ⟨g7, 0, none⟩ = some (.func (.func 56) #[] #[.pointer (some ⟨g2, 0, none⟩), .pointer (some ⟨g3, 0, none⟩), .pointer (some ⟨g4, 0, none⟩), .pointer (some ⟨g7, 0, none⟩)])) (ds := []) #[false, false, false, false, false, false, false] (by kernel_rfl) rfl rfl ((bc_ HEd.out.find 0).trans rfl) (fun hHeld => ?_)
     refine with_tabW impl_Sea_eachFleet_1.tab6 impl_Sea_eachFleet_1.bits6 (fun HT_ HW_ => ?_)
     generalize hq_ : w1.drew = wd_ at HEd HLd HId HFd1 HBd hHeld ⊢
     clear hq_
     have HBr := Aside0.mk (Below.refl wd_.heap.size wd_)
     refine pure_ (i := 1) (N := some 32) (v := ?_) (a' := ?_) (flg_ 7 2) rfl rfl (any_of HT_.out (by kernel_rfl)) (fun _ _ _ h => h) (Or.inl ⟨by rfl, ?_⟩) ?_ ?_
     rotate_left; (· (intro w'; go_simp; with_reducible rfl)); rotate_left; (· (simp only [Act.put, sz_, s0_, s1_, i64_w, i32_w]; rfl))
     refine pure_ (i := 3) (N := some 34) (v := ?_) (a' := ?_) (flg_ 7 10) rfl rfl (any_of HT_.out (by kernel_rfl)) (fun _ _ _ h => h) (Or.inl ⟨by rfl, ?_⟩) ?_ ?_
     rotate_left; (· (intro w'; go_simp; with_reducible rfl)); rotate_left; (· (simp only [Act.put, sz_, s0_, s1_, i64_w, i32_w]; rfl))
     refine take_ (i := 0) (N := some 31) (v := ?_) (a' := ?_) (flg_ 7 11) rfl rfl (take_ofW HT_.out HW_.out (by kernel_rfl)) (fun _ _ _ h => h) (Or.inl ⟨by rfl, ?_⟩) hHeld ?_ ?_
     rotate_left
     ·rintro w' s0_
      go_simp
      with_reducible rfl
     rotate_left
     ·simp only [Act.put, sz_, s0_, s1_, i64_w, i32_w]
      rfl
     refine two_ (i := 2) (j := 4) (Ni := some 33) (Nj := some 35) (flg_ 7 15) (flg_ 7 27) rfl rfl rfl rfl (two_of HT_.out (by kernel_rfl)) (by decide) (by decide) (fun K hK => ?_) (fun K hK => ?_)
     ·refine goes_ Try.func57 (by kernel_rfl) rfl #[.slice A list.length c] (by rfl) rfl rfl (by (try simp only [List.map_toArray, List.map_cons, List.map_nil]); first | done | rfl) ?_
      refine (slices_Clone_int64_int64.calls A c list list _ (Kd.C_below HLd.out.1 HBr.out) HLc.out HCl.out).mono ?_
      rintro e wk_ ⟨v33, rfl, ho, hb⟩
      refine ⟨_, rfl, ?_⟩
      have HV := Aside0.mk (Kd.R_lower ho (bz_ HBr.out))
      clear ho
      have nB_ := Aside0.mk (bp_ HBr.out hb)
      clear hb HBr
      have HBr := nB_
      clear nB_
      refine hK.out _ _ ((bc_ (bb_ HEd.out.find HBr.out) 0).trans rfl) (fun hHeld => ?_)
      clear hK K
      refine norm_ (a' := ?_) ?_ ?_
      rotate_left
      ·show Act.put _ (some 33) _ = _
       simp only [Act.put, sz_, s0_, s1_, i64_w, i32_w]
       rfl
      refine one_ (i := 4) (N := some 35) (flg_ 7 31) rfl rfl (one_of HT_.out (by kernel_rfl)) (by decide) (fun K hK => ?_)
      refine Kd.R_lit_step (Kd.int .i64) _ 2 ?hg (N := 35) ?hd (xs := ([own] : List Int)) (inner := [.int .i64 own]) (ok := fun _ => True) (okp := fun _ => True) ?hr ?hp (fun _ hk => hk) trivial (Below.refl _ _) (Nat.le_refl _) (by simp) ?_; (case hd => rfl); (case hg => rfl); (case hr => first | (go_simp; done) | (go_simp; rfl)); (case hp => exact (Reps.one (show Kd.M (Kd.int .i64) _ _ _ own [.int .i64 own] from rfl) (Reps.none _ _)))
      intro v35 wl_ ho hb hg_ hnew_
      clear hg_ hnew_
      have HX := Aside0.mk (Kd.R_lower ho (bz_ HBr.out))
      clear ho
      have nB_ := Aside0.mk (bp_ HBr.out hb)
      have nHV_ := Aside0.mk (Kd.R_below HV.out hb)
      clear hb HBr HV
      have HBr := nB_
      have HV := nHV_
      clear nB_ nHV_
      refine hK.out _ _ ((bc_ (bb_ HEd.out.find HBr.out) 0).trans rfl) (fun hHeld => ?_)
      clear hK K
      refine norm_ (a' := ?_) ?_ ?_
      rotate_left
      ·show Act.put _ (some 35) _ = _
       simp only [Act.put, sz_, s0_, s1_, i64_w, i32_w]
       rfl
      obtain ⟨A35, c35, e35⟩ := Kd.R_slice HX.out
      subst e35
      refine one_ (i := 5) (N := some 36) (flg_ 7 63) rfl rfl (one_of HT_.out (by kernel_rfl)) (by decide) (fun K hK => ?_)
      refine Kd.R_append_rows_step (Kd.int .i64) (w0 := wd_) wd_.heap.size (by rfl) (.tmp 33) (.tmp 35) 22 2 (.int .i64 0) 8 rfl Try.underlying22 info2 rfl (by decide) (by omega) v33 list [own] _ _ _ (fun _ => True) (fun _ => False) rfl rfl HV.out (Kd.R_reads' HX.out).2.2 (fun _ _ h => h) (fun _ h => h.elim) (fun _ _ => trivial) HBr.out (bz_ HBr.out) HRoom.out ?_
      intro v36 wp_ ho hb hg hat
      have HN := Aside0.mk ho
      have nB_ := Aside0.mk hb
      clear ho hb hg hat HBr HV HX
      have HBr := nB_
      clear nB_
      obtain ⟨A36, c36, e36⟩ := Kd.R_slice HN.out
      subst e36
      refine hK.out _ _ ((bc_ (bb_ HEd.out.find HBr.out) 0).trans rfl) (fun hHeld => ?_)
      clear hK K
      refine norm_ (a' := ?_) ?_ ?_
      rotate_left
      ·show Act.put _ (some 36) _ = _
       simp only [Act.put, sz_, s0_, s1_, i64_w, i32_w]
       rfl
      refine one_ (i := 6) (N := some 37) (flg_ 7 127) rfl rfl (one_of HT_.out (by kernel_rfl)) (by decide) (fun K hK => ?_)
      refine goesF_ (x := .tmp 31) (lb := #[.pointer (some ⟨g2, 0, none⟩), .pointer (some ⟨g3, 0, none⟩), .pointer (some ⟨g4, 0, none⟩), .pointer (some ⟨g7, 0, none⟩)]) eg105 #[.slice A36 (list ++ [own]).length c36] (by rfl) rfl rfl rfl (by (try simp only [List.map_toArray, List.map_cons, List.map_nil]); first | done | rfl) ?_
      refine (HIH.out (list ++ [own]) _ Mj wp_ A36 c36 HLen.out (HOK.out.stay _ _ _ _ HId.out HBr.out) (HEd.out.frame (Frame.below HBr.out)) (clear_new HN.out (HOK.out.own _ _ _ HId.out)) (Kd.R_reads' HN.out).2.1 HIdx.out (Nat.le_trans HBd.out (bz_ HBr.out)) (fun _ => Kd.R_lower HN.out HBd.out)).mono ?_
      rintro e wf_ ⟨rfl, M2, hi2, hf2⟩
      refine ⟨_, rfl, ?_⟩
      have HI2 := Aside0.mk hi2
      have hfx := (Frame.below (M := Mj) HBr.out).transX hf2 (fun k hk => Kd.R_base HN.out k hk.symm)
      have HF2 := Aside0.mk (HFd1.out.trans hfx)
      have HE2 := Aside0.mk (HEd.out.frame hfx)
      clear hi2 hf2 hfx HN HBr
      refine hK.out _ _ ((bc_ HE2.out.find 0).trans rfl) (fun hHeld => ?_)
      clear hK K
      refine norm_ (a' := ?_) ?_ ?_
      rotate_left
      ·show Act.put _ (some 37) _ = _
       simp only [Act.put, sz_, s0_, s1_, i64_w, i32_w]
       rfl
      refine done_ (done_of HT_.out (by kernel_rfl)) ?_
      go_wp2_with fail
      go_roundg (P.length - (j + 1))
      case measure => exact HJm.out
      case rel => exact ⟨j + 1, M2, HJr.out, Nat.le_refl _, (by first | rfl | exact congrArg (Value.int .i64) HJs.out), ⟨by rw [HZ.out]; exact HI2.out⟩, HF2⟩
     ·refine Kd.R_lit_step (Kd.int .i64) _ 2 ?hg (N := 35) ?hd (xs := ([own] : List Int)) (inner := [.int .i64 own]) (ok := fun _ => True) (okp := fun _ => True) ?hr ?hp (fun _ hk => hk) trivial (Below.refl _ _) (Nat.le_refl _) (by simp) ?_; (case hd => rfl); (case hg => rfl); (case hr => first | (go_simp; done) | (go_simp; rfl)); (case hp => exact (Reps.one (show Kd.M (Kd.int .i64) _ _ _ own [.int .i64 own] from rfl) (Reps.none _ _)))
      intro v35 wl_ ho hb hg_ hnew_
      clear hg_ hnew_
      have HX := Aside0.mk (Kd.R_lower ho (bz_ HBr.out))
      clear ho
      have nB_ := Aside0.mk (bp_ HBr.out hb)
      clear hb HBr
      have HBr := nB_
      clear nB_
      refine hK.out _ _ ((bc_ (bb_ HEd.out.find HBr.out) 0).trans rfl) (fun hHeld => ?_)
      clear hK K
      refine norm_ (a' := ?_) ?_ ?_
      rotate_left
      ·show Act.put _ (some 35) _ = _
       simp only [Act.put, sz_, s0_, s1_, i64_w, i32_w]
       rfl
      refine one_ (i := 2) (N := some 33) (flg_ 7 31) rfl rfl (one_of HT_.out (by kernel_rfl)) (by decide) (fun K hK => ?_)
      refine goes_ Try.func57 (by kernel_rfl) rfl #[.slice A list.length c] (by rfl) rfl rfl (by (try simp only [List.map_toArray, List.map_cons, List.map_nil]); first | done | rfl) ?_
      refine (slices_Clone_int64_int64.calls A c list list _ (Kd.C_below HLd.out.1 HBr.out) HLc.out HCl.out).mono ?_
      rintro e wk_ ⟨v33, rfl, ho, hb⟩
      refine ⟨_, rfl, ?_⟩
      have HV := Aside0.mk (Kd.R_lower ho (bz_ HBr.out))
      clear ho
      have nB_ := Aside0.mk (bp_ HBr.out hb)
      have nHX_ := Aside0.mk (Kd.R_below HX.out hb)
      clear hb HBr HX
      have HBr := nB_
      have HX := nHX_
      clear nB_ nHX_
      refine hK.out _ _ ((bc_ (bb_ HEd.out.find HBr.out) 0).trans rfl) (fun hHeld => ?_)
      clear hK K
      refine norm_ (a' := ?_) ?_ ?_
      rotate_left
      ·show Act.put _ (some 33) _ = _
       simp only [Act.put, sz_, s0_, s1_, i64_w, i32_w]
       rfl
      obtain ⟨A35, c35, e35⟩ := Kd.R_slice HX.out
      subst e35
      refine one_ (i := 5) (N := some 36) (flg_ 7 63) rfl rfl (one_of HT_.out (by kernel_rfl)) (by decide) (fun K hK => ?_)
      refine Kd.R_append_rows_step (Kd.int .i64) (w0 := wd_) wd_.heap.size (by rfl) (.tmp 33) (.tmp 35) 22 2 (.int .i64 0) 8 rfl Try.underlying22 info2 rfl (by decide) (by omega) v33 list [own] _ _ _ (fun _ => True) (fun _ => False) rfl rfl HV.out (Kd.R_reads' HX.out).2.2 (fun _ _ h => h) (fun _ h => h.elim) (fun _ _ => trivial) HBr.out (bz_ HBr.out) HRoom.out ?_
      intro v36 wp_ ho hb hg hat
      have HN := Aside0.mk ho
      have nB_ := Aside0.mk hb
      clear ho hb hg hat HBr HV HX
      have HBr := nB_
      clear nB_
      obtain ⟨A36, c36, e36⟩ := Kd.R_slice HN.out
      subst e36
      refine hK.out _ _ ((bc_ (bb_ HEd.out.find HBr.out) 0).trans rfl) (fun hHeld => ?_)
      clear hK K
      refine norm_ (a' := ?_) ?_ ?_
      rotate_left
      ·show Act.put _ (some 36) _ = _
       simp only [Act.put, sz_, s0_, s1_, i64_w, i32_w]
       rfl
      refine one_ (i := 6) (N := some 37) (flg_ 7 127) rfl rfl (one_of HT_.out (by kernel_rfl)) (by decide) (fun K hK => ?_)
      refine goesF_ (x := .tmp 31) (lb := #[.pointer (some ⟨g2, 0, none⟩), .pointer (some ⟨g3, 0, none⟩), .pointer (some ⟨g4, 0, none⟩), .pointer (some ⟨g7, 0, none⟩)]) eg105 #[.slice A36 (list ++ [own]).length c36] (by rfl) rfl rfl rfl (by (try simp only [List.map_toArray, List.map_cons, List.map_nil]); first | done | rfl) ?_
      refine (HIH.out (list ++ [own]) _ Mj wp_ A36 c36 HLen.out (HOK.out.stay _ _ _ _ HId.out HBr.out) (HEd.out.frame (Frame.below HBr.out)) (clear_new HN.out (HOK.out.own _ _ _ HId.out)) (Kd.R_reads' HN.out).2.1 HIdx.out (Nat.le_trans HBd.out (bz_ HBr.out)) (fun _ => Kd.R_lower HN.out HBd.out)).mono ?_
      rintro e wf_ ⟨rfl, M2, hi2, hf2⟩
      refine ⟨_, rfl, ?_⟩
      have HI2 := Aside0.mk hi2
      have hfx := (Frame.below (M := Mj) HBr.out).transX hf2 (fun k hk => Kd.R_base HN.out k hk.symm)
      have HF2 := Aside0.mk (HFd1.out.trans hfx)
      have HE2 := Aside0.mk (HEd.out.frame hfx)
      clear hi2 hf2 hfx HN HBr
      refine hK.out _ _ ((bc_ HE2.out.find 0).trans rfl) (fun hHeld => ?_)
      clear hK K
      refine norm_ (a' := ?_) ?_ ?_
      rotate_left
      ·show Act.put _ (some 37) _ = _
       simp only [Act.put, sz_, s0_, s1_, i64_w, i32_w]
       rfl
      refine done_ (done_of HT_.out (by kernel_rfl)) ?_
      go_wp2_with fail
      go_roundg (P.length - (j + 1))
      case measure => exact HJm.out
      case rel => exact ⟨j + 1, M2, HJr.out, Nat.le_refl _, (by first | rfl | exact congrArg (Value.int .i64) HJs.out), ⟨by rw [HZ.out]; exact HI2.out⟩, HF2⟩
   ·have hje : j = P.length := by omega
    subst hje
    have q1 := decide_eq_false (show ¬ (P.length : Int) < (P.length : Int) by omega)
    go_wp2_with fail
    go_end0
    exact ⟨rfl, Mj, by have := HI.out; rwa [List.take_length] at this, HFr.out.x⟩
attribute [local go_sem] run_store_func
def rowsE (W0 H0 : Nat) (ships : List Int) (i : Nat) : List (List Int) := (List.range i).map (placeOf W0 H0 ships)
theorem rowsE_len (W0 H0 : Nat) (ships : List Int) (i : Nat) : (rowsE W0 H0 ships i).length = i := by simp [rowsE]
def impl_Sea_eachFleet.T5 : Bool × List (List Nat × List Nat) := (true, [([], []), ([], []), ([], []), ([1, 2], [1, 2]), ([3], [3]), ([0, 4, 3], [0, 4]), ([5, 5, 0, 1, 2, 3, 4, 5], [5])])
def impl_Sea_eachFleet.B5 : List Nat := [0, 0, 0, 6, 14, 31, 63]
theorem impl_Sea_eachFleet.tab5 : rtab .any (opsOf Try.f37 5) = impl_Sea_eachFleet.T5 := by kernel_rfl
theorem impl_Sea_eachFleet.bits5 : waitsOk impl_Sea_eachFleet.T5.2 impl_Sea_eachFleet.B5 = true := by kernel_rfl
theorem each_find (W0 H0 : Nat) (ships : List Int) (A2 : Option Addr) (c2 g : Nat) (lb : Array Value) (g2 g3 g4 g7 : Nat) (Au : Option Addr) (nu cu : Nat) (I : Nat → (Nat → Prop) → World → Prop)
  (b : Nat) (eg : ∀ args w, (callFunc g args).run Try.prog w = .ok (.enter g args) w) (hok : EachOk b g lb (fleetsFrom W0 H0 ships ships.length []) I) (hsz : 1 ≤ ships.length ∧ ships.length ≤ 3) (hsc : ships.length ≤ c2) (hpl : ∀ j, (placeOf W0 H0 ships j).length ≤ 100)
  (w W : World) (hb0 : b ≤ w.heap.size) (M0 : Nat → Prop) (hI : I 0 M0 w) (hB : Below w.heap.size w W) (h2 : W.heap[g2]? = some (.cells #[.int .i64 (W0 : Int), .int .i64 (H0 : Int), .slice A2 ships.length c2] 28 (0, 0))) (h3 : W.heap[g3]? = some (.cells #[.func (.func g) #[] lb] 64 (0, 0))) (h4 : W.heap[g4]? = some (.cells #[.slice Au nu cu] 37 (0, 0))) (h7 : W.heap[g7]? = some (.cells #[.func (.func 56) #[] #[.pointer (some ⟨g2, 0, none⟩), .pointer (some ⟨g3, 0, none⟩), .pointer (some ⟨g4, 0, none⟩), .pointer (some ⟨g7, 0, none⟩)]] 64 (0, 0)))
  (hg : w.heap.size ≤ g2 ∧ w.heap.size ≤ g3 ∧ w.heap.size ≤ g4 ∧ w.heap.size ≤ g7) {okS : Nat → Prop} (hS : Kd.S (Kd.slice 2 (Kd.int .i64)) 22 W w.heap.size okS (.slice Au nu cu) (rowsE W0 H0 ships ships.length)) (hcl : Clear M0 w A2 ships) :
  Calls Try.prog 56 (#[.slice none 0 0] ++ #[.pointer (some ⟨g2, 0, none⟩), .pointer (some ⟨g3, 0, none⟩), .pointer (some ⟨g4, 0, none⟩), .pointer (some ⟨g7, 0, none⟩)]) W fun e w' => e = .returned (.tuple #[]) ∧ ∃ M', I (fleetsFrom W0 H0 ships ships.length []).length M' w' ∧ Frame M0 M' w w' := by
 have hM : ∀ k, M0 k → k < w.heap.size := hok.own _ _ _ hI
 have hfr : Frame M0 M0 w W := Frame.below hB
 have hI2 := hok.stay _ _ _ _ hI hB
 have hR := Kd.S_R hS
 have hlen := (Kd.R_reads' hR).1
 rw [rowsE_len] at hlen
 subst hlen
 obtain ⟨ga, ca, ea, hba, hla, _⟩ := Kd.R_form hR (by rw [rowsE_len]; exact hsz.1)
 rw [rowsE_len] at ea
 injection ea with e1 _ e3
 subst e1 e3
 have hn : ∀ k, w.heap.size ≤ k → ¬ M0 k := fun k hk h => by have := hM k h; omega
 have hE : FindEnv W0 H0 ships A2 c2 g lb g2 g3 g4 g7 ⟨ga, 0, none⟩ cu (rowsE W0 H0 ships ships.length) M0 W := {
  sea := h2, each := h3, all := by rw [rowsE_len]; exact h4, find := h7
  not2 := hn _ hg.1, not3 := hn _ hg.2.1, not4 := hn _ hg.2.2.1, not7 := hn _ hg.2.2.2
  cells := ⟨hla, hn _ hba⟩
  ships := hcl.frame hfr
  cell := fun j hj => by
   obtain ⟨c, hl, hMM, hcc, _⟩ := Kd.R_elem hR [] (j : Int) (by omega) (by rw [rowsE_len] at hj; omega)
   rw [Int.toNat_natCast, List.getD_eq_getElem?_getD, List.getElem?_eq_getElem hj, Option.getD_some] at hMM
   rw [Int.toNat_natCast] at hcc
   obtain ⟨v, hc, hRR⟩ := hMM
   subst hc
   obtain ⟨Aj, cj, ej⟩ := Kd.R_slice hRR
   subst ej
   refine ⟨Aj, cj, ?_, (Kd.R_reads' hRR).2.1, clear_new hRR hM⟩
   have h5 := hcc 0 _ rfl
   rw [show (Kd.slice 2 (Kd.int .i64)).sz = 1 from rfl, Nat.mul_one, Nat.add_zero] at h5
   rw [add_at, Nat.zero_add]
   exact h5 }
 have h := impl_Sea_eachFleet_1.does W0 H0 ships A2 c2 g lb g2 g3 g4 g7 ⟨ga, 0, none⟩ cu (rowsE W0 H0 ships ships.length) (fleetsFrom W0 H0 ships ships.length []) I b eg hok (rowsE_len _ _ _ _) (fun j hj => by simp [rowsE]) hsz.2 hsc hpl ships.length [] 0 M0 W none 0 (by simp) hI2 hE ⟨⟨rfl, by simp, fun hp => absurd hp (by simp)⟩, fun h => absurd h (by simp)⟩ (Nat.le_refl _) (fun q hq => by rw [Nat.zero_add]) (Nat.le_trans hb0 (bz_ hB)) (fun h0 => absurd h0 (by omega))
 refine h.mono ?_
 rintro e w' ⟨rfl, M', hi, hf⟩
 exact ⟨rfl, M', by rw [Nat.zero_add] at hi; exact hi, hfr.transX hf (fun k hk => by cases hk)⟩
set_option maxHeartbeats 8000000 in
set_option maxRecDepth 100000 in
theorem impl_Sea_eachFleet.does (W0 H0 : Nat) (ships : List Int) (A2 : Option Addr) (c2 g : Nat) (lb : Array Value) (I : Nat → (Nat → Prop) → World → Prop) (b : Nat) (eg : ∀ args w, (callFunc g args).run Try.prog w = .ok (.enter g args) w) (hok : EachOk b g lb (fleetsFrom W0 H0 ships ships.length []) I) (hw : 1 ≤ W0 ∧ W0 ≤ 5) (hh : 1 ≤ H0 ∧ H0 ≤ 5)
  (hsz : 1 ≤ ships.length ∧ ships.length ≤ 3) (hsin : ∀ j : Nat, j < ships.length → inW (rd ships (j : Int)) 1 5 = true) (hsc : ships.length ≤ c2) (hpl : ∀ j, (placeOf W0 H0 ships j).length ≤ 100) (w : World) (hb0 : b ≤ w.heap.size) (M0 : Nat → Prop) (hI : I 0 M0 w) (hcl : Clear M0 w A2 ships) :
  Calls Try.prog 37 #[.agg #[.int .i64 (W0 : Int), .int .i64 (H0 : Int), .slice A2 ships.length c2], .func (.func g) #[] lb] w fun e w' => e = .returned (.tuple #[]) ∧ ∃ M', I (fleetsFrom W0 H0 ships ships.length []).length M' w' ∧ Frame M0 M' w w' := by
 have eg105 : ∀ args w, (callFunc 56 args).run Try.prog w = .ok (.enter 56 args) w := enters_of Try.func56 (by kernel_rfl) rfl
 have HEG := Aside0.mk eg
 have HBw := Aside0.mk hb0
 have HOK := Aside0.mk hok
 have HW := Aside0.mk (And.intro hw hh)
 have HSz := Aside0.mk hsz
 have HSI := Aside0.mk hsin
 have HC2 := Aside0.mk hsc
 have HPl := Aside0.mk hpl
 have HI := Aside0.mk hI
 have HCl := Aside0.mk hcl
 have HSH := Aside0.mk (fun W (hb : Below w.heap.size w W) => (hcl.frame (Frame.below (M := M0) hb)).1)
 have HB := Aside0.mk (Below.refl w.heap.size w)
 have hu28 := Try.underlying28
 clear hok hw hh hsz hsin hsc hpl hI hcl eg hb0
 go_enter Try.func37, Try.ntmps37
 go_wp2_with (first | ((with_reducible refine gate_dst (N := 2) rfl ?_); refine box_event ?hg (N := 2) ?hd (cs := #[.int .i64 (W0 : Int), .int .i64 (H0 : Int), .slice A2 ships.length c2]) (t := 28) ?hr ?_; (case hd => rfl); (case hg => rfl); (case hr => first | (go_simp; done) | (go_simp; rfl)); intro g2 hg2 w1 hbox hb; have HX2 := Aside0.mk hbox; have HG2 := Aside0.mk (show w.heap.size ≤ g2 by omega); have n_ := Aside0.mk (bp_ HB.out hb); clear HB; have HB := n_; clear n_; clear hbox hb hg2) | ((with_reducible refine gate_dst (N := 3) rfl ?_); refine box_event ?hg (N := 3) ?hd (cs := #[.func (.func g) #[] lb]) (t := 64) ?hr ?_; (case hd => rfl); (case hg => rfl); (case hr => first | (go_simp; done) | (go_simp; rfl)); intro g3 hg3 w2 hbox hb; have HX3 := Aside0.mk hbox; have HG3 := Aside0.mk (show w.heap.size ≤ g3 ∧ g2 ≠ g3 by have := bz_ HB.out; have := blk_lt HX2.out; omega); have n_ := Aside0.mk (bb_ HX2.out hb); clear HX2; have HX2 := n_; clear n_; have n_ := Aside0.mk (bp_ HB.out hb); clear HB; have HB := n_; clear n_; clear hbox hb hg3) | ((with_reducible refine gate_dst (N := 8) rfl ?_); refine Kd.S_lit (Kd.slice 2 (Kd.int .i64)) _ 22 ?hg (N := 8) ?hd (xs := ([] : List (List Int))) (inner := []) (ok := fun _ => True) (okp := fun _ => True) ?hr ?hp (fun _ hk => hk) trivial (Below.refl _ _) (Nat.le_refl _) (by simp) ?_; (case hd => rfl); (case hg => rfl); (case hr => first | (go_simp; done) | (go_simp; rfl)); (case hp => exact (Reps.none _ _)); intro v8 w3 ho hb hg_ hnew_; clear hg_ hnew_; obtain ⟨A8, c8, e8⟩ := Kd.S_slice ho; subst e8; rw [show (([] : List (List Int)).length) = 0 from rfl] at ho; have HS := Aside0.mk (Kd.S_lower ho (bz_ HB.out)); have n_ := Aside0.mk (bb_ HX2.out hb); clear HX2; have HX2 := n_; clear n_; have n_ := Aside0.mk (bb_ HX3.out hb); clear HX3; have HX3 := n_; clear n_; have n_ := Aside0.mk (bp_ HB.out hb); clear HB; have HB := n_; clear n_; clear hb ho) | ((with_reducible refine gate_dst (N := 4) rfl ?_); refine box_event ?hg (N := 4) ?hd (cs := #[.slice none 0 0]) (t := 37) ?hr ?_; (case hd => rfl); (case hg => rfl); (case hr => first | (go_simp; done) | (go_simp; rfl)); intro g4 hg4 w4 hbox hb; have HX4 := Aside0.mk hbox; have HG4 := Aside0.mk (show w.heap.size ≤ g4 ∧ g2 ≠ g4 ∧ g3 ≠ g4 by have := bz_ HB.out; have := blk_lt HX2.out; have := blk_lt HX3.out; omega); have n_ := Aside0.mk (Kd.S_below (Kd.S_elderB HS.out g4 (by omega)) hb); clear HS; have HS := n_; clear n_; have n_ := Aside0.mk (bb_ HX2.out hb); clear HX2; have HX2 := n_; clear n_; have n_ := Aside0.mk (bb_ HX3.out hb); clear HX3; have HX3 := n_; clear n_; have n_ := Aside0.mk (bp_ HB.out hb); clear HB; have HB := n_; clear n_; have hz4 : w4.cell? ⟨g4, 0, none⟩ = some (.slice none 0 0) := (bc_ HX4.out 0).trans rfl; have hfz4 := bf_ HX4.out 0; clear hbox hb hg4) | ((with_reducible refine gate_store (t := 37) (p := 4) rfl ?_); refine store_event (t := 37) (p := 4) (v := .tmp 8) (w1 := (w4.setCell ⟨g4, 0, none⟩ (.slice A8 0 c8))) ?hg ?ho ?hn ?hr ?_; (case ho => rfl); (case hg => rfl); (case hn => rfl); (case hr => first | (go_simp; done) | (go_simp; rfl)); intro w5 hw5; have t2_ := blk_far (p := ⟨g4, 0, none⟩) HX2.out HG4.out.2.1 (.slice A8 0 c8); have t3_ := blk_far (p := ⟨g4, 0, none⟩) HX3.out HG4.out.2.2 (.slice A8 0 c8); have t4_ := blk_put HX4.out 0 (.slice A8 0 c8) rfl; have tS_ := Kd.S_far (p := ⟨g4, 0, none⟩) HS.out (fun _ hk => hk.2) (.slice A8 0 c8); have tB_ : Below w.heap.size w (w4.setCell ⟨g4, 0, none⟩ (.slice A8 0 c8)) := bs_ HB.out HG4.out.1; rw [← hw5] at t2_ t3_ t4_ tS_ tB_; clear HX2 HX3 HX4 HS HB hz4 hfz4; have HX2 := Aside0.mk t2_; have HX3 := Aside0.mk t3_; have HX4 := Aside0.mk t4_; have HS := Aside0.mk (Kd.S_mono (ok' := fun k => k ≠ g4) tS_ (fun _ hk => hk.2)); have HB := Aside0.mk tB_; have hs2 := (bc_ HX2.out 2).trans rfl; clear hw5 t2_ t3_ t4_ tS_ tB_))
 (try clear hs2)
 go_loopg [12] ships.length (fun gg s12 wr => ∃ (i : Nat) (Au : Option Addr) (nu cu : Nat), i ≤ ships.length ∧ ships.length - i ≤ gg ∧ s12 = .int .i64 i ∧ Aside0 (wr.heap[g2]? = some (.cells #[.int .i64 (W0 : Int), .int .i64 (H0 : Int), .slice A2 ships.length c2] 28 (0, 0))) ∧ Aside0 (wr.heap[g3]? = some (.cells #[.func (.func g) #[] lb] 64 (0, 0))) ∧ Aside0 (wr.heap[g4]? = some (.cells #[.slice Au nu cu] 37 (0, 0))) ∧ Aside0 (Kd.S (Kd.slice 2 (Kd.int .i64)) 22 wr w.heap.size (fun k => k ≠ g4) (.slice Au nu cu) (rowsE W0 H0 ships i)) ∧ Aside0 (Below w.heap.size w wr))
 case atStart => exact ⟨0, A8, 0, c8, Nat.zero_le _, Nat.le_refl _, rfl, HX2, HX3, HX4, ⟨HS.out⟩, HB⟩
 case round =>
  clear HX2 HX3 HX4 HS HB
  obtain ⟨i, Au, nu, cu, hi, hgi, rfl, HX2, HX3, HX4, HS, HB⟩ := hrel
  by_cases hlt : i < ships.length
  ·obtain ⟨ad2, rfl, hx2⟩ := Kd.at_int (HSH.out _ HB.out) (i : Int) (by omega) (by omega)
   rw [Int.toNat_natCast] at hx2
   have q1 := decide_eq_true (show (i : Int) < (ships.length : Int) by omega)
   have q2 := decide_eq_true hlt
   have q3 := eq_true (show (i : Int) < (ships.length : Int) by omega)
   have q4 := eq_true (show (0 : Int) ≤ (i : Int) by omega)
   have q5 := eq_true hlt
   have HLT := Aside0.mk (show i + 1 ≤ ships.length by omega)
   have HJm := Aside0.mk (show ships.length - (i + 1) < gk by omega)
   have HJs := Aside0.mk (show wrap64 ((i : Int) + 1) = ((i + 1 : Nat) : Int) from wrap_one (a := i) (by have := HSz.out; omega))
   obtain ⟨n, hn, hn1, hn5⟩ := inW_nat (HSI.out i hlt)
   obtain ⟨sh, hsh⟩ : ∃ sh, rd ships (i : Int) = sh := ⟨_, rfl⟩
   obtain ⟨P, hP⟩ : ∃ P, placeOf W0 H0 ships i = P := ⟨_, rfl⟩
   have HPr := Aside0.mk (show rowsE W0 H0 ships (i + 1) = rowsE W0 H0 ships i ++ [P] by rw [← hP]; simp [rowsE, List.range_succ])
   have HPf := Aside0.mk (show impl_Sea_placements.f (W0 : Int) (H0 : Int) ships sh = some P by
    rw [← hP, ← hsh, hn]
    unfold impl_Sea_placements.f
    have hW := HW.out
    have inn : ∀ m : Nat, 1 ≤ m → m ≤ 5 → inW (m : Int) 1 5 = true := fun m h1 h5 => by unfold inW; rw [decide_eq_true (by omega), decide_eq_true (by omega)]; rfl
    rw [if_pos ⟨inn _ hW.1.1 hW.1.2, inn _ hW.2.1 hW.2.2, inn _ hn1 hn5⟩]
    unfold placeOf
    rw [hn]
    simp only [Int.toNat_natCast])
   rw [hsh] at hx2
   clear hn hn1 hn5 hsh hP hlt
   go_wp2_with fail
   have n2_ := Aside0.mk (bkd_ HX2.out)
   have n3_ := Aside0.mk (bkd_ HX3.out)
   have n4_ := Aside0.mk (bkd_ HX4.out)
   have nS_ := Aside0.mk (Kd.S_drew HS.out)
   have nb_ := Aside0.mk (bd1_ HB.out)
   clear HX2 HX3 HX4 HS HB
   refine start_ (n := 7) (S := fun w' => w'.cell? ⟨g4, 0, none⟩ = some (.slice Au nu cu) ∧ w'.cell? ⟨g2, 0, none⟩ = some (.int .i64 (W0 : Int)) ∧ w'.cell? ⟨g2, 1, none⟩ = some (.int .i64 (H0 : Int)) ∧ w'.cell? ⟨g2, 2, none⟩ = some (.slice (some ad2) ships.length c2)) (ds := [6]) #[false, false, false, false, false, false, false] (by kernel_rfl) rfl rfl ⟨(bc_ n4_.out 0).trans rfl, (bc_ n2_.out 0).trans rfl, (bc_ n2_.out 1).trans rfl, (bc_ n2_.out 2).trans rfl⟩ (fun hHeld => ?_)
   refine with_tabW impl_Sea_eachFleet.tab5 impl_Sea_eachFleet.bits5 (fun HT_ HW_ => ?_)
   generalize wr.drew = w10 at n2_ n3_ n4_ nS_ nb_ hHeld ⊢
   refine take_ (i := 0) (N := some 16) (v := ?_) (a' := ?_) (flg_ 7 1) rfl rfl (take_ofW HT_.out HW_.out (by kernel_rfl)) (fun _ _ _ h => h) (Or.inl ⟨by rfl, ?_⟩) hHeld ?_ ?_
   rotate_left; (· (rintro w' ⟨s0_, s1_, s2_, s3_⟩; go_simp; with_reducible rfl)); rotate_left; (· (simp only [Act.put, sz_, s0_, s1_, i64_w, i32_w]; rfl))
   refine take_ (i := 1) (N := some 17) (v := ?_) (a' := ?_) (flg_ 7 3) rfl rfl (take_ofW HT_.out HW_.out (by kernel_rfl)) (fun _ _ _ h => h) (Or.inl ⟨by rfl, ?_⟩) hHeld ?_ ?_
   rotate_left; (· (rintro w' ⟨s0_, s1_, s2_, s3_⟩; go_simp; with_reducible rfl)); rotate_left; (· (simp only [Act.put, sz_, s0_, s1_, i64_w, i32_w]; rfl))
   refine pure_ (i := 2) (N := some 18) (v := ?_) (a' := ?_) (flg_ 7 7) rfl rfl (any_of HT_.out (by kernel_rfl)) (fun _ _ _ h => h) (Or.inl ⟨by rfl, ?_⟩) ?_ ?_
   rotate_left; (· (intro w'; go_simp; with_reducible rfl)); rotate_left; (· (simp only [Act.put, sz_, s0_, s1_, i64_w, i32_w]; rfl))
   refine one_ (i := 3) (N := some 19) (flg_ 7 15) rfl rfl (one_of HT_.out (by kernel_rfl)) (by decide) (fun K hK => ?_)
   refine goes_ Try.func49 (by kernel_rfl) rfl #[.agg #[.int .i64 (W0 : Int), .int .i64 (H0 : Int), .slice (some ad2) ships.length c2], .int .i64 sh] (by rfl) rfl rfl (by (try simp only [List.map_toArray, List.map_cons, List.map_nil]); first | done | rfl) ?_
   refine (impl_Sea_placements.calls (W0 : Int) (H0 : Int) (some ad2) c2 ships sh P w10 (HSH.out w10 nb_.out) HC2.out HPf.out).mono ?_
   rintro e w11 ⟨v19, rfl, ho, hb⟩
   refine ⟨_, rfl, ?_⟩
   obtain ⟨A19, c19, e19⟩ := Kd.R_slice ho
   subst e19
   have mP_ := Aside0.mk (Kd.R_lower ho (bz_ nb_.out))
   have mS_ := Aside0.mk (Kd.S_elder' nS_.out (Kd.R_base ho) hb)
   have m2_ := Aside0.mk (bb_ n2_.out hb)
   have m3_ := Aside0.mk (bb_ n3_.out hb)
   have m4_ := Aside0.mk (bb_ n4_.out hb)
   have mb_ := Aside0.mk (bp_ nb_.out hb)
   have mN_ := Aside0.mk (show ∀ k, some k = (Value.slice A19 P.length c19).ownBlock → g4 < k by intro k hk; have h1 := Kd.R_base ho k hk.symm; have := blk_lt n4_.out; omega)
   clear ho hb n2_ n3_ n4_ nS_ nb_
   refine hK.out _ _ ⟨(bc_ m4_.out 0).trans rfl, (bc_ m2_.out 0).trans rfl, (bc_ m2_.out 1).trans rfl, (bc_ m2_.out 2).trans rfl⟩ (fun hHeld => ?_)
   clear hK K
   refine norm_ (a' := ?_) ?_ ?_
   rotate_left
   ·show Act.put _ (some 19) _ = _
    simp only [Act.put, sz_, s0_, s1_, i64_w, i32_w]
    rfl
   refine one_ (i := 4) (N := some 20) (flg_ 7 31) rfl rfl (one_of HT_.out (by kernel_rfl)) (by decide) (fun K hK => ?_)
   refine value_ (w1 := w11.alloc (.cells #[.slice A19 P.length c19] 22 (0, 0))) (v := .slice (some ⟨w11.heap.size, 0, none⟩) 1 1) (by rfl) rfl ?_ ?_
   ·go_simp
    (try rfl)
   have k2_ := Aside0.mk (bka_ m2_.out (.cells #[.slice A19 P.length c19] 22 (0, 0)))
   have k4_ := Aside0.mk (bka_ m4_.out (.cells #[.slice A19 P.length c19] 22 (0, 0)))
   refine hK.out _ _ ⟨(bc_ k4_.out 0).trans rfl, (bc_ k2_.out 0).trans rfl, (bc_ k2_.out 1).trans rfl, (bc_ k2_.out 2).trans rfl⟩ (fun hHeld => ?_)
   clear hK K
   refine norm_ (a' := ?_) ?_ ?_
   rotate_left
   ·show Act.put _ (some 20) _ = _
    simp only [Act.put, sz_, s0_, s1_, i64_w, i32_w]
    rfl
   refine one_ (i := 5) (N := some 21) (flg_ 7 63) rfl rfl (one_of HT_.out (by kernel_rfl)) (by decide) (fun K hK => ?_)
   refine Kd.S_append_step (Kd.slice 2 (Kd.int .i64)) (w0 := w) w.heap.size (by rfl) (.tmp 16) (.tmp 20) 37 22 (.slice none 0 0) 24 rfl Try.underlying37 info22 rfl (by decide) (by omega) (.slice Au nu cu) (rowsE W0 H0 ships i) P [.slice A19 P.length c19] (fun k => k ≠ g4) (fun k_ => some k_ = (.slice A19 P.length c19 : Value).ownBlock) (by rfl) (by rfl) ?aP ?aQ ?aF ?aO mb_.out (bz_ mb_.out) ?aL ?_
   ·exact Kd.M_row (Kd.R_mono (Kd.R_tight rfl mP_.out) (fun _ h_ => h_))
   ·exact fun k_ e_ => ⟨fun h_ => by have := mN_.out k_ e_; omega, ((Kd.R_apart' mP_.out (Kd.S_typed mS_.out) (by decide)).1 k_ e_.symm).2⟩
   ·intro k_ hk_ e_
    have := blk_lt m4_.out
    omega
   ·exact Kd.S_mono mS_.out (fun k hk => ⟨hk.1, fun e_ => hk.2 e_⟩)
   ·rw [rowsE_len]
    have := HLT.out
    have := HSz.out
    omega
   intro v21 w12 ho hb hg hat
   obtain ⟨A21, c21, e21⟩ := Kd.S_slice ho
   subst e21
   have hne_ : ∀ {g : Nat} {cs : Array Value} {t : Nat}, w11.heap[g]? = some (.cells cs t (0, 0)) → 22 ≠ t → w12.heap[g]? = some (.cells cs t (0, 0)) := fun hb_ ht_ => blk_grown hb_ hg (Kd.S_ne mS_.out hb_ ht_)
   clear k4_ k2_
   have k2_ := Aside0.mk (hne_ m2_.out (by decide))
   have k3_ := Aside0.mk (hne_ m3_.out (by decide))
   have k4_ := Aside0.mk (hne_ m4_.out (by decide))
   have kS_ := Aside0.mk ho
   have kb_ := Aside0.mk hb
   clear ho hb hg hat hne_ m2_ m3_ m4_ mS_ mP_ mb_ mN_
   refine hK.out _ _ ⟨(bc_ k4_.out 0).trans rfl, (bc_ k2_.out 0).trans rfl, (bc_ k2_.out 1).trans rfl, (bc_ k2_.out 2).trans rfl⟩ (fun hHeld => ?_)
   clear hK K
   refine norm_ (a' := ?_) ?_ ?_
   rotate_left
   ·show Act.put _ (some 21) _ = _
    simp only [Act.put, sz_, s0_, s1_, i64_w, i32_w]
    rfl
   refine last_ (i := 6) (N := none) (flg_ 7 127) rfl rfl (one_of HT_.out (by kernel_rfl)) (by decide) (fun K hK => ?_)
   have hfR := bf_ k4_.out 0
   have hcR := (bc_ k4_.out 0).trans rfl
   refine skip_ (w1 := w12.setCell ⟨g4, 0, none⟩ (.slice A21 (rowsE W0 H0 ships i ++ [P]).length c21)) (by rfl) rfl ?_ ?_
   ·go_simp
    (try rfl)
   refine hK.out _ _ ?_
   clear hK K hfR hcR hHeld
   have HX2 := Aside0.mk (blk_far (p := ⟨g4, 0, none⟩) k2_.out HG4.out.2.1 (.slice A21 (rowsE W0 H0 ships i ++ [P]).length c21))
   have HX3 := Aside0.mk (blk_far (p := ⟨g4, 0, none⟩) k3_.out HG4.out.2.2 (.slice A21 (rowsE W0 H0 ships i ++ [P]).length c21))
   have HX4 := Aside0.mk (blk_put k4_.out 0 (.slice A21 (rowsE W0 H0 ships i ++ [P]).length c21) rfl)
   have HS := Aside0.mk (Kd.S_far (p := ⟨g4, 0, none⟩) kS_.out (fun _ hk => hk) (.slice A21 (rowsE W0 H0 ships i ++ [P]).length c21))
   have HB := Aside0.mk (bs_ kb_.out HG4.out.1 : Below w.heap.size w (w12.setCell ⟨g4, 0, none⟩ (.slice A21 (rowsE W0 H0 ships i ++ [P]).length c21)))
   clear k2_ k3_ k4_ kS_ kb_
   generalize w12.setCell ⟨g4, 0, none⟩ (.slice A21 (rowsE W0 H0 ships i ++ [P]).length c21) = w13 at HX2 HX3 HX4 HS HB ⊢
   refine done_ (done_of HT_.out (by kernel_rfl)) ?_
   go_wp2_with fail
   go_roundg (ships.length - (i + 1))
   case measure => exact HJm.out
   case rel => exact ⟨i + 1, A21, _, c21, HLT.out, Nat.le_refl _, (by first | rfl | exact congrArg (Value.int .i64) HJs.out), HX2, HX3, HX4, ⟨by rw [show rowsE W0 H0 ships (i + 1) = rowsE W0 H0 ships i ++ [P] from HPr.out]; exact HS.out⟩, HB⟩
  ·have hie : i = ships.length := by omega
   subst hie
   have q1 := decide_eq_false (show ¬ (ships.length : Int) < (ships.length : Int) by omega)
   go_wp2_with (first | ((with_reducible refine gate_dst (N := 7) rfl ?_); refine box_event ?hg (N := 7) ?hd (cs := #[.nilFunc]) (t := 64) ?hr ?_; (case hd => rfl); (case hg => rfl); (case hr => first | (go_simp; done) | (go_simp; rfl)); intro g7 hg7 w6 hbox hb; have HX7 := Aside0.mk hbox; have HG7 := Aside0.mk (show w.heap.size ≤ g7 ∧ g2 ≠ g7 ∧ g3 ≠ g7 ∧ g4 ≠ g7 by have := bz_ HB.out; have := blk_lt HX2.out; have := blk_lt HX3.out; have := blk_lt HX4.out; omega); have n_ := Aside0.mk (Kd.S_below (Kd.S_elderB HS.out g7 (by omega)) hb); clear HS; have HS := n_; clear n_; have n_ := Aside0.mk (bb_ HX2.out hb); clear HX2; have HX2 := n_; clear n_; have n_ := Aside0.mk (bb_ HX3.out hb); clear HX3; have HX3 := n_; clear n_; have n_ := Aside0.mk (bb_ HX4.out hb); clear HX4; have HX4 := n_; clear n_; have n_ := Aside0.mk (bp_ HB.out hb); clear HB; have HB := n_; clear n_; have hz7 : w6.cell? ⟨g7, 0, none⟩ = some .nilFunc := (bc_ HX7.out 0).trans rfl; have hfz7 := bf_ HX7.out 0; clear hbox hb hg7) | ((with_reducible refine gate_store (t := 64) (p := 7) rfl ?_); refine store_event (t := 64) (p := 7) (v := .tmp 23) (w1 := (w6.setCell ⟨g7, 0, none⟩ (.func (.func 56) #[] #[.pointer (some ⟨g2, 0, none⟩), .pointer (some ⟨g3, 0, none⟩), .pointer (some ⟨g4, 0, none⟩), .pointer (some ⟨g7, 0, none⟩)]))) ?hg ?ho ?hn ?hr ?_; (case ho => rfl); (case hg => rfl); (case hn => rfl); (case hr => first | (go_simp; done) | (go_simp; rfl)); intro w7 hw7; have t2_ := blk_far (p := ⟨g7, 0, none⟩) HX2.out HG7.out.2.1 (.func (.func 56) #[] #[.pointer (some ⟨g2, 0, none⟩), .pointer (some ⟨g3, 0, none⟩), .pointer (some ⟨g4, 0, none⟩), .pointer (some ⟨g7, 0, none⟩)]); have t3_ := blk_far (p := ⟨g7, 0, none⟩) HX3.out HG7.out.2.2.1 (.func (.func 56) #[] #[.pointer (some ⟨g2, 0, none⟩), .pointer (some ⟨g3, 0, none⟩), .pointer (some ⟨g4, 0, none⟩), .pointer (some ⟨g7, 0, none⟩)]); have t4_ := blk_far (p := ⟨g7, 0, none⟩) HX4.out HG7.out.2.2.2 (.func (.func 56) #[] #[.pointer (some ⟨g2, 0, none⟩), .pointer (some ⟨g3, 0, none⟩), .pointer (some ⟨g4, 0, none⟩), .pointer (some ⟨g7, 0, none⟩)]); have t7_ := blk_put HX7.out 0 (.func (.func 56) #[] #[.pointer (some ⟨g2, 0, none⟩), .pointer (some ⟨g3, 0, none⟩), .pointer (some ⟨g4, 0, none⟩), .pointer (some ⟨g7, 0, none⟩)]) rfl; have tS_ := Kd.S_far (p := ⟨g7, 0, none⟩) HS.out (fun _ hk => hk.2) (.func (.func 56) #[] #[.pointer (some ⟨g2, 0, none⟩), .pointer (some ⟨g3, 0, none⟩), .pointer (some ⟨g4, 0, none⟩), .pointer (some ⟨g7, 0, none⟩)]); have tB_ : Below w.heap.size w (w6.setCell ⟨g7, 0, none⟩ (.func (.func 56) #[] #[.pointer (some ⟨g2, 0, none⟩), .pointer (some ⟨g3, 0, none⟩), .pointer (some ⟨g4, 0, none⟩), .pointer (some ⟨g7, 0, none⟩)])) := bs_ HB.out HG7.out.1; rw [← hw7] at t2_ t3_ t4_ t7_ tS_ tB_; clear HX2 HX3 HX4 HX7 HS HB hz7 hfz7; have HX2 := Aside0.mk t2_; have HX3 := Aside0.mk t3_; have HX4 := Aside0.mk t4_; have HX7 := Aside0.mk t7_; have HS := Aside0.mk tS_; have HB := Aside0.mk tB_; have hf7 := (bc_ HX7.out 0).trans rfl; clear hw7 t2_ t3_ t4_ t7_ tS_ tB_) | (go_at_fn 56; refine (each_find W0 H0 ships A2 c2 g lb g2 g3 g4 g7 Au nu cu I b HEG.out HOK.out HSz.out HC2.out HPl.out w w7 HBw.out M0 HI.out HB.out HX2.out HX3.out HX4.out HX7.out ⟨HG2.out, HG3.out.1, HG4.out.1, HG7.out.1⟩ HS.out HCl.out).mono ?_; rintro e w8 ⟨rfl, M1, hi, hf⟩; have HI1 := Aside0.mk hi; have HF1 := Aside0.mk hf; clear hi hf))
   go_end0
   exact ⟨rfl, M1, HI1.out, HF1.out⟩
def spec_l01In.f (a0 : Int) (a1 : Int) (a2 : Int) : Option (Bool) := if a0 ≥ a1 then (some (decide (a0 ≤ a2))) else (some false)
set_option maxHeartbeats 8000000 in
set_option maxRecDepth 100000 in
theorem spec_l01In.calls (a0 : Int) (a1 : Int) (a2 : Int) (r : Bool) (w : World) (h : spec_l01In.f a0 a1 a2 = some r) :
  Calls Try.prog 43 #[.int .i64 a0, .int .i64 a1, .int .i64 a2] w fun e w' => e = .returned (.bool r) ∧ Drawn0 w w' := by
 have H : (if a0 ≥ a1 then (some (decide (a0 ≤ a2))) else (some false)) = some r := h
 clear h
 by_cases c4 : a0 ≥ a1
 ·rw [if_pos c4] at H
  have c4b0 : decide (a1 ≤ a0) = true := decide_eq_true c4
  clear c4
  obtain rfl := Option.some.inj H
  go_enter Try.func43, Try.ntmps43
  go_wp2
  go_ret
  exact ⟨by first | rfl | (simp; done) | (simp [*]; done), by repeat (first | exact Drawn0.refl _ | apply Drawn0.step)⟩
 ·rw [if_neg c4] at H
  have c4b0 : decide (a1 ≤ a0) = false := decide_eq_false c4
  clear c4
  obtain rfl := Option.some.inj H
  go_enter Try.func43, Try.ntmps43
  go_wp2
  go_ret
  exact ⟨by first | rfl | (simp; done) | (simp [*]; done), by repeat (first | exact Drawn0.refl _ | apply Drawn0.step)⟩
mutual
def spec_l09Is.j0 : Nat → Bool → Int → Int → List Int → Option (Bool)
 | 0, _, _, _, _ => none
 | k + 1, x20, x104000, x104001, x104002 => if x20 = true then (some false) else (spec_l09Is.l0 k 0 x104000 x104001 x104002)
def spec_l09Is.l0 : Nat → Int → Int → Int → List Int → Option (Bool)
 | 0, _, _, _, _ => none
 | k + 1, x3, x104000, x104001, x104002 => if x3 < (x104002.length : Int) then (if 0 ≤ x3 then ((spec_l01In.f (rd x104002 x3) 1 5).bind fun t108 => (if t108 = true then (if x3 > 0 then (if 0 ≤ (wrap64 (x3 - 1)) then (if (wrap64 (x3 - 1)) < (x104002.length : Int) then (if (rd x104002 x3) > (rd x104002 (wrap64 (x3 - 1))) then (some false) else (spec_l09Is.l0 k (wrap64 (x3 + 1)) x104000 x104001 x104002)) else (none)) else (none)) else (spec_l09Is.l0 k (wrap64 (x3 + 1)) x104000 x104001 x104002)) else (some false))) else (none)) else (some true)
end
def spec_l09Is.f (k : Nat) (a0_0 : Int) (a0_1 : Int) (l0_2 : List Int) : Option (Bool) := (spec_l01In.f a0_0 1 5).bind fun t104 => (if t104 = true then ((spec_l01In.f a0_1 1 5).bind fun t105 => (if t105 = true then ((spec_l01In.f (l0_2.length : Int) 1 3).bind fun t106 => (spec_l09Is.j0 k (!t106) a0_0 a0_1 l0_2)) else (spec_l09Is.j0 k true a0_0 a0_1 l0_2))) else (spec_l09Is.j0 k true a0_0 a0_1 l0_2))
set_option maxHeartbeats 8000000 in
set_option maxRecDepth 100000 in
theorem spec_l09Is.calls (k : Nat) (a0_0 : Int) (a0_1 : Int) (A0_2 : Option Addr) (c0_2 : Nat) (l0_2 : List Int) (r : Bool) (w : World) (hr0_2 : Kd.C (Kd.int .i64) w A0_2 l0_2.length l0_2) (hc0_2 : l0_2.length ≤ c0_2) (h : spec_l09Is.f k a0_0 a0_1 l0_2 = some r) :
  Calls Try.prog 25 #[.agg #[.int .i64 a0_0, .int .i64 a0_1, .slice A0_2 l0_2.length c0_2]] w fun e w' => e = .returned (.bool r) ∧ Below w.heap.size w w' := by
 have hu28 := Try.underlying28
 have HR0_2 := Aside0.mk hr0_2
 have HC0_2 := Aside0.mk hc0_2
 clear hr0_2 hc0_2
 have HB := Aside0.mk (Below.refl w.heap.size w)
 have H : ((spec_l01In.f a0_0 1 5).bind fun t104 => (if t104 = true then ((spec_l01In.f a0_1 1 5).bind fun t105 => (if t105 = true then ((spec_l01In.f (l0_2.length : Int) 1 3).bind fun t106 => (spec_l09Is.j0 k (!t106) a0_0 a0_1 l0_2)) else (spec_l09Is.j0 k true a0_0 a0_1 l0_2))) else (spec_l09Is.j0 k true a0_0 a0_1 l0_2))) = some r := h
 clear h
 have HC2 := Aside0.mk H
 clear H
 go_enter Try.func25, Try.ntmps25
 go_upto_region 1 with (first | ((with_reducible refine gate_dst (N := 1) rfl ?_); (try (refine gate_guard (by rfl) ?_; dsimp only)); refine box_event ?hg (N := 1) ?hd (cs := #[.int .i64 a0_0, .int .i64 a0_1, .slice A0_2 l0_2.length c0_2]) (t := 28) ?hr ?_; (case hd => rfl); (case hg => rfl); (case hr => first | (go_simp; done) | (go_simp; rfl)); intro gb103 hg w3 hbox hb; have n0_ := Aside0.mk (bp_ hb_ hb); have n1_ := Aside0.mk (hbox); have n2_ := Aside0.mk ((by rw [hg]; exact (bz_ hb_) : w.heap.size ≤ gb103)); have n3_ := Aside0.mk ((by rw [hg]; exact (bz_ hb_) : w.heap.size ≤ gb103)); clear HB; have HB := n0_; have BK103 := n1_; have GW103 := n2_; have GE103 := n3_; clear n0_ n1_ n2_ n3_; clear hb hbox hg))
 repeat (go_quiet (first | ((with_reducible refine gate_dst (N := 1) rfl ?_); (try (refine gate_guard (by rfl) ?_; dsimp only)); refine box_event ?hg (N := 1) ?hd (cs := #[.int .i64 a0_0, .int .i64 a0_1, .slice A0_2 l0_2.length c0_2]) (t := 28) ?hr ?_; (case hd => rfl); (case hg => rfl); (case hr => first | (go_simp; done) | (go_simp; rfl)); intro gb103 hg w3 hbox hb; have n0_ := Aside0.mk (bp_ hb_ hb); have n1_ := Aside0.mk (hbox); have n2_ := Aside0.mk ((by rw [hg]; exact (bz_ hb_) : w.heap.size ≤ gb103)); have n3_ := Aside0.mk ((by rw [hg]; exact (bz_ hb_) : w.heap.size ≤ gb103)); clear HB; have HB := n0_; have BK103 := n1_; have GW103 := n2_; have GE103 := n3_; clear n0_ n1_ n2_ n3_; clear hb hbox hg)); go_upto_region 1 with (first | ((with_reducible refine gate_dst (N := 1) rfl ?_); (try (refine gate_guard (by rfl) ?_; dsimp only)); refine box_event ?hg (N := 1) ?hd (cs := #[.int .i64 a0_0, .int .i64 a0_1, .slice A0_2 l0_2.length c0_2]) (t := 28) ?hr ?_; (case hd => rfl); (case hg => rfl); (case hr => first | (go_simp; done) | (go_simp; rfl)); intro gb103 hg w3 hbox hb; have n0_ := Aside0.mk (bp_ hb_ hb); have n1_ := Aside0.mk (hbox); have n2_ := Aside0.mk ((by rw [hg]; exact (bz_ hb_) : w.heap.size ≤ gb103)); have n3_ := Aside0.mk ((by rw [hg]; exact (bz_ hb_) : w.heap.size ≤ gb103)); clear HB; have HB := n0_; have BK103 := n1_; have GW103 := n2_; have GE103 := n3_; clear n0_ n1_ n2_ n3_; clear hb hbox hg)))
 (try simp only [Act.put, List.setIfInBounds_toArray, List.set_cons_zero, List.set_cons_succ])
 go_cut [20] (fun v20 wc => ∃ (kq : Nat) (x20_1 : Bool), v20 = .bool x20_1 ∧ Aside0 (spec_l09Is.j0 kq x20_1 a0_0 a0_1 l0_2 = some r) ∧ Aside0 (kq ≤ k) ∧ Aside0 (wc.heap[gb103]? = some (.cells #[.int .i64 a0_0, .int .i64 a0_1, (.slice A0_2 l0_2.length c0_2)] 28 (0, 0))) ∧ Aside0 (Below w.heap.size w wc))
 case first =>
  have H := HC2.out
  clear HC2
  replace H := Option.bind_eq_some_iff.mp H
  obtain ⟨t104, A40, H⟩ := H
  replace H : (if t104 = true then ((spec_l01In.f a0_1 1 5).bind fun t105 => (if t105 = true then ((spec_l01In.f (l0_2.length : Int) 1 3).bind fun t106 => (spec_l09Is.j0 k (!t106) a0_0 a0_1 l0_2)) else (spec_l09Is.j0 k true a0_0 a0_1 l0_2))) else (spec_l09Is.j0 k true a0_0 a0_1 l0_2)) = some r := H
  have A4 := Aside0.mk A40
  clear A40
  by_cases c5 : t104 = true
  ·subst c5
   have H1 : ((spec_l01In.f a0_1 1 5).bind fun t105 => (if t105 = true then ((spec_l01In.f (l0_2.length : Int) 1 3).bind fun t106 => (spec_l09Is.j0 k (!t106) a0_0 a0_1 l0_2)) else (spec_l09Is.j0 k true a0_0 a0_1 l0_2))) = some r := by rw [if_pos rfl] at H; exact H
   clear H
   have H := H1
   clear H1
   replace H := Option.bind_eq_some_iff.mp H
   obtain ⟨t105, A60, H⟩ := H
   replace H : (if t105 = true then ((spec_l01In.f (l0_2.length : Int) 1 3).bind fun t106 => (spec_l09Is.j0 k (!t106) a0_0 a0_1 l0_2)) else (spec_l09Is.j0 k true a0_0 a0_1 l0_2)) = some r := H
   have A6 := Aside0.mk A60
   clear A60
   by_cases c7 : t105 = true
   ·subst c7
    have H1 : ((spec_l01In.f (l0_2.length : Int) 1 3).bind fun t106 => (spec_l09Is.j0 k (!t106) a0_0 a0_1 l0_2)) = some r := by rw [if_pos rfl] at H; exact H
    clear H
    have H := H1
    clear H1
    replace H := Option.bind_eq_some_iff.mp H
    obtain ⟨t106, A80, H⟩ := H
    replace H : (spec_l09Is.j0 k (!t106) a0_0 a0_1 l0_2) = some r := H
    have A8 := Aside0.mk A80
    clear A80
    have H' := Aside0.mk H
    clear H
    have hcz9_0 : w3.cell? ⟨gb103, 0, none⟩ = some (.int .i64 a0_0) := (bc_ BK103.out 0).trans rfl
    have hcz9_1 : w3.cell? ⟨gb103, 1, none⟩ = some (.int .i64 a0_1) := (bc_ BK103.out 1).trans rfl
    have hcz9_2 : w3.cell? ⟨gb103, 2, none⟩ = some (.slice A0_2 l0_2.length c0_2) := (bc_ BK103.out 2).trans rfl
    have hfz9_0 := bf_ BK103.out 0
    have hfz9_1 := bf_ BK103.out 1
    have hfz9_2 := bf_ BK103.out 2
    go_wp2_with (first | (go_at_call 43; (with_reducible refine (spec_l01In.calls a0_0 1 5 true _ A4.out).mono ?_); rintro e w' ⟨rfl, ⟨nd, rfl⟩⟩; (try first | exact ⟨rfl, _, World.drewN_drewN _ _ _⟩ | exact ⟨rfl, _, Eq.trans (World.drewN_drewN _ _ _) (congrArg (World.drewN _) (Nat.add_assoc _ _ _))⟩)) | (go_at_call 43; (with_reducible refine (spec_l01In.calls a0_1 1 5 true _ A6.out).mono ?_); rintro e w' ⟨rfl, ⟨nd, rfl⟩⟩; (try first | exact ⟨rfl, _, World.drewN_drewN _ _ _⟩ | exact ⟨rfl, _, Eq.trans (World.drewN_drewN _ _ _) (congrArg (World.drewN _) (Nat.add_assoc _ _ _))⟩)) | (go_at_call 43; (with_reducible refine (spec_l01In.calls (l0_2.length : Int) 1 3 t106 _ A8.out).mono ?_); rintro e w' ⟨rfl, ⟨nd, rfl⟩⟩; (try first | exact ⟨rfl, _, World.drewN_drewN _ _ _⟩ | exact ⟨rfl, _, Eq.trans (World.drewN_drewN _ _ _) (congrArg (World.drewN _) (Nat.add_assoc _ _ _))⟩)))
    repeat (go_quiet (first | (go_at_call 43; (with_reducible refine (spec_l01In.calls a0_0 1 5 true _ A4.out).mono ?_); rintro e w' ⟨rfl, ⟨nd, rfl⟩⟩; (try first | exact ⟨rfl, _, World.drewN_drewN _ _ _⟩ | exact ⟨rfl, _, Eq.trans (World.drewN_drewN _ _ _) (congrArg (World.drewN _) (Nat.add_assoc _ _ _))⟩)) | (go_at_call 43; (with_reducible refine (spec_l01In.calls a0_1 1 5 true _ A6.out).mono ?_); rintro e w' ⟨rfl, ⟨nd, rfl⟩⟩; (try first | exact ⟨rfl, _, World.drewN_drewN _ _ _⟩ | exact ⟨rfl, _, Eq.trans (World.drewN_drewN _ _ _) (congrArg (World.drewN _) (Nat.add_assoc _ _ _))⟩)) | (go_at_call 43; (with_reducible refine (spec_l01In.calls (l0_2.length : Int) 1 3 t106 _ A8.out).mono ?_); rintro e w' ⟨rfl, ⟨nd, rfl⟩⟩; (try first | exact ⟨rfl, _, World.drewN_drewN _ _ _⟩ | exact ⟨rfl, _, Eq.trans (World.drewN_drewN _ _ _) (congrArg (World.drewN _) (Nat.add_assoc _ _ _))⟩))); try go_wp2_with (first | (go_at_call 43; (with_reducible refine (spec_l01In.calls a0_0 1 5 true _ A4.out).mono ?_); rintro e w' ⟨rfl, ⟨nd, rfl⟩⟩; (try first | exact ⟨rfl, _, World.drewN_drewN _ _ _⟩ | exact ⟨rfl, _, Eq.trans (World.drewN_drewN _ _ _) (congrArg (World.drewN _) (Nat.add_assoc _ _ _))⟩)) | (go_at_call 43; (with_reducible refine (spec_l01In.calls a0_1 1 5 true _ A6.out).mono ?_); rintro e w' ⟨rfl, ⟨nd, rfl⟩⟩; (try first | exact ⟨rfl, _, World.drewN_drewN _ _ _⟩ | exact ⟨rfl, _, Eq.trans (World.drewN_drewN _ _ _) (congrArg (World.drewN _) (Nat.add_assoc _ _ _))⟩)) | (go_at_call 43; (with_reducible refine (spec_l01In.calls (l0_2.length : Int) 1 3 t106 _ A8.out).mono ?_); rintro e w' ⟨rfl, ⟨nd, rfl⟩⟩; (try first | exact ⟨rfl, _, World.drewN_drewN _ _ _⟩ | exact ⟨rfl, _, Eq.trans (World.drewN_drewN _ _ _) (congrArg (World.drewN _) (Nat.add_assoc _ _ _))⟩))))
    go_meet
    case rel => exact ⟨_, (!t106), (by first | rfl | (simp; done) | (simp [*]; done)), H', ⟨by first | omega | exact Nat.le_refl _⟩, ⟨by (with_reducible repeat (first | refine bN_ ?_ _ | refine bkd_ ?_ | refine bka_ ?_ _)); exact BK103.out⟩, ⟨by repeat (first | (with_reducible first | exact HB.out | apply ba_ | apply pbN_ | apply bd1_ | refine bs_ ?_ GE103.out) | exact HB.out)⟩⟩
   ·replace c7 := Bool.eq_false_iff.mpr c7
    subst c7
    have H1 : (spec_l09Is.j0 k true a0_0 a0_1 l0_2) = some r := by rw [if_neg (show ¬ (false = true) by decide)] at H; exact H
    clear H
    have H := H1
    clear H1
    have H' := Aside0.mk H
    clear H
    have hcz10_0 : w3.cell? ⟨gb103, 0, none⟩ = some (.int .i64 a0_0) := (bc_ BK103.out 0).trans rfl
    have hcz10_1 : w3.cell? ⟨gb103, 1, none⟩ = some (.int .i64 a0_1) := (bc_ BK103.out 1).trans rfl
    have hcz10_2 : w3.cell? ⟨gb103, 2, none⟩ = some (.slice A0_2 l0_2.length c0_2) := (bc_ BK103.out 2).trans rfl
    have hfz10_0 := bf_ BK103.out 0
    have hfz10_1 := bf_ BK103.out 1
    have hfz10_2 := bf_ BK103.out 2
    go_wp2_with (first | (go_at_call 43; (with_reducible refine (spec_l01In.calls a0_0 1 5 true _ A4.out).mono ?_); rintro e w' ⟨rfl, ⟨nd, rfl⟩⟩; (try first | exact ⟨rfl, _, World.drewN_drewN _ _ _⟩ | exact ⟨rfl, _, Eq.trans (World.drewN_drewN _ _ _) (congrArg (World.drewN _) (Nat.add_assoc _ _ _))⟩)) | (go_at_call 43; (with_reducible refine (spec_l01In.calls a0_1 1 5 false _ A6.out).mono ?_); rintro e w' ⟨rfl, ⟨nd, rfl⟩⟩; (try first | exact ⟨rfl, _, World.drewN_drewN _ _ _⟩ | exact ⟨rfl, _, Eq.trans (World.drewN_drewN _ _ _) (congrArg (World.drewN _) (Nat.add_assoc _ _ _))⟩)))
    repeat (go_quiet (first | (go_at_call 43; (with_reducible refine (spec_l01In.calls a0_0 1 5 true _ A4.out).mono ?_); rintro e w' ⟨rfl, ⟨nd, rfl⟩⟩; (try first | exact ⟨rfl, _, World.drewN_drewN _ _ _⟩ | exact ⟨rfl, _, Eq.trans (World.drewN_drewN _ _ _) (congrArg (World.drewN _) (Nat.add_assoc _ _ _))⟩)) | (go_at_call 43; (with_reducible refine (spec_l01In.calls a0_1 1 5 false _ A6.out).mono ?_); rintro e w' ⟨rfl, ⟨nd, rfl⟩⟩; (try first | exact ⟨rfl, _, World.drewN_drewN _ _ _⟩ | exact ⟨rfl, _, Eq.trans (World.drewN_drewN _ _ _) (congrArg (World.drewN _) (Nat.add_assoc _ _ _))⟩))); try go_wp2_with (first | (go_at_call 43; (with_reducible refine (spec_l01In.calls a0_0 1 5 true _ A4.out).mono ?_); rintro e w' ⟨rfl, ⟨nd, rfl⟩⟩; (try first | exact ⟨rfl, _, World.drewN_drewN _ _ _⟩ | exact ⟨rfl, _, Eq.trans (World.drewN_drewN _ _ _) (congrArg (World.drewN _) (Nat.add_assoc _ _ _))⟩)) | (go_at_call 43; (with_reducible refine (spec_l01In.calls a0_1 1 5 false _ A6.out).mono ?_); rintro e w' ⟨rfl, ⟨nd, rfl⟩⟩; (try first | exact ⟨rfl, _, World.drewN_drewN _ _ _⟩ | exact ⟨rfl, _, Eq.trans (World.drewN_drewN _ _ _) (congrArg (World.drewN _) (Nat.add_assoc _ _ _))⟩))))
    go_meet
    case rel => exact ⟨_, (true), (by first | rfl | (simp; done) | (simp [*]; done)), H', ⟨by first | omega | exact Nat.le_refl _⟩, ⟨by (with_reducible repeat (first | refine bN_ ?_ _ | refine bkd_ ?_ | refine bka_ ?_ _)); exact BK103.out⟩, ⟨by repeat (first | (with_reducible first | exact HB.out | apply ba_ | apply pbN_ | apply bd1_ | refine bs_ ?_ GE103.out) | exact HB.out)⟩⟩
  ·replace c5 := Bool.eq_false_iff.mpr c5
   subst c5
   have H1 : (spec_l09Is.j0 k true a0_0 a0_1 l0_2) = some r := by rw [if_neg (show ¬ (false = true) by decide)] at H; exact H
   clear H
   have H := H1
   clear H1
   have H' := Aside0.mk H
   clear H
   have hcz11_0 : w3.cell? ⟨gb103, 0, none⟩ = some (.int .i64 a0_0) := (bc_ BK103.out 0).trans rfl
   have hcz11_1 : w3.cell? ⟨gb103, 1, none⟩ = some (.int .i64 a0_1) := (bc_ BK103.out 1).trans rfl
   have hcz11_2 : w3.cell? ⟨gb103, 2, none⟩ = some (.slice A0_2 l0_2.length c0_2) := (bc_ BK103.out 2).trans rfl
   have hfz11_0 := bf_ BK103.out 0
   have hfz11_1 := bf_ BK103.out 1
   have hfz11_2 := bf_ BK103.out 2
   go_wp2_with (first | (go_at_call 43; (with_reducible refine (spec_l01In.calls a0_0 1 5 false _ A4.out).mono ?_); rintro e w' ⟨rfl, ⟨nd, rfl⟩⟩; (try first | exact ⟨rfl, _, World.drewN_drewN _ _ _⟩ | exact ⟨rfl, _, Eq.trans (World.drewN_drewN _ _ _) (congrArg (World.drewN _) (Nat.add_assoc _ _ _))⟩)))
   repeat (go_quiet (first | (go_at_call 43; (with_reducible refine (spec_l01In.calls a0_0 1 5 false _ A4.out).mono ?_); rintro e w' ⟨rfl, ⟨nd, rfl⟩⟩; (try first | exact ⟨rfl, _, World.drewN_drewN _ _ _⟩ | exact ⟨rfl, _, Eq.trans (World.drewN_drewN _ _ _) (congrArg (World.drewN _) (Nat.add_assoc _ _ _))⟩))); try go_wp2_with (first | (go_at_call 43; (with_reducible refine (spec_l01In.calls a0_0 1 5 false _ A4.out).mono ?_); rintro e w' ⟨rfl, ⟨nd, rfl⟩⟩; (try first | exact ⟨rfl, _, World.drewN_drewN _ _ _⟩ | exact ⟨rfl, _, Eq.trans (World.drewN_drewN _ _ _) (congrArg (World.drewN _) (Nat.add_assoc _ _ _))⟩))))
   go_meet
   case rel => exact ⟨_, (true), (by first | rfl | (simp; done) | (simp [*]; done)), H', ⟨by first | omega | exact Nat.le_refl _⟩, ⟨by (with_reducible repeat (first | refine bN_ ?_ _ | refine bkd_ ?_ | refine bka_ ?_ _)); exact BK103.out⟩, ⟨by repeat (first | (with_reducible first | exact HB.out | apply ba_ | apply pbN_ | apply bd1_ | refine bs_ ?_ GE103.out) | exact HB.out)⟩⟩
 case rest =>
  clear HC2
  (try clear c2); (try clear p2); (try clear c5); (try clear c7); (try clear hcz10_0); (try clear hcz10_1); (try clear hcz10_2); (try clear hcz11_0); (try clear hcz11_1); (try clear hcz11_2); (try clear hcz9_0); (try clear hcz9_1); (try clear hcz9_2); (try clear hfz10_0); (try clear hfz10_1); (try clear hfz10_2); (try clear hfz11_0); (try clear hfz11_1); (try clear hfz11_2); (try clear hfz9_0); (try clear hfz9_1); (try clear hfz9_2)
  obtain ⟨kq, x20_1, rfl, HA, HJ1, BK103, HB⟩ := hcut
  cases kq with
  | zero => exact absurd HA.out (by simp [spec_l09Is.j0])
  | succ kj1 =>
   have H := HA.out
   clear HA
   simp only [spec_l09Is.j0] at H
   by_cases c12 : x20_1 = true
   ·subst c12
    have H1 : (some false) = some r := by rw [if_pos rfl] at H; exact H
    clear H
    have H := H1
    clear H1
    obtain rfl := Option.some.inj H
    go_wp2
    repeat (go_quiet (fail); try go_wp2)
    go_ret
    exact ⟨by first | rfl | (simp [errW_none, errW_some] <;> rfl) | (simp [*, errW_none, errW_some] <;> rfl), by repeat (first | (with_reducible first | exact HB.out | apply ba_ | apply pbN_ | apply bd1_ | refine bs_ ?_ GE103.out) | exact HB.out)⟩
   ·replace c12 := Bool.eq_false_iff.mpr c12
    subst c12
    have H1 : (spec_l09Is.l0 kj1 0 a0_0 a0_1 l0_2) = some r := by rw [if_neg (show ¬ (false = true) by decide)] at H; exact H
    clear H
    have H := H1
    clear H1
    have H' := Aside0.mk H
    clear H
    go_wp2
    repeat (go_quiet (fail); try go_wp2)
    go_loopg [3] kj1 (fun kq v3 w' => ∃ (x3_2 : Int), v3 = .int .i64 x3_2 ∧ Aside0 (spec_l09Is.l0 kq x3_2 a0_0 a0_1 l0_2 = some r) ∧ Aside0 (kq ≤ kj1) ∧ Aside0 (w'.heap[gb103]? = some (.cells #[.int .i64 a0_0, .int .i64 a0_1, (.slice A0_2 l0_2.length c0_2)] 28 (0, 0))) ∧ Aside0 (Below w.heap.size w w'))
    case atStart => exact ⟨(0), (by first | rfl | (simp; done) | (simp [*]; done)), H', ⟨Nat.le_refl _⟩, ⟨by (with_reducible repeat (first | refine bN_ ?_ _ | refine bkd_ ?_ | refine bka_ ?_ _)); exact BK103.out⟩, ⟨by repeat (first | (with_reducible first | exact HB.out | apply ba_ | apply pbN_ | apply bd1_ | refine bs_ ?_ GE103.out) | exact HB.out)⟩⟩
    case round =>
     clear H'
     (try clear c1); (try clear c2); (try clear p2); (try clear c5); (try clear c7); (try clear c12); (try clear hcz10_0); (try clear hcz10_1); (try clear hcz10_2); (try clear hcz11_0); (try clear hcz11_1); (try clear hcz11_2); (try clear hcz9_0); (try clear hcz9_1); (try clear hcz9_2); (try clear hfz10_0); (try clear hfz10_1); (try clear hfz10_2); (try clear hfz11_0); (try clear hfz11_1); (try clear hfz11_2); (try clear hfz9_0); (try clear hfz9_1); (try clear hfz9_2); (try clear p2)
     obtain ⟨x3_2, rfl, HA, HK2, BK103, HB⟩ := hrel
     cases gk with
     | zero => exact absurd HA.out (by simp [spec_l09Is.l0])
     | succ k2 =>
      have H := HA.out
      clear HA
      simp only [spec_l09Is.l0] at H
      by_cases c13 : x3_2 < (l0_2.length : Int)
      ·rw [if_pos c13] at H
       have c13b0 : decide (x3_2 < (l0_2.length : Int)) = true := decide_eq_true c13
       clear c13
       by_cases c14 : 0 ≤ x3_2
       ·rw [if_pos c14] at H
        have c14b0 : decide (0 ≤ x3_2) = true := decide_eq_true c14
        clear c14
        replace H := Option.bind_eq_some_iff.mp H
        obtain ⟨t108, A150, H⟩ := H
        replace H : (if t108 = true then (if x3_2 > 0 then (if 0 ≤ (wrap64 (x3_2 - 1)) then (if (wrap64 (x3_2 - 1)) < (l0_2.length : Int) then (if (rd l0_2 x3_2) > (rd l0_2 (wrap64 (x3_2 - 1))) then (some false) else (spec_l09Is.l0 k2 (wrap64 (x3_2 + 1)) a0_0 a0_1 l0_2)) else (none)) else (none)) else (spec_l09Is.l0 k2 (wrap64 (x3_2 + 1)) a0_0 a0_1 l0_2)) else (some false)) = some r := H
        have A15 := Aside0.mk A150
        clear A150
        by_cases c16 : t108 = true
        ·subst c16
         have H1 : (if x3_2 > 0 then (if 0 ≤ (wrap64 (x3_2 - 1)) then (if (wrap64 (x3_2 - 1)) < (l0_2.length : Int) then (if (rd l0_2 x3_2) > (rd l0_2 (wrap64 (x3_2 - 1))) then (some false) else (spec_l09Is.l0 k2 (wrap64 (x3_2 + 1)) a0_0 a0_1 l0_2)) else (none)) else (none)) else (spec_l09Is.l0 k2 (wrap64 (x3_2 + 1)) a0_0 a0_1 l0_2)) = some r := by rw [if_pos rfl] at H; exact H
         clear H
         have H := H1
         clear H1
         by_cases c17 : x3_2 > 0
         ·rw [if_pos c17] at H
          have c17b0 : decide (0 < x3_2) = true := decide_eq_true c17
          clear c17
          obtain ⟨ji18, hji18⟩ : ∃ j_ : Int, (wrap64 (x3_2 - 1)) = j_ := ⟨_, rfl⟩
          replace H : (if 0 ≤ (ji18) then (if (ji18) < (l0_2.length : Int) then (if (rd l0_2 x3_2) > (rd l0_2 (ji18)) then (some false) else (spec_l09Is.l0 k2 (wrap64 (x3_2 + 1)) a0_0 a0_1 l0_2)) else (none)) else (none)) = some r := by first | (rw [hji18] at H; exact H) | (simp only [hji18] at H ⊢; exact H)
          (try rw [hji18] at A15)
          have hji18w : (IntKind.i64.wrap (x3_2 - 1)) = ji18 := (i64_w _).trans hji18
          by_cases c19 : 0 ≤ (ji18)
          ·rw [if_pos c19] at H
           have c19b0 : decide (0 ≤ (ji18)) = true := decide_eq_true c19
           clear c19
           by_cases c20 : (ji18) < (l0_2.length : Int)
           ·rw [if_pos c20] at H
            have c20b0 : decide ((ji18) < (l0_2.length : Int)) = true := decide_eq_true c20
            clear c20
            by_cases c21 : (rd l0_2 x3_2) > (rd l0_2 (ji18))
            ·rw [if_pos c21] at H
             have c21b0 : decide ((rd l0_2 (ji18)) < (rd l0_2 x3_2)) = true := decide_eq_true c21
             clear c21
             obtain rfl := Option.some.inj H
             have hcz22_0 : wr.cell? ⟨gb103, 0, none⟩ = some (.int .i64 a0_0) := (bc_ BK103.out 0).trans rfl
             have hcz22_1 : wr.cell? ⟨gb103, 1, none⟩ = some (.int .i64 a0_1) := (bc_ BK103.out 1).trans rfl
             have hcz22_2 : wr.cell? ⟨gb103, 2, none⟩ = some (.slice A0_2 l0_2.length c0_2) := (bc_ BK103.out 2).trans rfl
             have hfz22_0 := bf_ BK103.out 0
             have hfz22_1 := bf_ BK103.out 1
             have hfz22_2 := bf_ BK103.out 2
             have p107 : 0 ≤ (x3_2 : Int) := oda
             have q107 : x3_2 < (l0_2.length : Int) := oda
             obtain ⟨ad107, e107, hx107_0⟩ := Kd.at_int HR0_2.out x3_2 p107 q107
             cases e107
             replace hx107_0 := (HB.out.cell (World.block_lt_of_cell? w _ hx107_0)).trans hx107_0
             replace p107 := eq_true p107
             replace q107 := eq_true q107
             (try (have p109 : 0 ≤ (x3_2 : Int) := oda; have q109 : x3_2 < (l0_2.length : Int) := oda; obtain ⟨ad109, e109, hx109_0⟩ := Kd.at_int HR0_2.out x3_2 p109 q109; obtain rfl : ad107 = ad109 := (by injection e109); replace hx109_0 := (HB.out.cell (World.block_lt_of_cell? w _ hx109_0)).trans hx109_0; replace p109 := eq_true p109; replace q109 := eq_true q109; have p110 : 0 ≤ ((ji18) : Int) := oda; have q110 : (ji18) < (l0_2.length : Int) := oda; obtain ⟨ad110, e110, hx110_0⟩ := Kd.at_int HR0_2.out (ji18) p110 q110; obtain rfl : ad107 = ad110 := (by injection e110); replace hx110_0 := (HB.out.cell (World.block_lt_of_cell? w _ hx110_0)).trans hx110_0; replace p110 := eq_true p110; replace q110 := eq_true q110))
             go_wp2_with (first | (go_at_call 43; (with_reducible refine (spec_l01In.calls (rd l0_2 x3_2) 1 5 true _ A15.out).mono ?_); rintro e w' ⟨rfl, ⟨nd, rfl⟩⟩; (try first | exact ⟨rfl, _, World.drewN_drewN _ _ _⟩ | exact ⟨rfl, _, Eq.trans (World.drewN_drewN _ _ _) (congrArg (World.drewN _) (Nat.add_assoc _ _ _))⟩); have p109 : 0 ≤ (x3_2 : Int) := oda; have q109 : x3_2 < (l0_2.length : Int) := oda; obtain ⟨ad109, e109, hx109_0⟩ := Kd.at_int HR0_2.out x3_2 p109 q109; obtain rfl : ad107 = ad109 := (by injection e109); replace hx109_0 := (HB.out.cell (World.block_lt_of_cell? w _ hx109_0)).trans hx109_0; replace p109 := eq_true p109; replace q109 := eq_true q109; have p110 : 0 ≤ ((ji18) : Int) := oda; have q110 : (ji18) < (l0_2.length : Int) := oda; obtain ⟨ad110, e110, hx110_0⟩ := Kd.at_int HR0_2.out (ji18) p110 q110; obtain rfl : ad107 = ad110 := (by injection e110); replace hx110_0 := (HB.out.cell (World.block_lt_of_cell? w _ hx110_0)).trans hx110_0; replace p110 := eq_true p110; replace q110 := eq_true q110))
             repeat (go_quiet (first | (go_at_call 43; (with_reducible refine (spec_l01In.calls (rd l0_2 x3_2) 1 5 true _ A15.out).mono ?_); rintro e w' ⟨rfl, ⟨nd, rfl⟩⟩; (try first | exact ⟨rfl, _, World.drewN_drewN _ _ _⟩ | exact ⟨rfl, _, Eq.trans (World.drewN_drewN _ _ _) (congrArg (World.drewN _) (Nat.add_assoc _ _ _))⟩))); try go_wp2_with (first | (go_at_call 43; (with_reducible refine (spec_l01In.calls (rd l0_2 x3_2) 1 5 true _ A15.out).mono ?_); rintro e w' ⟨rfl, ⟨nd, rfl⟩⟩; (try first | exact ⟨rfl, _, World.drewN_drewN _ _ _⟩ | exact ⟨rfl, _, Eq.trans (World.drewN_drewN _ _ _) (congrArg (World.drewN _) (Nat.add_assoc _ _ _))⟩); have p109 : 0 ≤ (x3_2 : Int) := oda; have q109 : x3_2 < (l0_2.length : Int) := oda; obtain ⟨ad109, e109, hx109_0⟩ := Kd.at_int HR0_2.out x3_2 p109 q109; obtain rfl : ad107 = ad109 := (by injection e109); replace hx109_0 := (HB.out.cell (World.block_lt_of_cell? w _ hx109_0)).trans hx109_0; replace p109 := eq_true p109; replace q109 := eq_true q109; have p110 : 0 ≤ ((ji18) : Int) := oda; have q110 : (ji18) < (l0_2.length : Int) := oda; obtain ⟨ad110, e110, hx110_0⟩ := Kd.at_int HR0_2.out (ji18) p110 q110; obtain rfl : ad107 = ad110 := (by injection e110); replace hx110_0 := (HB.out.cell (World.block_lt_of_cell? w _ hx110_0)).trans hx110_0; replace p110 := eq_true p110; replace q110 := eq_true q110)))
             go_ret
             exact ⟨by first | rfl | (simp [errW_none, errW_some] <;> rfl) | (simp only [← hji18]; first | rfl | (simp [errW_none, errW_some] <;> rfl)) | (simp [*, errW_none, errW_some] <;> rfl), by repeat (first | (with_reducible first | exact HB.out | apply ba_ | apply pbN_ | apply bd1_ | refine bs_ ?_ GE103.out) | exact HB.out)⟩
            ·rw [if_neg c21] at H
             have c21b0 : decide ((rd l0_2 (ji18)) < (rd l0_2 x3_2)) = false := decide_eq_false c21
             clear c21
             have H' := Aside0.mk H
             clear H
             have hcz23_0 : wr.cell? ⟨gb103, 0, none⟩ = some (.int .i64 a0_0) := (bc_ BK103.out 0).trans rfl
             have hcz23_1 : wr.cell? ⟨gb103, 1, none⟩ = some (.int .i64 a0_1) := (bc_ BK103.out 1).trans rfl
             have hcz23_2 : wr.cell? ⟨gb103, 2, none⟩ = some (.slice A0_2 l0_2.length c0_2) := (bc_ BK103.out 2).trans rfl
             have hfz23_0 := bf_ BK103.out 0
             have hfz23_1 := bf_ BK103.out 1
             have hfz23_2 := bf_ BK103.out 2
             have p107 : 0 ≤ (x3_2 : Int) := oda
             have q107 : x3_2 < (l0_2.length : Int) := oda
             obtain ⟨ad107, e107, hx107_0⟩ := Kd.at_int HR0_2.out x3_2 p107 q107
             cases e107
             replace hx107_0 := (HB.out.cell (World.block_lt_of_cell? w _ hx107_0)).trans hx107_0
             replace p107 := eq_true p107
             replace q107 := eq_true q107
             (try (have p109 : 0 ≤ (x3_2 : Int) := oda; have q109 : x3_2 < (l0_2.length : Int) := oda; obtain ⟨ad109, e109, hx109_0⟩ := Kd.at_int HR0_2.out x3_2 p109 q109; obtain rfl : ad107 = ad109 := (by injection e109); replace hx109_0 := (HB.out.cell (World.block_lt_of_cell? w _ hx109_0)).trans hx109_0; replace p109 := eq_true p109; replace q109 := eq_true q109; have p110 : 0 ≤ ((ji18) : Int) := oda; have q110 : (ji18) < (l0_2.length : Int) := oda; obtain ⟨ad110, e110, hx110_0⟩ := Kd.at_int HR0_2.out (ji18) p110 q110; obtain rfl : ad107 = ad110 := (by injection e110); replace hx110_0 := (HB.out.cell (World.block_lt_of_cell? w _ hx110_0)).trans hx110_0; replace p110 := eq_true p110; replace q110 := eq_true q110))
             go_wp2_with (first | (go_at_call 43; (with_reducible refine (spec_l01In.calls (rd l0_2 x3_2) 1 5 true _ A15.out).mono ?_); rintro e w' ⟨rfl, ⟨nd, rfl⟩⟩; (try first | exact ⟨rfl, _, World.drewN_drewN _ _ _⟩ | exact ⟨rfl, _, Eq.trans (World.drewN_drewN _ _ _) (congrArg (World.drewN _) (Nat.add_assoc _ _ _))⟩); have p109 : 0 ≤ (x3_2 : Int) := oda; have q109 : x3_2 < (l0_2.length : Int) := oda; obtain ⟨ad109, e109, hx109_0⟩ := Kd.at_int HR0_2.out x3_2 p109 q109; obtain rfl : ad107 = ad109 := (by injection e109); replace hx109_0 := (HB.out.cell (World.block_lt_of_cell? w _ hx109_0)).trans hx109_0; replace p109 := eq_true p109; replace q109 := eq_true q109; have p110 : 0 ≤ ((ji18) : Int) := oda; have q110 : (ji18) < (l0_2.length : Int) := oda; obtain ⟨ad110, e110, hx110_0⟩ := Kd.at_int HR0_2.out (ji18) p110 q110; obtain rfl : ad107 = ad110 := (by injection e110); replace hx110_0 := (HB.out.cell (World.block_lt_of_cell? w _ hx110_0)).trans hx110_0; replace p110 := eq_true p110; replace q110 := eq_true q110))
             repeat (go_quiet (first | (go_at_call 43; (with_reducible refine (spec_l01In.calls (rd l0_2 x3_2) 1 5 true _ A15.out).mono ?_); rintro e w' ⟨rfl, ⟨nd, rfl⟩⟩; (try first | exact ⟨rfl, _, World.drewN_drewN _ _ _⟩ | exact ⟨rfl, _, Eq.trans (World.drewN_drewN _ _ _) (congrArg (World.drewN _) (Nat.add_assoc _ _ _))⟩))); try go_wp2_with (first | (go_at_call 43; (with_reducible refine (spec_l01In.calls (rd l0_2 x3_2) 1 5 true _ A15.out).mono ?_); rintro e w' ⟨rfl, ⟨nd, rfl⟩⟩; (try first | exact ⟨rfl, _, World.drewN_drewN _ _ _⟩ | exact ⟨rfl, _, Eq.trans (World.drewN_drewN _ _ _) (congrArg (World.drewN _) (Nat.add_assoc _ _ _))⟩); have p109 : 0 ≤ (x3_2 : Int) := oda; have q109 : x3_2 < (l0_2.length : Int) := oda; obtain ⟨ad109, e109, hx109_0⟩ := Kd.at_int HR0_2.out x3_2 p109 q109; obtain rfl : ad107 = ad109 := (by injection e109); replace hx109_0 := (HB.out.cell (World.block_lt_of_cell? w _ hx109_0)).trans hx109_0; replace p109 := eq_true p109; replace q109 := eq_true q109; have p110 : 0 ≤ ((ji18) : Int) := oda; have q110 : (ji18) < (l0_2.length : Int) := oda; obtain ⟨ad110, e110, hx110_0⟩ := Kd.at_int HR0_2.out (ji18) p110 q110; obtain rfl : ad107 = ad110 := (by injection e110); replace hx110_0 := (HB.out.cell (World.block_lt_of_cell? w _ hx110_0)).trans hx110_0; replace p110 := eq_true p110; replace q110 := eq_true q110)))
             go_roundg k2
             case measure => have := HJ1.out; have := HK2.out; omega
             case rel => exact ⟨(wrap64 (x3_2 + 1)), (by first | rfl | (simp; done) | (simp [*]; done)), H', ⟨by have := HJ1.out; have := HK2.out; omega⟩, ⟨by (with_reducible repeat (first | refine bN_ ?_ _ | refine bkd_ ?_ | refine bka_ ?_ _)); exact BK103.out⟩, ⟨by repeat (first | (with_reducible first | exact HB.out | apply ba_ | apply pbN_ | apply bd1_ | refine bs_ ?_ GE103.out) | exact HB.out)⟩⟩
           ·rw [if_neg c20] at H
            exact absurd H (by simp)
          ·rw [if_neg c19] at H
           exact absurd H (by simp)
         ·rw [if_neg c17] at H
          have c17b0 : decide (0 < x3_2) = false := decide_eq_false c17
          clear c17
          have H' := Aside0.mk H
          clear H
          have hcz24_0 : wr.cell? ⟨gb103, 0, none⟩ = some (.int .i64 a0_0) := (bc_ BK103.out 0).trans rfl
          have hcz24_1 : wr.cell? ⟨gb103, 1, none⟩ = some (.int .i64 a0_1) := (bc_ BK103.out 1).trans rfl
          have hcz24_2 : wr.cell? ⟨gb103, 2, none⟩ = some (.slice A0_2 l0_2.length c0_2) := (bc_ BK103.out 2).trans rfl
          have hfz24_0 := bf_ BK103.out 0
          have hfz24_1 := bf_ BK103.out 1
          have hfz24_2 := bf_ BK103.out 2
          have p107 : 0 ≤ (x3_2 : Int) := oda
          have q107 : x3_2 < (l0_2.length : Int) := oda
          obtain ⟨ad107, e107, hx107_0⟩ := Kd.at_int HR0_2.out x3_2 p107 q107
          cases e107
          replace hx107_0 := (HB.out.cell (World.block_lt_of_cell? w _ hx107_0)).trans hx107_0
          replace p107 := eq_true p107
          replace q107 := eq_true q107
          go_wp2_with (first | (go_at_call 43; (with_reducible refine (spec_l01In.calls (rd l0_2 x3_2) 1 5 true _ A15.out).mono ?_); rintro e w' ⟨rfl, ⟨nd, rfl⟩⟩; (try first | exact ⟨rfl, _, World.drewN_drewN _ _ _⟩ | exact ⟨rfl, _, Eq.trans (World.drewN_drewN _ _ _) (congrArg (World.drewN _) (Nat.add_assoc _ _ _))⟩)))
          repeat (go_quiet (first | (go_at_call 43; (with_reducible refine (spec_l01In.calls (rd l0_2 x3_2) 1 5 true _ A15.out).mono ?_); rintro e w' ⟨rfl, ⟨nd, rfl⟩⟩; (try first | exact ⟨rfl, _, World.drewN_drewN _ _ _⟩ | exact ⟨rfl, _, Eq.trans (World.drewN_drewN _ _ _) (congrArg (World.drewN _) (Nat.add_assoc _ _ _))⟩))); try go_wp2_with (first | (go_at_call 43; (with_reducible refine (spec_l01In.calls (rd l0_2 x3_2) 1 5 true _ A15.out).mono ?_); rintro e w' ⟨rfl, ⟨nd, rfl⟩⟩; (try first | exact ⟨rfl, _, World.drewN_drewN _ _ _⟩ | exact ⟨rfl, _, Eq.trans (World.drewN_drewN _ _ _) (congrArg (World.drewN _) (Nat.add_assoc _ _ _))⟩))))
          go_roundg k2
          case measure => have := HJ1.out; have := HK2.out; omega
          case rel => exact ⟨(wrap64 (x3_2 + 1)), (by first | rfl | (simp; done) | (simp [*]; done)), H', ⟨by have := HJ1.out; have := HK2.out; omega⟩, ⟨by (with_reducible repeat (first | refine bN_ ?_ _ | refine bkd_ ?_ | refine bka_ ?_ _)); exact BK103.out⟩, ⟨by repeat (first | (with_reducible first | exact HB.out | apply ba_ | apply pbN_ | apply bd1_ | refine bs_ ?_ GE103.out) | exact HB.out)⟩⟩
        ·replace c16 := Bool.eq_false_iff.mpr c16
         subst c16
         have H1 : (some false) = some r := by rw [if_neg (show ¬ (false = true) by decide)] at H; exact H
         clear H
         have H := H1
         clear H1
         obtain rfl := Option.some.inj H
         have hcz25_0 : wr.cell? ⟨gb103, 0, none⟩ = some (.int .i64 a0_0) := (bc_ BK103.out 0).trans rfl
         have hcz25_1 : wr.cell? ⟨gb103, 1, none⟩ = some (.int .i64 a0_1) := (bc_ BK103.out 1).trans rfl
         have hcz25_2 : wr.cell? ⟨gb103, 2, none⟩ = some (.slice A0_2 l0_2.length c0_2) := (bc_ BK103.out 2).trans rfl
         have hfz25_0 := bf_ BK103.out 0
         have hfz25_1 := bf_ BK103.out 1
         have hfz25_2 := bf_ BK103.out 2
         have p107 : 0 ≤ (x3_2 : Int) := oda
         have q107 : x3_2 < (l0_2.length : Int) := oda
         obtain ⟨ad107, e107, hx107_0⟩ := Kd.at_int HR0_2.out x3_2 p107 q107
         cases e107
         replace hx107_0 := (HB.out.cell (World.block_lt_of_cell? w _ hx107_0)).trans hx107_0
         replace p107 := eq_true p107
         replace q107 := eq_true q107
         go_wp2_with (first | (go_at_call 43; (with_reducible refine (spec_l01In.calls (rd l0_2 x3_2) 1 5 false _ A15.out).mono ?_); rintro e w' ⟨rfl, ⟨nd, rfl⟩⟩; (try first | exact ⟨rfl, _, World.drewN_drewN _ _ _⟩ | exact ⟨rfl, _, Eq.trans (World.drewN_drewN _ _ _) (congrArg (World.drewN _) (Nat.add_assoc _ _ _))⟩)))
         repeat (go_quiet (first | (go_at_call 43; (with_reducible refine (spec_l01In.calls (rd l0_2 x3_2) 1 5 false _ A15.out).mono ?_); rintro e w' ⟨rfl, ⟨nd, rfl⟩⟩; (try first | exact ⟨rfl, _, World.drewN_drewN _ _ _⟩ | exact ⟨rfl, _, Eq.trans (World.drewN_drewN _ _ _) (congrArg (World.drewN _) (Nat.add_assoc _ _ _))⟩))); try go_wp2_with (first | (go_at_call 43; (with_reducible refine (spec_l01In.calls (rd l0_2 x3_2) 1 5 false _ A15.out).mono ?_); rintro e w' ⟨rfl, ⟨nd, rfl⟩⟩; (try first | exact ⟨rfl, _, World.drewN_drewN _ _ _⟩ | exact ⟨rfl, _, Eq.trans (World.drewN_drewN _ _ _) (congrArg (World.drewN _) (Nat.add_assoc _ _ _))⟩))))
         go_ret
         exact ⟨by first | rfl | (simp [errW_none, errW_some] <;> rfl) | (simp [*, errW_none, errW_some] <;> rfl), by repeat (first | (with_reducible first | exact HB.out | apply ba_ | apply pbN_ | apply bd1_ | refine bs_ ?_ GE103.out) | exact HB.out)⟩
       ·rw [if_neg c14] at H
        exact absurd H (by simp)
      ·rw [if_neg c13] at H
       have c13b0 : decide (x3_2 < (l0_2.length : Int)) = false := decide_eq_false c13
       clear c13
       obtain rfl := Option.some.inj H
       have hcz26_0 : wr.cell? ⟨gb103, 0, none⟩ = some (.int .i64 a0_0) := (bc_ BK103.out 0).trans rfl
       have hcz26_1 : wr.cell? ⟨gb103, 1, none⟩ = some (.int .i64 a0_1) := (bc_ BK103.out 1).trans rfl
       have hcz26_2 : wr.cell? ⟨gb103, 2, none⟩ = some (.slice A0_2 l0_2.length c0_2) := (bc_ BK103.out 2).trans rfl
       have hfz26_0 := bf_ BK103.out 0
       have hfz26_1 := bf_ BK103.out 1
       have hfz26_2 := bf_ BK103.out 2
       go_wp2
       repeat (go_quiet (fail); try go_wp2)
       go_ret
       exact ⟨by first | rfl | (simp [errW_none, errW_some] <;> rfl) | (simp [*, errW_none, errW_some] <;> rfl), by repeat (first | (with_reducible first | exact HB.out | apply ba_ | apply pbN_ | apply bd1_ | refine bs_ ?_ GE103.out) | exact HB.out)⟩

end Go.Proofs.Ythmfpdkemkjpkaa.F
