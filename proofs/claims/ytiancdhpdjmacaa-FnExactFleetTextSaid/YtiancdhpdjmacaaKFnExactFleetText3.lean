-- written by the session's program xp.py over the kit's print program, and by hand; texts joined by pack.py
import Derived.Test.YtiancdhpdjmacaaKFnExactFleetText2
namespace Go.Proofs.Ytiancdhpdjmacaa.F
open Go.RowKit Go.Proofs.YtiancdhpdjmacaaW.PrintWords Go.Proofs.YtiancdhpdjmacaaW.PrintLast Go.Proofs.YtiancdhpdjmacaaW.PrintMore
attribute [local go_sem] max2_int min2_int max_two min_two max_three min_three max_four min_four   -- for this text's walks alone
set_option linter.unusedVariables false
set_option linter.unusedSimpArgs false

def Try.sortI_ren : Go.Shelf.Ren := ⟨fun | 53 => 100 | 64 => 118 | 63 => 117 | 78 => 137 | 79 => 138 | 70 => 128 | 71 => 129 | 72 => 130 | 73 => 131 | 74 => 132 | 75 => 133 | 59 => 134 | 76 => 135 | 77 => 136 | 88 => 143 | 89 => 144 | 90 => 145 | 91 => 146 | 92 => 147 | 68 => 148 | 96 => 150 | n => n, fun | 22 => 22 | 23 => 2 | 3 => 3 | 51 => 123 | 0 => 0 | 67 => 143 | 69 => 83 | 4 => 4 | 61 => 135 | 60 => 134 | 44 => 140 | 5 => 5 | 9 => 9 | 75 => 148 | 79 => 152 | 83 => 155 | 84 => 156 | n => n, fun | n => n⟩
theorem Try.sortI : Go.Proofs.SlLaysN.n53 Try.prog Try.sortI_ren := {
  mixed := by kernel_rfl
  f53 := ⟨Try.f100.name, by decide, Try.func100.trans (congrArg some (by kernel_rfl))⟩
  f59 := ⟨Try.f134.name, by decide, Try.func134.trans (congrArg some (by kernel_rfl))⟩
  f63 := ⟨Try.f117.name, by decide, Try.func117.trans (congrArg some (by kernel_rfl))⟩
  f64 := Try.func118.trans (congrArg some (by kernel_rfl))
  f68 := ⟨Try.f148.name, by decide, Try.func148.trans (congrArg some (by kernel_rfl))⟩
  f70 := ⟨Try.f128.name, by decide, Try.func128.trans (congrArg some (by kernel_rfl))⟩
  f71 := ⟨Try.f129.name, by decide, Try.func129.trans (congrArg some (by kernel_rfl))⟩
  f72 := ⟨Try.f130.name, by decide, Try.func130.trans (congrArg some (by kernel_rfl))⟩
  f73 := ⟨Try.f131.name, by decide, Try.func131.trans (congrArg some (by kernel_rfl))⟩
  f74 := ⟨Try.f132.name, by decide, Try.func132.trans (congrArg some (by kernel_rfl))⟩
  f75 := ⟨Try.f133.name, by decide, Try.func133.trans (congrArg some (by kernel_rfl))⟩
  f76 := ⟨Try.f135.name, by decide, Try.func135.trans (congrArg some (by kernel_rfl))⟩
  f77 := ⟨Try.f136.name, by decide, Try.func136.trans (congrArg some (by kernel_rfl))⟩
  f78 := Try.func137.trans (congrArg some (by kernel_rfl))
  f79 := Try.func138.trans (congrArg some (by kernel_rfl))
  f88 := ⟨Try.f143.name, by decide, Try.func143.trans (congrArg some (by kernel_rfl))⟩
  f89 := Try.func144.trans (congrArg some (by kernel_rfl))
  f90 := Try.func145.trans (congrArg some (by kernel_rfl))
  f91 := ⟨Try.f146.name, by decide, Try.func146.trans (congrArg some (by kernel_rfl))⟩
  f92 := ⟨Try.f147.name, by decide, Try.func147.trans (congrArg some (by kernel_rfl))⟩
  f96 := ⟨Try.f150.name, by decide, Try.func150.trans (congrArg some (by kernel_rfl))⟩
  t0 := Try.underlying0
  a0 := Try.isAgg0
  z0 := Try.sizeOf0
  v0 := Try.zeroValue0
  t3 := Try.underlying3
  a3 := Try.isAgg3
  z3 := Try.sizeOf3
  v3 := Try.zeroValue3
  t4 := Try.underlying4
  a4 := Try.isAgg4
  z4 := Try.sizeOf4
  v4 := Try.zeroValue4
  t5 := Try.underlying5
  a5 := Try.isAgg5
  z5 := Try.sizeOf5
  v5 := Try.zeroValue5
  t9 := Try.underlying9
  a9 := Try.isAgg9
  z9 := Try.sizeOf9
  v9 := Try.zeroValue9
  t22 := Try.underlying22
  a22 := Try.isAgg22
  z22 := Try.sizeOf22
  v22 := Try.zeroValue22
  t23 := Try.underlying2
  a23 := Try.isAgg2
  z23 := Try.sizeOf2
  v23 := Try.zeroValue2
  t44 := Try.underlying140
  a44 := Try.isAgg140
  z44 := Try.sizeOf140
  v44 := Try.zeroValue140
  t51 := Try.underlying123
  a51 := Try.isAgg123
  z51 := Try.sizeOf123
  v51 := Try.zeroValue123
  t60 := Try.underlying134
  a60 := Try.isAgg134
  z60 := Try.sizeOf134
  v60 := Try.zeroValue134
  t61 := Try.underlying135
  a61 := Try.isAgg135
  z61 := Try.sizeOf135
  v61 := Try.zeroValue135
  t67 := Try.underlying143
  a67 := Try.isAgg143
  z67 := Try.sizeOf143
  v67 := Try.zeroValue143
  t69 := Try.underlying83
  a69 := Try.isAgg83
  z69 := Try.sizeOf83
  v69 := Try.zeroValue83
  t75 := Try.underlying148
  a75 := Try.isAgg148
  z75 := Try.sizeOf148
  v75 := Try.zeroValue148
  t79 := Try.underlying152
  a79 := Try.isAgg152
  z79 := Try.sizeOf152
  v79 := Try.zeroValue152
  t83 := Try.underlying155
  a83 := Try.isAgg155
  z83 := Try.sizeOf155
  v83 := Try.zeroValue155
  t84 := Try.underlying156
  a84 := Try.isAgg156
  z84 := Try.sizeOf156
  v84 := Try.zeroValue156 }
def Try.compactI_ren : Go.Shelf.Ren := ⟨fun | 43 => 101 | n => n, fun | 22 => 22 | 23 => 2 | 3 => 3 | 4 => 4 | 0 => 0 | n => n, fun | n => n⟩
theorem Try.compactI : Go.Proofs.SlLaysN.n43 Try.prog Try.compactI_ren := {
  mixed := by kernel_rfl
  f43 := ⟨Try.f101.name, by decide, Try.func101.trans (congrArg some (by kernel_rfl))⟩
  t0 := Try.underlying0
  a0 := Try.isAgg0
  z0 := Try.sizeOf0
  v0 := Try.zeroValue0
  t3 := Try.underlying3
  a3 := Try.isAgg3
  z3 := Try.sizeOf3
  v3 := Try.zeroValue3
  t4 := Try.underlying4
  a4 := Try.isAgg4
  z4 := Try.sizeOf4
  v4 := Try.zeroValue4
  t22 := Try.underlying22
  a22 := Try.isAgg22
  z22 := Try.sizeOf22
  v22 := Try.zeroValue22
  t23 := Try.underlying2
  a23 := Try.isAgg2
  z23 := Try.sizeOf2
  v23 := Try.zeroValue2
  i23 := by kernel_rfl }
-- slices.Sort, slices.Compact over a row of the call's own, by the shelf's contracts.
theorem own_none {t : TypeId} {w : World} {base : Nat} {ok : Nat → Prop} {xs : List Int} (h : Kd.R (Kd.int .i64) t w base ok (.slice none 0 0) xs) : xs = [] := by
  have := (Kd.R_reads' h).1
  exact List.eq_nil_of_length_eq_zero this.symm
theorem sort_own {w0 w : World} {ok : Nat → Prop} {v : Value} {xs : List Int} (ho : Kd.R (Kd.int .i64) 2 w w0.heap.size ok v xs) (hb : Below w0.heap.size w0 w) (hl : xs.length < 4611686018427387904) :
    Calls Try.prog 100 #[v] w fun e w' => e = .returned (.tuple #[]) ∧ Kd.R (Kd.int .i64) 2 w' w0.heap.size ok v (xs.mergeSort fun x y => decide (x ≤ y)) ∧ Below w0.heap.size w0 w' := by
  by_cases hv : v = .slice none 0 0
  · subst hv
    obtain rfl := own_none ho
    refine (AnyG.slices_Sort_int_none Try.sortI none 0 w).mono ?_
    rintro e w' ⟨rfl, rfl⟩
    exact ⟨rfl, by rw [List.mergeSort_nil]; exact ho, hb⟩
  · have hown := Kd.own_of_R ho
    obtain ⟨g, cap, rfl, hbg, hgl, hnc, hcm, hz, hH⟩ := Go.Lib.holds_of_ownsRow (enc := Value.int .i64) hown hv
    refine (AnyG.slices_Sort_int Try.sortI g 0 cap xs w hH hgl hl).mono ?_
    rintro e w' ⟨rfl, n, os, rfl⟩
    have hlen : (xs.mergeSort fun x y => decide (x ≤ y)).length = xs.length := List.length_mergeSort _
    rcases hown.2 with ⟨e0, _⟩ | ⟨g', cap', cur, e0, hbg', hh, h1, h2, h3, h4⟩
    · cases e0
    injection e0 with e1 _ e3
    injection e1 with e1
    injection e1 with e1
    subst e1 e3
    refine ⟨rfl, Kd.R_of_own ?_ ?_, ?_⟩
    · have := ownsRow_sortedI (n := n) (os := os) hlen hbg hh h1 h2 h3
      rw [hlen]
      exact this
    · exact ho.1
    · have hp := Go.Lib.below_putRow (enc := Value.int .i64) (q := n) (d := (xs.mergeSort fun x y => decide (x ≤ y)).toArray) hb hbg
      refine ⟨hp.os, hp.tape, hp.output, Nat.le_trans hp.size (by simp [Go.Sort.grow]), fun k hk => ?_⟩
      rw [← hp.block k hk]
      exact Array.getElem?_append_left (Nat.lt_of_lt_of_le hk hp.size)
theorem compact_own {w0 w : World} {ok : Nat → Prop} {v : Value} {xs : List Int} (ho : Kd.R (Kd.int .i64) 2 w w0.heap.size ok v xs) (hb : Below w0.heap.size w0 w) (hl : xs.length ≤ 4611686018427387904) :
    Calls Try.prog 101 #[v] w fun e w' => ∃ v1, e = .returned v1 ∧ Kd.R (Kd.int .i64) 2 w' w0.heap.size ok v1 (Go.Lib.compact xs) ∧ Below w0.heap.size w0 w' := by
  by_cases hv : v = .slice none 0 0
  · subst hv
    obtain rfl := own_none ho
    refine (AnyG.slices_Compact_int_empty Try.compactI none 0 w).mono ?_
    rintro e w' ⟨rfl, rfl⟩
    exact ⟨_, rfl, ho, hb⟩
  · have hown := Kd.own_of_R ho
    obtain ⟨g, cap, rfl, hbg, hgl, hnc, hcm, hz, hH⟩ := Go.Lib.holds_of_ownsRow (enc := Value.int .i64) hown hv
    refine (AnyG.slices_Compact_int Try.compactI g 0 cap xs w hH (by omega) (by omega)).mono ?_
    rintro e w' ⟨rfl, q, rfl⟩
    have hle := Go.Lib.compact_length_le xs
    refine ⟨_, rfl, Kd.R_of_own ?_ ?_, ?_⟩
    · have := Go.Lib.ownsRow_putRow (q := q) (ys := Go.Lib.compact xs ++ List.replicate (xs.length - (Go.Lib.compact xs).length) 0) hown (by simp; omega) hle
      rw [List.take_left] at this
      exact this
    · exact ho.1
    · exact Go.Lib.below_putRow hb hbg
def Try.sortedZ_ren : Go.Shelf.Ren := ⟨fun | 6 => 123 | 8 => 139 | 9 => 100 | 11 => 149 | 13 => 118 | 12 => 117 | 23 => 137 | 24 => 138 | 14 => 128 | 15 => 129 | 16 => 130 | 17 => 131 | 18 => 132 | 19 => 133 | 20 => 134 | 21 => 135 | 22 => 136 | 25 => 143 | 26 => 144 | 27 => 145 | 28 => 146 | 29 => 147 | 30 => 148 | 31 => 150 | n => n, fun | 26 => 2 | 28 => 129 | 24 => 22 | 0 => 0 | 3 => 3 | 37 => 123 | 48 => 143 | 50 => 83 | 4 => 4 | 40 => 135 | 39 => 134 | 45 => 140 | 5 => 5 | 9 => 9 | 51 => 148 | 55 => 152 | 57 => 155 | 58 => 156 | 33 => 82 | n => n, fun | n => n⟩
theorem Try.sortedZ : Go.Proofs.SlLaysZI.n6 Try.prog Try.sortedZ_ren := {
  mixed := by kernel_rfl
  f6 := ⟨Try.f123.name, by decide, Try.func123.trans (congrArg some (by kernel_rfl))⟩
  f8 := ⟨Try.f139.name, by decide, Try.func139.trans (congrArg some (by kernel_rfl))⟩
  f11 := ⟨Try.f149.name, by decide, Try.func149.trans (congrArg some (by kernel_rfl))⟩
  t0 := Try.underlying0
  a0 := Try.isAgg0
  z0 := Try.sizeOf0
  v0 := Try.zeroValue0
  t24 := Try.underlying22
  a24 := Try.isAgg22
  z24 := Try.sizeOf22
  v24 := Try.zeroValue22
  t26 := Try.underlying2
  a26 := Try.isAgg2
  z26 := Try.sizeOf2
  v26 := Try.zeroValue2
  t28 := Try.underlying129
  a28 := Try.isAgg129
  z28 := Try.sizeOf129
  v28 := Try.zeroValue129
  i26 := by kernel_rfl }
-- slices.Sorted over slices.Values of no element, by the shelf's contract of slices.Sorted.
-- sort_own
theorem sorts_wide (m : Nat) : AnyZI.SortsIn Try.prog Try.sortedZ_ren Fence.wide m :=
  ⟨fun blk off cap ss W hH hblk hsz => callsIn_wide.2 (AnyG.slices_Sort_int Try.sortI blk off cap ss W hH hblk hsz),
   fun p cap W => callsIn_wide.2 (AnyG.slices_Sort_int_none Try.sortI p cap W)⟩
-- slices.Sorted over slices.Values: the elements, sorted (slices.AppendSeq's walk turned from the kit's worked one over a map's keys).
-- sort_own sorts_wide
set_option maxRecDepth 100000 in
set_option maxHeartbeats 2000000 in
theorem values_gives (n l g c : Nat) (hn : 1 ≤ n) (A : Option Addr) (xs : List Int) (w : World) (hbox : w.heap[g]? = some (.cells #[.slice A xs.length c] 22 (0, 0))) (hC : Kd.C (Kd.int .i64) w A xs.length xs)
    (J : List Int → World → Prop) (hJ : ∀ pre W1, J pre W1 → Below w.heap.size w W1)
    (hY : ∀ pre x W1, J pre W1 → pre.length < xs.length → YieldAt Fence.wide (n - 1) Try.prog l #[encZ x] W1 fun e W' => e = .returned (.bool true) ∧ J (pre ++ [x]) W' ∧ KeepsWalks W1 W')
    (W : World) (h0 : J [] W) :
    CallsIn Fence.wide n Try.prog 140 #[.func (.yield l) #[] #[], .pointer (some ⟨g, 0, none⟩)] W fun e W' => (∃ v, e = .returned v) ∧ J xs W' := by
  have hb := hJ _ _ h0
  have hc0 : W.cell? ⟨g, 0, none⟩ = some (.slice A xs.length c) := (blk_cell (blk_below hbox hb) 0).trans rfl
  have HC := Aside0.mk hC
  have HJ := Aside0.mk hJ
  have HY := Aside0.mk hY
  have HJ0 := Aside0.mk h0
  clear hb hC hJ hY h0 hbox
  refine callsIn_of_wp Try.func140 rfl trivial ?_ rfl
  simp only [Try.ntmps140, List.size_toArray, List.length_cons, List.length_nil, Nat.reduceAdd, Nat.reduceSub, Array.replicate_succ, Array.replicate_zero, List.push_toArray, List.append_toArray, List.nil_append, List.cons_append]
  gi_wp2
  gi_loopg [7] xs.length (fun gg s7 wr => ∃ i : Nat, i ≤ xs.length ∧ xs.length - i ≤ gg ∧ s7 = .int .i64 i ∧ Aside0 (J (xs.take i) wr))
  case atStart => exact ⟨0, by omega, by omega, rfl, HJ0⟩
  case round =>
    obtain ⟨i, hi, hgi, rfl, HJi⟩ := hrel
    by_cases hlt : i < xs.length
    · have hlen := HC.out.2.1
      obtain ⟨ad, rfl, hx⟩ := Kd.at_int (Kd.C_below HC.out (HJ.out _ _ HJi.out)) (i : Int) (by omega) (by omega)
      rw [Int.toNat_natCast] at hx
      have hy := HY.out (xs.take i) (rd xs (i : Int)) wr HJi.out (by rw [List.length_take]; omega)
      have hstep : xs.take i ++ [rd xs (i : Int)] = xs.take (i + 1) := by rw [rd_get xs i hlt, List.take_succ_eq_append_getElem hlt]
      rw [hstep] at hy
      have q1 := decide_eq_true (show (i : Int) < (xs.length : Int) by omega)
      have q2 := decide_eq_true hlt
      have q3 := eq_true (show (i : Int) < (xs.length : Int) by omega)
      have q4 := eq_true (show (0 : Int) ≤ (i : Int) by omega)
      have q5 := eq_true hlt
      clear hstep
      obtain ⟨fn, tmps, assign, body, hyr, hR⟩ := hy
      gi_wp2
      refine hR.mono ?_
      rintro e W3 ⟨rfl, hJ3, hk3⟩
      gi_wp2
      go_roundg (xs.length - (i + 1))
      case measure => omega
      case rel => exact ⟨i + 1, by omega, by omega, by go_num, ⟨hJ3⟩⟩
    · have hie : i = xs.length := by omega
      subst hie
      have q1 := decide_eq_false (show ¬ (xs.length : Int) < (xs.length : Int) by omega)
      gi_wp2
      go_end0
      exact ⟨⟨_, rfl⟩, by have := HJi.out; rwa [List.take_length] at this⟩
set_option maxRecDepth 100000 in
set_option maxHeartbeats 4000000 in
theorem appendVals (n gv c : Nat) (hn : 2 ≤ n) (A : Option Addr) (xs : List Int) (hN : xs.length ≤ maxLen) (hNb : xs.length * 8 ≤ 140737488355328) (w : World) (hbox : w.heap[gv]? = some (.cells #[.slice A xs.length c] 22 (0, 0))) (hC : Kd.C (Kd.int .i64) w A xs.length xs) :
    CallsIn Fence.wide n Try.prog 149 #[.slice none 0 0, .func (.func 140) #[] #[.pointer (some ⟨gv, 0, none⟩)]] w fun e w' => ∃ v : Value, e = .returned v ∧ w'.ownsRow w.heap.size 2 1 v xs.length (xs.map encZ) ∧ Below w.heap.size w w' := by
  have eg : ∀ args w, (callFunc 140 args).run Try.prog w = .ok (.enter 140 args) w := enters_of Try.func140 (by kernel_rfl) rfl
  refine callsIn_of_wp_marks Try.func149 rfl trivial ?_ rfl
  simp only [Try.ntmps149, List.size_toArray, List.length_cons, List.length_nil, Nat.reduceAdd, Nat.reduceSub, Array.replicate_succ, Array.replicate_zero, List.push_toArray, List.append_toArray, List.nil_append, List.cons_append]
  gi_wp2
  refine wpIn_rangeFunc ?_
  intro fn hfn
  rw [show Fence.wide.round = none from rfl]
  obtain ⟨W0, hW0⟩ : ∃ W0, w.alloc (.cells #[.slice none 0 0] 22) = W0 := ⟨_, rfl⟩
  have hs0 : W0.heap.size = w.heap.size + 1 := by rw [← hW0]; simp
  have hv0 : W0.heap[w.heap.size]? = some (.cells #[.slice none 0 0] 22 (0, 0)) := by rw [← hW0]; exact World.alloc_heap_new w _
  have hb0 : Below w.heap.size w W0 := by rw [← hW0]; exact (Below.refl _ w).alloc (Nat.le_refl _) _
  rw [hW0]
  obtain ⟨sv, hsv⟩ : ∃ sv : Value, Value.func (.func 140) #[] #[.pointer (some ⟨gv, 0, none⟩)] = sv := ⟨_, rfl⟩
  obtain ⟨W1, hW1⟩ : ∃ W1, (W0.alloc (.deferred (some []))).alloc (.loop (AnyZI.apRec Try.sortedZ_ren fn sv w.heap.size W0.heap.size .ready none)) = W1 := ⟨_, rfl⟩
  have hold : ∀ k, k < W0.heap.size → W1.heap[k]? = W0.heap[k]? := fun k hk => by
    rw [← hW1]; exact (Below.heap_alloc _ _ k (by simp; omega)).trans (Below.heap_alloc _ _ k hk)
  have hb1 : Below w.heap.size w W1 := by rw [← hW1]; exact (hb0.alloc hb0.size _).alloc (by have := hb0.size; simp; omega) _
  have hs1 : W1.heap.size = W0.heap.size + 2 := by rw [← hW1]; simp
  have hM : AnyZI.ApAt Try.sortedZ_ren w fn sv w.heap.size (W0.heap.size + 1) W0.heap.size [] W1 :=
    ⟨⟨_, (hold w.heap.size (by omega)).trans hv0, ⟨rfl, .inl ⟨rfl, rfl⟩⟩, by simp⟩,
     by rw [← hW1]; have := World.alloc_heap_new (W0.alloc (.deferred (some []))) (.loop (AnyZI.apRec Try.sortedZ_ren fn sv w.heap.size W0.heap.size .ready none)); rwa [World.size_alloc] at this,
     by rw [← hW1]; exact (Below.heap_alloc _ _ _ (by simp)).trans (World.alloc_heap_new W0 _), hb1⟩
  refine ⟨W0.heap.size + 1, [{ target := .collected W0.heap.size, args := #[] }], W1, { target := .fn (.func 140) #[.pointer (some ⟨gv, 0, none⟩)], args := #[.func (.yield (W0.heap.size + 1)) #[] #[]] }, W1, 140,
    #[.func (.yield (W0.heap.size + 1)) #[] #[]] ++ #[.pointer (some ⟨gv, 0, none⟩)], W1, ?_, ?_, ?_, ?_, fun _ => by omega, ?_⟩
  · rw [← hW1, ← hsv]; exact run_enterLoop_outer _ _ _ _ _
  · simp [resolve, go_sem]
  · intro f' hf'; simp [Target.leads] at hf'; subst hf'; trivial
  · simp [invoke, go_sem, eg]
  · refine (values_gives (n - 1) (W0.heap.size + 1) gv c (by omega) A xs w hbox hC (AnyZI.ApAt Try.sortedZ_ren w fn sv w.heap.size (W0.heap.size + 1) W0.heap.size) (fun pre W2 hJ => hJ.below)
      (fun pre x W hJ hl => AnyZI.apYield { Try.sortedZ with } Fence.wide (n - 1 - 1) w fn hfn _ w.heap.size (W0.heap.size + 1) W0.heap.size (by omega) (by omega) (by omega) (Nat.le_refl _) (by omega) xs.length hN hNb pre x W hJ hl) W1 hM).mono ?_
    rintro e W2 ⟨⟨v0, rfl⟩, h2⟩
    obtain ⟨v, hv, hrow, hnil⟩ := h2.box
    have hend := run_endLoop (P := Try.prog) h2.L (by simp [AnyZI.apRec])
    obtain ⟨W3, hW3⟩ : ∃ W3, W2.putObj (W0.heap.size + 1) (.loop { AnyZI.apRec Try.sortedZ_ren fn sv w.heap.size W0.heap.size .ready none with state := .exhausted }) = W3 := ⟨_, rfl⟩
    rw [hW3] at hend
    have hg3 : W2.grownBy W3 (some (W0.heap.size + 1)) := by rw [← hW3]; exact grownBy_putObj_a _ _ _
    have hv3 : W3.heap[w.heap.size]? = some (.cells #[v] 22 (0, 0)) := by rw [← hW3]; exact (World.putObj_heap_other (by omega)).trans hv
    have hK3 : W3.heap[W0.heap.size]? = some (.deferred (some [])) := by rw [← hW3]; exact (World.putObj_heap_other (by omega)).trans h2.K
    have hrow3 := hrow.kept hg3 (ownsRow_ne_a hrow h2.L (fun cur e => by cases e))
    have hb3 : Below w.heap.size w W3 := h2.below.grown hg3 h2.below.size (fun k e => by cases e; omega)
    obtain ⟨hc3, hf3⟩ := cell_of_box_a hv3
    clear hW3
    refine ⟨none, W3, hend, ?_⟩
    gi_wp2
    rw [← hs0]
    refine ⟨by simp, .inl ⟨_, _, rfl, run_takeDeferred hK3, ?_⟩⟩
    exact ⟨_, results_tmp rfl _ _ _, v, rfl, hrow3.kept (grownBy_putObj_a _ _ _) (ownsRow_ne_a hrow3 hK3 (fun cur e => by cases e)), hb3.grown (grownBy_putObj_a _ _ _) hb3.size (fun k e => by cases e; omega)⟩
set_option maxHeartbeats 1000000 in
theorem collect_vals (gv c : Nat) (A : Option Addr) (xs : List Int) (hN : xs.length ≤ 1048576) (w : World) (hbox : w.heap[gv]? = some (.cells #[.slice A xs.length c] 22 (0, 0))) (hC : Kd.C (Kd.int .i64) w A xs.length xs) :
    Calls Try.prog 139 #[.func (.func 140) #[] #[.pointer (some ⟨gv, 0, none⟩)]] w fun e w' => ∃ v : Value, e = .returned v ∧ Kd.R (Kd.int .i64) 2 w' w.heap.size (fun _ => True) v xs ∧ Below w.heap.size w w' := by
  have h := callsIn_wide.1 (appendVals 5 gv c (by omega) A xs (Nat.le_trans hN (by simp [maxLen])) (by omega) w hbox hC)
  clear hbox hC
  go_enter Try.func139, Try.ntmps139
  go_wp2_with (go_at_call 149; refine h.mono ?_; rintro e w1 ⟨v, rfl, ho, hb⟩; have HO := Aside0.mk ho; have HB := Aside0.mk hb; clear ho hb)
  go_ret
  exact ⟨v, rfl, Kd.R_of_own HO.out (fun _ _ => trivial), HB.out⟩
set_option maxHeartbeats 1000000 in
theorem sorted_vals (gv c : Nat) (A : Option Addr) (xs : List Int) (hN : xs.length ≤ 1048576) (w : World) (hbox : w.heap[gv]? = some (.cells #[.slice A xs.length c] 22 (0, 0))) (hC : Kd.C (Kd.int .i64) w A xs.length xs) :
    Calls Try.prog 123 #[.func (.func 140) #[] #[.pointer (some ⟨gv, 0, none⟩)]] w fun e w' => ∃ v : Value, e = .returned v ∧ Kd.R (Kd.int .i64) 2 w' w.heap.size (fun _ => True) v (xs.mergeSort fun x y => decide (x ≤ y)) ∧ Below w.heap.size w w' := by
  have h := collect_vals gv c A xs hN w hbox hC
  clear hbox hC
  go_enter Try.func123, Try.ntmps123
  go_wp2_with (first | (go_at_call 139; refine h.mono ?_; rintro e w1 ⟨v, rfl, ho, hb⟩; have HO := Aside0.mk ho; have HB := Aside0.mk hb; clear ho hb) | (go_at_call 100; refine (sort_own HO.out HB.out (by omega)).mono ?_; rintro e w2 ⟨rfl, ho, hb⟩; have HO2 := Aside0.mk ho; have HB2 := Aside0.mk hb; clear ho hb))
  go_ret
  exact ⟨v, rfl, HO2.out, HB2.out⟩
/-! ### impl_within: function 60 -/
def impl_within.f (a0 : Int) (a1 : Int) (a2 : Int) : Option (Bool) := if a1 ≤ a0 then (some (decide (a0 ≤ a2))) else (some false)
set_option maxHeartbeats 8000000 in
set_option maxRecDepth 100000 in
theorem impl_within.calls (a0 : Int) (a1 : Int) (a2 : Int) (r : Bool) (w : World) (h : impl_within.f a0 a1 a2 = some r) :
  Calls Try.prog 60 #[.int .i64 a0, .int .i64 a1, .int .i64 a2] w fun e w' => e = .returned (.bool r) ∧ Drawn0 w w' := by
 have H : (if a1 ≤ a0 then (some (decide (a0 ≤ a2))) else (some false)) = some r := h
 clear h
 by_cases c4 : a1 ≤ a0
 ·rw [if_pos c4] at H
  have c4b0 : decide (a1 ≤ a0) = true := decide_eq_true c4
  clear c4
  obtain rfl := Option.some.inj H
  go_enter Try.func60, Try.ntmps60
  go_wp2
  go_ret
  exact ⟨by first | rfl | (simp; done) | (simp [*]; done), by repeat (first | exact Drawn0.refl _ | apply Drawn0.step)⟩
 ·rw [if_neg c4] at H
  have c4b0 : decide (a1 ≤ a0) = false := decide_eq_false c4
  clear c4
  obtain rfl := Option.some.inj H
  go_enter Try.func60, Try.ntmps60
  go_wp2
  go_ret
  exact ⟨by first | rfl | (simp; done) | (simp [*]; done), by repeat (first | exact Drawn0.refl _ | apply Drawn0.step)⟩
/-! ### impl_isRising: function 122 -/
def impl_isRising.l0 : Nat → List Int → Int → Int → List Int → Int → Int → Option (Bool)
 | 0, _, _, _, _, _, _ => none
 | k + 1, x0, x1, x2, x9, x10, x11 => if x11 < x10 then (if 0 ≤ x11 then (if x11 < (x9.length : Int) then ((impl_within.f (rd x9 x11) x1 x2).bind fun t554 => (if t554 = true then (if x11 > 0 then (if 0 ≤ (wrap64 (x11 - 1)) then (if (wrap64 (x11 - 1)) < (x0.length : Int) then (if (rd x9 x11) ≤ (rd x0 (wrap64 (x11 - 1))) then (some false) else (impl_isRising.l0 k x0 x1 x2 x9 x10 (wrap64 (x11 + 1)))) else (none)) else (none)) else (impl_isRising.l0 k x0 x1 x2 x9 x10 (wrap64 (x11 + 1)))) else (some false))) else (none)) else (none)) else (some true)
def impl_isRising.f (k : Nat) (l0 : List Int) (a1 : Int) (a2 : Int) : Option (Bool) := impl_isRising.l0 k l0 a1 a2 l0 (l0.length : Int) 0
set_option maxHeartbeats 8000000 in
set_option maxRecDepth 100000 in
theorem impl_isRising.calls (k : Nat) (A0 : Option Addr) (c0 : Nat) (l0 : List Int) (a1 : Int) (a2 : Int) (r : Bool) (w : World) (hr0 : Kd.C (Kd.int .i64) w A0 l0.length l0) (hc0 : l0.length ≤ c0) (h : impl_isRising.f k l0 a1 a2 = some r) :
  Calls Try.prog 122 #[.slice A0 l0.length c0, .int .i64 a1, .int .i64 a2] w fun e w' => e = .returned (.bool r) ∧ Drawn0 w w' := by
 have HR0 := Aside0.mk hr0
 have HC0 := Aside0.mk hc0
 clear hr0 hc0
 have H : (impl_isRising.l0 k l0 a1 a2 l0 (l0.length : Int) 0) = some r := h
 clear h
 have H' := Aside0.mk H
 clear H
 go_enter Try.func122, Try.ntmps122
 go_wp2
 go_loopg [11] k (fun kq v11 w' => ∃ (x11_1 : Int), v11 = .int .i64 x11_1 ∧ Aside0 (impl_isRising.l0 kq l0 a1 a2 l0 (l0.length : Int) x11_1 = some r) ∧ Aside0 (kq ≤ k) ∧ Drawn0 w w')
 case atStart => exact ⟨(0), (by first | rfl | (simp; done) | (simp [*]; done)), H', ⟨Nat.le_refl _⟩, by repeat (first | exact Drawn0.refl _ | apply Drawn0.step)⟩
 case round =>
  clear H'
  (try clear c1); (try clear p2)
  obtain ⟨x11_1, rfl, HA, HK1, ⟨m1, rfl⟩⟩ := hrel
  cases gk with
  | zero => exact absurd HA.out (by simp [impl_isRising.l0])
  | succ k1 =>
   have H := HA.out
   clear HA
   simp only [impl_isRising.l0] at H
   by_cases c4 : x11_1 < (l0.length : Int)
   ·rw [if_pos c4] at H
    have c4b0 : decide (x11_1 < (l0.length : Int)) = true := decide_eq_true c4
    clear c4
    by_cases c5 : 0 ≤ x11_1
    ·rw [if_pos c5] at H
     have c5b0 : decide (0 ≤ x11_1) = true := decide_eq_true c5
     clear c5
     by_cases c6 : x11_1 < (l0.length : Int)
     ·rw [if_pos c6] at H
      have c6b0 : decide (x11_1 < (l0.length : Int)) = true := decide_eq_true c6
      clear c6
      replace H := Option.bind_eq_some_iff.mp H
      obtain ⟨t554, A70, H⟩ := H
      replace H : (if t554 = true then (if x11_1 > 0 then (if 0 ≤ (wrap64 (x11_1 - 1)) then (if (wrap64 (x11_1 - 1)) < (l0.length : Int) then (if (rd l0 x11_1) ≤ (rd l0 (wrap64 (x11_1 - 1))) then (some false) else (impl_isRising.l0 k1 l0 a1 a2 l0 (l0.length : Int) (wrap64 (x11_1 + 1)))) else (none)) else (none)) else (impl_isRising.l0 k1 l0 a1 a2 l0 (l0.length : Int) (wrap64 (x11_1 + 1)))) else (some false)) = some r := H
      have A7 := Aside0.mk A70
      clear A70
      by_cases c8 : t554 = true
      ·subst c8
       have H1 : (if x11_1 > 0 then (if 0 ≤ (wrap64 (x11_1 - 1)) then (if (wrap64 (x11_1 - 1)) < (l0.length : Int) then (if (rd l0 x11_1) ≤ (rd l0 (wrap64 (x11_1 - 1))) then (some false) else (impl_isRising.l0 k1 l0 a1 a2 l0 (l0.length : Int) (wrap64 (x11_1 + 1)))) else (none)) else (none)) else (impl_isRising.l0 k1 l0 a1 a2 l0 (l0.length : Int) (wrap64 (x11_1 + 1)))) = some r := by rw [if_pos rfl] at H; exact H
       clear H
       have H := H1
       clear H1
       by_cases c9 : x11_1 > 0
       ·rw [if_pos c9] at H
        have c9b0 : decide (0 < x11_1) = true := decide_eq_true c9
        clear c9
        obtain ⟨ji10, hji10⟩ : ∃ j_ : Int, (wrap64 (x11_1 - 1)) = j_ := ⟨_, rfl⟩
        replace H : (if 0 ≤ (ji10) then (if (ji10) < (l0.length : Int) then (if (rd l0 x11_1) ≤ (rd l0 (ji10)) then (some false) else (impl_isRising.l0 k1 l0 a1 a2 l0 (l0.length : Int) (wrap64 (x11_1 + 1)))) else (none)) else (none)) = some r := by first | (rw [hji10] at H; exact H) | (simp only [hji10] at H ⊢; exact H)
        (try rw [hji10] at A7)
        have hji10w : (IntKind.i64.wrap (x11_1 - 1)) = ji10 := (i64_w _).trans hji10
        by_cases c11 : 0 ≤ (ji10)
        ·rw [if_pos c11] at H
         have c11b0 : decide (0 ≤ (ji10)) = true := decide_eq_true c11
         clear c11
         by_cases c12 : (ji10) < (l0.length : Int)
         ·rw [if_pos c12] at H
          have c12b0 : decide ((ji10) < (l0.length : Int)) = true := decide_eq_true c12
          clear c12
          by_cases c13 : (rd l0 x11_1) ≤ (rd l0 (ji10))
          ·rw [if_pos c13] at H
           have c13b0 : decide ((rd l0 x11_1) ≤ (rd l0 (ji10))) = true := decide_eq_true c13
           clear c13
           obtain rfl := Option.some.inj H
           have p553 : 0 ≤ (x11_1 : Int) := oda
           have q553 : x11_1 < (l0.length : Int) := oda
           obtain ⟨ad553, e553, hx553_0⟩ := Kd.at_int HR0.out x11_1 p553 q553
           cases e553
           replace p553 := eq_true p553
           replace q553 := eq_true q553
           go_wp2_with (first | ((with_reducible refine gate_callee (f := 60) rfl ?_); refine goesA_ (some 19) rfl rfl Try.func60 (by kernel_rfl) rfl #[.int .i64 (rd l0 x11_1), .int .i64 a1, .int .i64 a2] rfl ?_; (with_reducible refine (impl_within.calls (rd l0 x11_1) a1 a2 true _ A7.out).mono ?_); rintro e w' ⟨rfl, ⟨nd, rfl⟩⟩; refine ⟨_, rfl, ?_⟩; have p555 : 0 ≤ ((ji10) : Int) := oda; have q555 : (ji10) < (l0.length : Int) := oda; obtain ⟨ad555, e555, hx555_0⟩ := Kd.at_int HR0.out (ji10) p555 q555; obtain rfl : ad553 = ad555 := (by injection e555); replace p555 := eq_true p555; replace q555 := eq_true q555))
           go_ret
           exact ⟨by first | rfl | (simp; done) | (simp only [← hji10] <;> (first | rfl | simp)) | (simp [*]; done), by repeat (first | exact Drawn0.refl _ | apply Drawn0.step)⟩
          ·rw [if_neg c13] at H
           have c13b0 : decide ((rd l0 x11_1) ≤ (rd l0 (ji10))) = false := decide_eq_false c13
           clear c13
           have H' := Aside0.mk H
           clear H
           have p553 : 0 ≤ (x11_1 : Int) := oda
           have q553 : x11_1 < (l0.length : Int) := oda
           obtain ⟨ad553, e553, hx553_0⟩ := Kd.at_int HR0.out x11_1 p553 q553
           cases e553
           replace p553 := eq_true p553
           replace q553 := eq_true q553
           go_wp2_with (first | ((with_reducible refine gate_callee (f := 60) rfl ?_); refine goesA_ (some 19) rfl rfl Try.func60 (by kernel_rfl) rfl #[.int .i64 (rd l0 x11_1), .int .i64 a1, .int .i64 a2] rfl ?_; (with_reducible refine (impl_within.calls (rd l0 x11_1) a1 a2 true _ A7.out).mono ?_); rintro e w' ⟨rfl, ⟨nd, rfl⟩⟩; refine ⟨_, rfl, ?_⟩; have p555 : 0 ≤ ((ji10) : Int) := oda; have q555 : (ji10) < (l0.length : Int) := oda; obtain ⟨ad555, e555, hx555_0⟩ := Kd.at_int HR0.out (ji10) p555 q555; obtain rfl : ad553 = ad555 := (by injection e555); replace p555 := eq_true p555; replace q555 := eq_true q555))
           go_roundg k1
           case measure => have := HK1.out; omega
           case rel => exact ⟨(wrap64 (x11_1 + 1)), (by first | rfl | (simp; done) | (simp [*]; done)), H', ⟨by have := HK1.out; omega⟩, by repeat (first | exact Drawn0.refl _ | apply Drawn0.step)⟩
         ·rw [if_neg c12] at H
          exact absurd H (by simp)
        ·rw [if_neg c11] at H
         exact absurd H (by simp)
       ·rw [if_neg c9] at H
        have c9b0 : decide (0 < x11_1) = false := decide_eq_false c9
        clear c9
        have H' := Aside0.mk H
        clear H
        have p553 : 0 ≤ (x11_1 : Int) := oda
        have q553 : x11_1 < (l0.length : Int) := oda
        obtain ⟨ad553, e553, hx553_0⟩ := Kd.at_int HR0.out x11_1 p553 q553
        cases e553
        replace p553 := eq_true p553
        replace q553 := eq_true q553
        go_wp2_with (first | ((with_reducible refine gate_callee (f := 60) rfl ?_); refine goesA_ (some 19) rfl rfl Try.func60 (by kernel_rfl) rfl #[.int .i64 (rd l0 x11_1), .int .i64 a1, .int .i64 a2] rfl ?_; (with_reducible refine (impl_within.calls (rd l0 x11_1) a1 a2 true _ A7.out).mono ?_); rintro e w' ⟨rfl, ⟨nd, rfl⟩⟩; refine ⟨_, rfl, ?_⟩))
        go_roundg k1
        case measure => have := HK1.out; omega
        case rel => exact ⟨(wrap64 (x11_1 + 1)), (by first | rfl | (simp; done) | (simp [*]; done)), H', ⟨by have := HK1.out; omega⟩, by repeat (first | exact Drawn0.refl _ | apply Drawn0.step)⟩
      ·replace c8 := Bool.eq_false_iff.mpr c8
       subst c8
       have H1 : (some false) = some r := by rw [if_neg (show ¬ (false = true) by decide)] at H; exact H
       clear H
       have H := H1
       clear H1
       obtain rfl := Option.some.inj H
       have p553 : 0 ≤ (x11_1 : Int) := oda
       have q553 : x11_1 < (l0.length : Int) := oda
       obtain ⟨ad553, e553, hx553_0⟩ := Kd.at_int HR0.out x11_1 p553 q553
       cases e553
       replace p553 := eq_true p553
       replace q553 := eq_true q553
       go_wp2_with (first | ((with_reducible refine gate_callee (f := 60) rfl ?_); refine goesA_ (some 19) rfl rfl Try.func60 (by kernel_rfl) rfl #[.int .i64 (rd l0 x11_1), .int .i64 a1, .int .i64 a2] rfl ?_; (with_reducible refine (impl_within.calls (rd l0 x11_1) a1 a2 false _ A7.out).mono ?_); rintro e w' ⟨rfl, ⟨nd, rfl⟩⟩; refine ⟨_, rfl, ?_⟩))
       go_ret
       exact ⟨by first | rfl | (simp; done) | (simp [*]; done), by repeat (first | exact Drawn0.refl _ | apply Drawn0.step)⟩
     ·rw [if_neg c6] at H
      exact absurd H (by simp)
    ·rw [if_neg c5] at H
     exact absurd H (by simp)
   ·rw [if_neg c4] at H
    have c4b0 : decide (x11_1 < (l0.length : Int)) = false := decide_eq_false c4
    clear c4
    obtain rfl := Option.some.inj H
    go_wp2
    go_ret
    exact ⟨by first | rfl | (simp; done) | (simp [*]; done), by repeat (first | exact Drawn0.refl _ | apply Drawn0.step)⟩
/-- 'within', as a plain function, and what the machine does. -/
def inW (n a b : Int) : Bool := decide (a ≤ n) && decide (n ≤ b)
theorem within_inW (n a b : Int) : impl_within.f n a b = some (inW n a b) := by
  unfold impl_within.f inW
  by_cases h : a ≤ n <;> simp [h]
/-- isRising as a plain function, and what the machine does. -/
def risingFrom (lo hi : Int) : Option Int → List Int → Bool
  | _, [] => true
  | none, x :: r => inW x lo hi && risingFrom lo hi (some x) r
  | some p, x :: r => inW x lo hi && !decide (x ≤ p) && risingFrom lo hi (some x) r
def rising (l : List Int) (lo hi : Int) : Bool := risingFrom lo hi none l
def lastOf (x : List Int) (i : Nat) : Option Int := if i = 0 then none else some (x.getD (i - 1) 0)
theorem rising_l0 (x : List Int) (lo ub : Int) (hx : x.length ≤ 9223372036854775807) : ∀ (d i : Nat), i + d = x.length → Ev (fun k => impl_isRising.l0 k x lo ub x (x.length : Int) i) (risingFrom lo ub (lastOf x i) (x.drop i)) := by
  intro d
  induction d with
  | zero =>
    intro i hi
    refine Ev.step (f := fun _ => some _) (fun k => ?_) (Ev.now _)
    simp only [impl_isRising.l0]
    rw [if_neg (by omega), List.drop_of_length_le (l := x) (by omega)]
    cases lastOf x i <;> rfl
  | succ d ih =>
    intro i hi
    have hlt : i < x.length := by omega
    have e1 : x.drop i = x[i] :: x.drop (i + 1) := List.drop_eq_getElem_cons hlt
    have el : lastOf x (i + 1) = some x[i] := by
      unfold lastOf
      rw [if_neg (by omega), Nat.add_sub_cancel, List.getD_eq_getElem?_getD, List.getElem?_eq_getElem hlt]; rfl
    have ih1 := ih (i + 1) (by omega)
    rw [el] at ih1
    rw [e1]
    by_cases hw : inW x[i] lo ub = true
    · by_cases h0 : i = 0
      · subst h0
        have er : risingFrom lo ub (lastOf x 0) (x[0] :: x.drop 1) = risingFrom lo ub (some x[0]) (x.drop 1) := by
          show (inW x[0] lo ub && _) = _
          rw [hw]; rfl
        rw [er]
        refine Ev.step (fun k => ?_) ih1
        simp only [impl_isRising.l0]
        rw [if_pos (by omega), if_pos (by omega), if_pos (by omega), rd_get x 0 hlt, within_inW, hw, Option.bind_some, if_pos rfl, if_neg (by omega), wrap_next hlt (by omega)]
      · have hp : i - 1 < x.length := by omega
        have el0 : lastOf x i = some x[i - 1] := by
          unfold lastOf
          rw [if_neg h0, List.getD_eq_getElem?_getD, List.getElem?_eq_getElem hp]; rfl
        have ew : wrap64 ((i : Int) - 1) = ((i - 1 : Nat) : Int) := by unfold wrap64; omega
        rw [el0]
        by_cases hc : x[i] ≤ x[i - 1]
        · have er : risingFrom lo ub (some x[i - 1]) (x[i] :: x.drop (i + 1)) = false := by
            show (inW x[i] lo ub && _ && _) = _
            simp [hc]
          rw [er]
          refine Ev.step (f := fun _ => some _) (fun k => ?_) (Ev.now _)
          simp only [impl_isRising.l0]
          rw [if_pos (by omega), if_pos (by omega), if_pos (by omega), rd_get x i hlt, within_inW, hw, Option.bind_some, if_pos rfl, if_pos (by omega), ew, if_pos (by omega), if_pos (by omega), rd_get x (i - 1) hp, if_pos hc]
        · have er : risingFrom lo ub (some x[i - 1]) (x[i] :: x.drop (i + 1)) = risingFrom lo ub (some x[i]) (x.drop (i + 1)) := by
            show (inW x[i] lo ub && _ && _) = _
            simp [hc, hw]
          rw [er]
          refine Ev.step (fun k => ?_) ih1
          simp only [impl_isRising.l0]
          rw [if_pos (by omega), if_pos (by omega), if_pos (by omega), rd_get x i hlt, within_inW, hw, Option.bind_some, if_pos rfl, if_pos (by omega), ew, if_pos (by omega), if_pos (by omega), rd_get x (i - 1) hp, if_neg hc, wrap_next hlt (by omega)]
    · have er : risingFrom lo ub (lastOf x i) (x[i] :: x.drop (i + 1)) = false := by
        cases lastOf x i <;> simp [risingFrom, hw]
      rw [er]
      refine Ev.step (f := fun _ => some _) (fun k => ?_) (Ev.now _)
      simp only [impl_isRising.l0]
      rw [if_pos (by omega), if_pos (by omega), if_pos (by omega), rd_get x i hlt, within_inW, Option.bind_some, if_neg (by simpa using hw)]
theorem rising_ev (x : List Int) (lo hi : Int) (hx : x.length ≤ 9223372036854775807) : Ev (fun k => impl_isRising.f k x lo hi) (rising x lo hi) := by
  have := rising_l0 x lo hi hx x.length 0 (by omega)
  simpa [impl_isRising.f, rising, lastOf] using this
theorem rising_run (A0 : Option Addr) (c0 : Nat) (l0 : List Int) (lo hi : Int) (w : World) (hr0 : Kd.C (Kd.int .i64) w A0 l0.length l0) (hc0 : l0.length ≤ c0) :
    Calls Try.prog 122 #[.slice A0 l0.length c0, .int .i64 lo, .int .i64 hi] w fun e w' => e = .returned (.bool (rising l0 lo hi)) ∧ Drawn0 w w' := by
  obtain ⟨k, hk⟩ := (rising_ev l0 lo hi hr0.2.1).rounds
  exact impl_isRising.calls k A0 c0 l0 lo hi _ w hr0 hc0 hk
/-! ### impl_Sea_areCells: function 107 -/
-- EXTERNAL: by hand
-- impl_Sea_cells impl_isRising
-- sorted_vals rising_run
def impl_Sea_areCells.f (a0_0 a0_1 : Int) (l0_2 l1 : List Int) : Option Bool := if l1.length ≤ 1048576 then some (rising (l1.mergeSort fun x y => decide (x ≤ y)) 0 (wrap64 (wrap64 (a0_0 * a0_1) - 1))) else none
theorem values_run (A : Option Addr) (n c : Nat) (w : World) : Calls Try.prog 124 #[.slice A n c] w fun e w' => ∃ g, e = .returned (.func (.func 140) #[] #[.pointer (some ⟨g, 0, none⟩)]) ∧ w'.heap[g]? = some (.cells #[.slice A n c] 22 (0, 0)) ∧ Below w.heap.size w w' := by
  go_enter Try.func124, Try.ntmps124
  go_wp2_with (first | ((with_reducible refine gate_dst (N := 1) rfl ?_); refine box_event ?hg (N := 1) ?hd (cs := #[.slice A n c]) (t := 22) ?hr ?_; (case hd => rfl); (case hg => rfl); (case hr => first | (go_simp; done) | (go_simp; rfl)); intro g2 hg2 w1 hbox hb; have HX := Aside0.mk hbox; have HB := Aside0.mk hb; clear hbox hb hg2))
  go_ret
  exact ⟨g2, rfl, HX.out, HB.out⟩
def impl_Sea_areCells.T1 : Bool × List (List Nat × List Nat) := (true, [([], []), ([0], [0]), ([1, 1], [1]), ([], []), ([3, 2], [3]), ([4], [4]), ([2, 5, 4], [2, 5]), ([6, 6, 0, 1, 2, 3, 4, 5, 6], [6])])
def impl_Sea_areCells.B1 : List Nat := [0, 1, 3, 0, 15, 31, 63, 127]
theorem impl_Sea_areCells.tab1 : rtab .any (opsOf Try.f107 1) = impl_Sea_areCells.T1 := by kernel_rfl
theorem impl_Sea_areCells.bits1 : waitsOk impl_Sea_areCells.T1.2 impl_Sea_areCells.B1 = true := by kernel_rfl
set_option maxHeartbeats 4000000 in
set_option maxRecDepth 100000 in
theorem impl_Sea_areCells.calls (a0_0 a0_1 : Int) (A0_2 : Option Addr) (c0_2 : Nat) (l0_2 : List Int) (A1 : Option Addr) (c1 : Nat) (l1 : List Int) (r : Bool) (w : World) (hr0_2 : Kd.C (Kd.int .i64) w A0_2 l0_2.length l0_2) (hc0_2 : l0_2.length ≤ c0_2) (hr1 : Kd.C (Kd.int .i64) w A1 l1.length l1) (hc1 : l1.length ≤ c1) (h : impl_Sea_areCells.f a0_0 a0_1 l0_2 l1 = some r) :
    Calls Try.prog 107 #[.agg #[.int .i64 a0_0, .int .i64 a0_1, .slice A0_2 l0_2.length c0_2], .slice A1 l1.length c1] w fun e w' => e = .returned (.bool r) ∧ Below w.heap.size w w' := by
  unfold impl_Sea_areCells.f at h
  split at h
  case isFalse => cases h
  rename_i hl1
  obtain rfl := Option.some.inj h
  clear h
  have HB := Aside0.mk (Below.refl w.heap.size w)
  have HR := Aside0.mk hr0_2
  have HC := Aside0.mk hc0_2
  have HL := Aside0.mk hr1
  have HLn := Aside0.mk hl1
  have hu28 := Try.underlying28
  clear hr0_2 hc0_2 hl1 hr1 hc1
  go_enter Try.func107, Try.ntmps107
  go_wp2_with (first | ((with_reducible refine gate_dst (N := 2) rfl ?_); refine box_event ?hg (N := 2) ?hd (cs := #[.int .i64 a0_0, .int .i64 a0_1, .slice A0_2 l0_2.length c0_2]) (t := 28) ?hr ?_; (case hd => rfl); (case hg => rfl); (case hr => first | (go_simp; done) | (go_simp; rfl)); intro g2 hg2 w1 hbox hb; have HX := Aside0.mk hbox; have HB1 := Aside0.mk (below_step HB.out hb); have HR1 := Aside0.mk (Kd.C_below HR.out hb); have HL1 := Aside0.mk (Kd.C_below HL.out hb); clear hbox hb hg2))
  have n1_ := Aside0.mk (blk_drew HX.out)
  have n2_ := Aside0.mk (below_drew1 HB1.out)
  have n3_ := Aside0.mk (Kd.C_below HR1.out (below_drew1 (Below.refl _ _)))
  have n4_ := Aside0.mk (Kd.C_below HL1.out (below_drew1 (Below.refl _ _)))
  clear HX HB1 HR1 HL1
  refine start_ (n := 8) (S := fun w' => w'.cell? ⟨g2, 0, none⟩ = some (.int .i64 a0_0) ∧ w'.cell? ⟨g2, 1, none⟩ = some (.int .i64 a0_1) ∧ w'.cell? ⟨g2, 2, none⟩ = some (.slice A0_2 l0_2.length c0_2)) (ds := []) #[false, false, false, false, false, false, false, false] (by kernel_rfl) rfl rfl ⟨(blk_cell n1_.out 0).trans rfl, (blk_cell n1_.out 1).trans rfl, (blk_cell n1_.out 2).trans rfl⟩ (fun hHeld => ?_)
  refine with_tabW impl_Sea_areCells.tab1 impl_Sea_areCells.bits1 (fun HT_ HW_ => ?_)
  generalize hq_ : w1.drew = wd_ at n1_ n2_ n3_ n4_ hHeld ⊢
  clear hq_
  refine pure_ (i := 0) (N := some 5) (v := ?_) (a' := ?_) (flg_ 8 1) rfl rfl (any_of HT_.out (by kernel_rfl)) (fun _ _ _ h => h) (Or.inl ⟨by rfl, ?_⟩) ?_ ?_
  rotate_left
  · intro w'
    go_simp
    with_reducible rfl
  rotate_left
  · simp only [Act.put, sz_, s0_, s1_, i64_w, i32_w]
    rfl
  refine take_ (i := 3) (N := some 8) (v := ?_) (a' := ?_) (flg_ 8 9) rfl rfl (take_ofW HT_.out HW_.out (by kernel_rfl)) (fun _ _ _ h => h) (Or.inl ⟨by rfl, ?_⟩) hHeld ?_ ?_
  rotate_left
  · rintro w' ⟨s0_, s1_, s2_⟩
    go_simp
    with_reducible rfl
  rotate_left
  · simp only [Act.put, sz_, s0_, s1_, i64_w, i32_w]
    rfl
  refine one_ (i := 1) (N := some 6) (flg_ 8 11) rfl rfl (one_of HT_.out (by kernel_rfl)) (by decide) (fun K hK => ?_)
  refine goes_ Try.func124 (by kernel_rfl) rfl #[.slice A1 l1.length c1] (by rfl) rfl rfl (by (try simp only [List.map_toArray, List.map_cons, List.map_nil]); first | done | rfl) ?_
  refine (values_run A1 l1.length c1 _).mono ?_
  rintro e wa_ ⟨gv, rfl, hv, hb⟩
  refine ⟨_, rfl, ?_⟩
  have HV := Aside0.mk hv
  clear hv
  have m1_ := Aside0.mk (blk_below n1_.out hb)
  have m2_ := Aside0.mk (below_step n2_.out hb)
  have m3_ := Aside0.mk (Kd.C_below n3_.out hb)
  have m4_ := Aside0.mk (Kd.C_below n4_.out hb)
  clear hb n1_ n2_ n3_ n4_
  have n1_ := m1_
  have n2_ := m2_
  have n3_ := m3_
  have n4_ := m4_
  clear m1_ m2_ m3_ m4_
  refine hK.out _ _ ⟨(blk_cell n1_.out 0).trans rfl, (blk_cell n1_.out 1).trans rfl, (blk_cell n1_.out 2).trans rfl⟩ (fun hHeld => ?_)
  clear hK K
  refine norm_ (a' := ?_) ?_ ?_
  rotate_left
  · show Act.put _ (some 6) _ = _
    simp only [Act.put, sz_, s0_, s1_, i64_w, i32_w]
    rfl
  refine one_ (i := 2) (N := some 7) (flg_ 8 15) rfl rfl (one_of HT_.out (by kernel_rfl)) (by decide) (fun K hK => ?_)
  refine goes_ Try.func123 (by kernel_rfl) rfl #[.func (.func 140) #[] #[.pointer (some ⟨gv, 0, none⟩)]] (by rfl) rfl rfl (by (try simp only [List.map_toArray, List.map_cons, List.map_nil]); first | done | rfl) ?_
  refine (sorted_vals gv c1 A1 l1 HLn.out _ HV.out n4_.out).mono ?_
  rintro e wb_ ⟨v7, rfl, ho, hb⟩
  obtain ⟨A7, c7, e7⟩ := Kd.R_slice ho
  subst e7
  refine ⟨_, rfl, ?_⟩
  clear HV
  have HS7 := Aside0.mk (Kd.R_reads' ho)
  clear ho
  have m1_ := Aside0.mk (blk_below n1_.out hb)
  have m2_ := Aside0.mk (below_step n2_.out hb)
  have m3_ := Aside0.mk (Kd.C_below n3_.out hb)
  have m4_ := Aside0.mk (Kd.C_below n4_.out hb)
  clear hb n1_ n2_ n3_ n4_
  have n1_ := m1_
  have n2_ := m2_
  have n3_ := m3_
  have n4_ := m4_
  clear m1_ m2_ m3_ m4_
  refine hK.out _ _ ⟨(blk_cell n1_.out 0).trans rfl, (blk_cell n1_.out 1).trans rfl, (blk_cell n1_.out 2).trans rfl⟩ (fun hHeld => ?_)
  clear hK K
  refine norm_ (a' := ?_) ?_ ?_
  rotate_left
  · show Act.put _ (some 7) _ = _
    simp only [Act.put, sz_, s0_, s1_, i64_w, i32_w]
    rfl
  refine one_ (i := 4) (N := some 9) (flg_ 8 31) rfl rfl (one_of HT_.out (by kernel_rfl)) (by decide) (fun K hK => ?_)
  refine goes_ Try.func73 (by kernel_rfl) rfl #[.agg #[.int .i64 a0_0, .int .i64 a0_1, .slice A0_2 l0_2.length c0_2]] (by rfl) rfl rfl (by (try simp only [List.map_toArray, List.map_cons, List.map_nil]); first | done | rfl) ?_
  refine (impl_Sea_cells.calls a0_0 a0_1 A0_2 c0_2 l0_2 _ _ n3_.out HC.out rfl).mono ?_
  rintro e wc_ ⟨rfl, hb⟩
  refine ⟨_, rfl, ?_⟩
  have HS8 := Aside0.mk (Kd.C_below HS7.out.2.2 hb)
  have m1_ := Aside0.mk (blk_below n1_.out hb)
  have m2_ := Aside0.mk (below_step n2_.out hb)
  have m3_ := Aside0.mk (Kd.C_below n3_.out hb)
  have m4_ := Aside0.mk (Kd.C_below n4_.out hb)
  clear hb n1_ n2_ n3_ n4_
  have n1_ := m1_
  have n2_ := m2_
  have n3_ := m3_
  have n4_ := m4_
  clear m1_ m2_ m3_ m4_
  refine hK.out _ _ ⟨(blk_cell n1_.out 0).trans rfl, (blk_cell n1_.out 1).trans rfl, (blk_cell n1_.out 2).trans rfl⟩ (fun hHeld => ?_)
  clear hK K
  refine norm_ (a' := ?_) ?_ ?_
  rotate_left
  · show Act.put _ (some 9) _ = _
    simp only [Act.put, sz_, s0_, s1_, i64_w, i32_w]
    rfl
  refine pure_ (i := 5) (N := some 10) (v := ?_) (a' := ?_) (flg_ 8 63) rfl rfl (any_of HT_.out (by kernel_rfl)) (fun _ _ _ h => h) (Or.inl ⟨by rfl, ?_⟩) ?_ ?_
  rotate_left
  · intro w'
    go_simp
    with_reducible rfl
  rotate_left
  · simp only [Act.put, sz_, s0_, s1_, i64_w, i32_w]
    rfl
  refine one_ (i := 6) (N := some 11) (flg_ 8 127) rfl rfl (one_of HT_.out (by kernel_rfl)) (by decide) (fun K hK => ?_)
  refine goes_ Try.func122 (by kernel_rfl) rfl #[.slice A7 (l1.mergeSort fun x y => decide (x ≤ y)).length c7, .int .i64 0, .int .i64 (wrap64 (wrap64 (a0_0 * a0_1) - 1))] (by rfl) rfl rfl (by (try simp only [List.map_toArray, List.map_cons, List.map_nil]); first | done | rfl) ?_
  refine (rising_run A7 c7 (l1.mergeSort fun x y => decide (x ≤ y)) 0 (wrap64 (wrap64 (a0_0 * a0_1) - 1)) _ HS8.out HS7.out.2.1).mono ?_
  rintro e wd_ ⟨rfl, hd⟩
  have hb := hd.below
  clear hd
  refine ⟨_, rfl, ?_⟩
  have m1_ := Aside0.mk (blk_below n1_.out hb)
  have m2_ := Aside0.mk (below_step n2_.out hb)
  have m3_ := Aside0.mk (Kd.C_below n3_.out hb)
  have m4_ := Aside0.mk (Kd.C_below n4_.out hb)
  clear hb n1_ n2_ n3_ n4_
  have n1_ := m1_
  have n2_ := m2_
  have n3_ := m3_
  have n4_ := m4_
  clear m1_ m2_ m3_ m4_
  refine hK.out _ _ ⟨(blk_cell n1_.out 0).trans rfl, (blk_cell n1_.out 1).trans rfl, (blk_cell n1_.out 2).trans rfl⟩ (fun hHeld => ?_)
  clear hK K
  refine norm_ (a' := ?_) ?_ ?_
  rotate_left
  · show Act.put _ (some 11) _ = _
    simp only [Act.put, sz_, s0_, s1_, i64_w, i32_w]
    rfl
  refine pure_ (i := 7) (N := some 4) (v := ?_) (a' := ?_) (flg_ 8 255) rfl rfl (any_of HT_.out (by kernel_rfl)) (fun _ _ _ h => h) (Or.inl ⟨by rfl, ?_⟩) ?_ ?_
  rotate_left
  · intro w'
    go_simp
    with_reducible rfl
  rotate_left
  · simp only [Act.put, sz_, s0_, s1_, i64_w, i32_w]
    rfl
  refine done_ (done_of HT_.out (by kernel_rfl)) ?_
  go_wp2_with fail
  go_ret
  exact ⟨rfl, n2_.out⟩
/-! ### impl_first: function 58 -/
def impl_first.l0 : Nat → List (S70) → Int → Int → Option (Int)
 | 0, _, _, _ => none
 | k + 1, x5, x6, x7 => if x7 < x6 then (if 0 ≤ x7 then (if x7 < (x5.length : Int) then (if ((rd_T70 x5 x7).f0 = true) then (impl_first.l0 k x5 x6 (wrap64 (x7 + 1))) else (some ((rd_T70 x5 x7).f1))) else (none)) else (none)) else (some 0)
def impl_first.f (k : Nat) (l0 : List (S70)) : Option (Int) := impl_first.l0 k l0 (l0.length : Int) 0
set_option maxHeartbeats 8000000 in
set_option maxRecDepth 100000 in
theorem impl_first.calls (k : Nat) (A0 : Option Addr) (c0 : Nat) (l0 : List (S70)) (r : Int) (w : World) (hr0 : Kd.C k70 w A0 l0.length l0) (hc0 : l0.length ≤ c0) (h : impl_first.f k l0 = some r) :
  Calls Try.prog 58 #[.slice A0 l0.length c0] w fun e w' => e = .returned (.int .i64 r) ∧ Below w.heap.size w w' := by
 have hu70 := Try.underlying70
 have HR0 := Aside0.mk hr0
 have HC0 := Aside0.mk hc0
 clear hr0 hc0
 have HB := Aside0.mk (Below.refl w.heap.size w)
 have H : (impl_first.l0 k l0 (l0.length : Int) 0) = some r := h
 clear h
 have H' := Aside0.mk H
 clear H
 go_enter Try.func58, Try.ntmps58
 go_wp2
 go_loopg [7] k (fun kq v7 w' => ∃ (x7_1 : Int), v7 = .int .i64 x7_1 ∧ Aside0 (impl_first.l0 kq l0 (l0.length : Int) x7_1 = some r) ∧ Aside0 (kq ≤ k) ∧ Aside0 (Below w.heap.size w w'))
 case atStart => exact ⟨(0), (by first | rfl | (simp; done) | (simp [*]; done)), H', ⟨Nat.le_refl _⟩, ⟨by repeat (first | (with_reducible first | exact HB.out | apply below_alloc | apply pw_below_drewN | apply below_drew1) | exact HB.out)⟩⟩
 case round =>
  clear H'
  obtain ⟨x7_1, rfl, HA, HK1, HB⟩ := hrel
  cases gk with
  | zero => exact absurd HA.out (by simp [impl_first.l0])
  | succ k1 =>
   have H := HA.out
   clear HA
   simp only [impl_first.l0] at H
   by_cases c2 : x7_1 < (l0.length : Int)
   ·rw [if_pos c2] at H
    have c2b0 : decide (x7_1 < (l0.length : Int)) = true := decide_eq_true c2
    clear c2
    by_cases c3 : 0 ≤ x7_1
    ·rw [if_pos c3] at H
     have c3b0 : decide (0 ≤ x7_1) = true := decide_eq_true c3
     clear c3
     by_cases c4 : x7_1 < (l0.length : Int)
     ·rw [if_pos c4] at H
      have c4b0 : decide (x7_1 < (l0.length : Int)) = true := decide_eq_true c4
      clear c4
      obtain ⟨bq5, hbq5⟩ : ∃ b_ : Bool, b_ = ((rd_T70 l0 x7_1).f0) := ⟨_, rfl⟩
      replace H : (if (bq5 = true) then (impl_first.l0 k1 l0 (l0.length : Int) (wrap64 (x7_1 + 1))) else (some ((rd_T70 l0 x7_1).f1))) = some r := by rw [← hbq5] at H; exact H
      have Nbq5 := Aside0.mk hbq5
      clear hbq5
      by_cases c6 : (bq5 = true)
      ·subst c6
       have H1 : (impl_first.l0 k1 l0 (l0.length : Int) (wrap64 (x7_1 + 1))) = some r := by rw [if_pos rfl] at H; exact H
       clear H
       have H := H1
       clear H1
       have H' := Aside0.mk H
       clear H
       have p183 : 0 ≤ (x7_1 : Int) := oda
       have q183 : x7_1 < (l0.length : Int) := oda
       obtain ⟨ad183, e183, hx183_0, hx183_1⟩ := at_T70 HR0.out x7_1 p183 q183
       (try rw [← Nbq5.out] at hx183_0)
       cases e183
       replace hx183_0 := (HB.out.cell (World.block_lt_of_cell? w _ hx183_0)).trans hx183_0
       replace hx183_1 := (HB.out.cell (World.block_lt_of_cell? w _ hx183_1)).trans hx183_1
       replace p183 := eq_true p183
       replace q183 := eq_true q183
       go_wp2_with (first | ((with_reducible refine gate_dst (N := 4) rfl ?_); refine box_event ?hg (N := 4) ?hd (cs := #[.bool false, .int .i64 0]) (t := 70) ?hr ?_; (case hd => rfl); (case hg => rfl); (case hr => first | (go_simp; done) | (go_simp; rfl)); intro gb184 hg w7 hbox hb; have n0_ := Aside0.mk (below_step hb_ hb); have n1_ := Aside0.mk (hbox); have n2_ := Aside0.mk ((by rw [hg]; exact (below_size hb_) : w.heap.size ≤ gb184)); have n3_ := Aside0.mk ((by rw [hg]; exact (below_size hb_) : w.heap.size ≤ gb184)); clear HB; have HB := n0_; have BK184 := n1_; have GW184 := n2_; have GE184 := n3_; clear n0_ n1_ n2_ n3_; clear hb hbox hg; have hcz8_0 : w7.cell? ⟨gb184, 0, none⟩ = some (.bool false) := (blk_cell BK184.out 0).trans rfl; have hcz8_1 : w7.cell? ⟨gb184, 1, none⟩ = some (.int .i64 0) := (blk_cell BK184.out 1).trans rfl; have hfz8_0 := blk_frozen BK184.out 0; have hfz8_1 := blk_frozen BK184.out 1))
       go_roundg k1
       case measure => have := HK1.out; omega
       case rel => exact ⟨(wrap64 (x7_1 + 1)), (by first | rfl | (simp; done) | (simp [*]; done)), H', ⟨by have := HK1.out; omega⟩, ⟨by repeat (first | (with_reducible first | exact HB.out | apply below_alloc | apply pw_below_drewN | apply below_drew1 | refine below_set ?_ GE184.out) | exact HB.out)⟩⟩
      ·replace c6 := Bool.eq_false_iff.mpr c6
       subst c6
       have H1 : (some ((rd_T70 l0 x7_1).f1)) = some r := by rw [if_neg (show ¬ (false = true) by decide)] at H; exact H
       clear H
       have H := H1
       clear H1
       obtain rfl := Option.some.inj H
       have p183 : 0 ≤ (x7_1 : Int) := oda
       have q183 : x7_1 < (l0.length : Int) := oda
       obtain ⟨ad183, e183, hx183_0, hx183_1⟩ := at_T70 HR0.out x7_1 p183 q183
       (try rw [← Nbq5.out] at hx183_0)
       cases e183
       replace hx183_0 := (HB.out.cell (World.block_lt_of_cell? w _ hx183_0)).trans hx183_0
       replace hx183_1 := (HB.out.cell (World.block_lt_of_cell? w _ hx183_1)).trans hx183_1
       replace p183 := eq_true p183
       replace q183 := eq_true q183
       go_wp2_with (first | ((with_reducible refine gate_dst (N := 4) rfl ?_); refine box_event ?hg (N := 4) ?hd (cs := #[.bool false, .int .i64 0]) (t := 70) ?hr ?_; (case hd => rfl); (case hg => rfl); (case hr => first | (go_simp; done) | (go_simp; rfl)); intro gb184 hg w9 hbox hb; have n0_ := Aside0.mk (below_step hb_ hb); have n1_ := Aside0.mk (hbox); have n2_ := Aside0.mk ((by rw [hg]; exact (below_size hb_) : w.heap.size ≤ gb184)); have n3_ := Aside0.mk ((by rw [hg]; exact (below_size hb_) : w.heap.size ≤ gb184)); clear HB; have HB := n0_; have BK184 := n1_; have GW184 := n2_; have GE184 := n3_; clear n0_ n1_ n2_ n3_; clear hb hbox hg; have hcz10_0 : w9.cell? ⟨gb184, 0, none⟩ = some (.bool false) := (blk_cell BK184.out 0).trans rfl; have hcz10_1 : w9.cell? ⟨gb184, 1, none⟩ = some (.int .i64 0) := (blk_cell BK184.out 1).trans rfl; have hfz10_0 := blk_frozen BK184.out 0; have hfz10_1 := blk_frozen BK184.out 1))
       go_ret
       exact ⟨by first | rfl | (simp [errW_none, errW_some] <;> rfl) | (simp [*, errW_none, errW_some] <;> rfl), by repeat (first | (with_reducible first | exact HB.out | apply below_alloc | apply pw_below_drewN | apply below_drew1 | refine below_set ?_ GE184.out) | exact HB.out)⟩
     ·rw [if_neg c4] at H
      exact absurd H (by simp)
    ·rw [if_neg c3] at H
     exact absurd H (by simp)
   ·rw [if_neg c2] at H
    have c2b0 : decide (x7_1 < (l0.length : Int)) = false := decide_eq_false c2
    clear c2
    obtain rfl := Option.some.inj H
    go_wp2
    go_ret
    exact ⟨by first | rfl | (simp [errW_none, errW_some] <;> rfl) | (simp [*, errW_none, errW_some] <;> rfl), by repeat (first | (with_reducible first | exact HB.out | apply below_alloc | apply pw_below_drewN | apply below_drew1) | exact HB.out)⟩
/-! ### impl_size_int64: function 99 -/
def impl_size_int64.f (l0 : List Int) : Option (Int) := some (l0.length : Int)
set_option maxHeartbeats 8000000 in
set_option maxRecDepth 100000 in
theorem impl_size_int64.calls (A0 : Option Addr) (c0 : Nat) (l0 : List Int) (r : Int) (w : World) (hr0 : Kd.C (Kd.int .i64) w A0 l0.length l0) (hc0 : l0.length ≤ c0) (h : impl_size_int64.f l0 = some r) :
  Calls Try.prog 99 #[.slice A0 l0.length c0] w fun e w' => e = .returned (.int .i64 r) ∧ Drawn0 w w' := by
 have HR0 := Aside0.mk hr0
 have HC0 := Aside0.mk hc0
 clear hr0 hc0
 have H : (some (l0.length : Int)) = some r := h
 clear h
 obtain rfl := Option.some.inj H
 go_enter Try.func99, Try.ntmps99
 go_wp2
 go_ret
 exact ⟨by first | rfl | (simp; done) | (simp [*]; done), by repeat (first | exact Drawn0.refl _ | apply Drawn0.step)⟩
/-! ### impl_IsSea: function 59 -/
mutual
def impl_IsSea.j0 : Nat → Bool → Int → Int → List Int → Option (Bool)
 | 0, _, _, _, _ => none
 | k + 1, x21, x186000, x186001, x186002 => if x21 = true then (some false) else (impl_IsSea.l0 k x186002 (x186002.length : Int) 0 x186000 x186001 x186002)
def impl_IsSea.l0 : Nat → List Int → Int → Int → Int → Int → List Int → Option (Bool)
 | 0, _, _, _, _, _, _ => none
 | k + 1, x23, x24, x25, x186000, x186001, x186002 => if x25 < x24 then (if 0 ≤ x25 then (if x25 < (x23.length : Int) then ((impl_within.f (rd x23 x25) 1 5).bind fun t191 => (if t191 = true then (if x25 > 0 then (if 0 ≤ (wrap64 (x25 - 1)) then (if (wrap64 (x25 - 1)) < (x186002.length : Int) then (if (rd x23 x25) > (rd x186002 (wrap64 (x25 - 1))) then (some false) else (impl_IsSea.l0 k x23 x24 (wrap64 (x25 + 1)) x186000 x186001 x186002)) else (none)) else (none)) else (impl_IsSea.l0 k x23 x24 (wrap64 (x25 + 1)) x186000 x186001 x186002)) else (some false))) else (none)) else (none)) else (some true)
end
def impl_IsSea.f (k : Nat) (a0_0 : Int) (a0_1 : Int) (l0_2 : List Int) : Option (Bool) := (impl_within.f a0_0 1 5).bind fun t186 => (if t186 = true then ((impl_within.f a0_1 1 5).bind fun t187 => (if t187 = true then ((impl_size_int64.f l0_2).bind fun t188 => ((impl_within.f t188 1 3).bind fun t189 => (impl_IsSea.j0 k (!t189) a0_0 a0_1 l0_2))) else (impl_IsSea.j0 k true a0_0 a0_1 l0_2))) else (impl_IsSea.j0 k true a0_0 a0_1 l0_2))
set_option maxHeartbeats 8000000 in
set_option maxRecDepth 100000 in
theorem impl_IsSea.calls (k : Nat) (a0_0 : Int) (a0_1 : Int) (A0_2 : Option Addr) (c0_2 : Nat) (l0_2 : List Int) (r : Bool) (w : World) (hr0_2 : Kd.C (Kd.int .i64) w A0_2 l0_2.length l0_2) (hc0_2 : l0_2.length ≤ c0_2) (h : impl_IsSea.f k a0_0 a0_1 l0_2 = some r) :
  Calls Try.prog 59 #[.agg #[.int .i64 a0_0, .int .i64 a0_1, .slice A0_2 l0_2.length c0_2]] w fun e w' => e = .returned (.bool r) ∧ Below w.heap.size w w' := by
 have hu28 := Try.underlying28
 have HR0_2 := Aside0.mk hr0_2
 have HC0_2 := Aside0.mk hc0_2
 clear hr0_2 hc0_2
 have HB := Aside0.mk (Below.refl w.heap.size w)
 have H : ((impl_within.f a0_0 1 5).bind fun t186 => (if t186 = true then ((impl_within.f a0_1 1 5).bind fun t187 => (if t187 = true then ((impl_size_int64.f l0_2).bind fun t188 => ((impl_within.f t188 1 3).bind fun t189 => (impl_IsSea.j0 k (!t189) a0_0 a0_1 l0_2))) else (impl_IsSea.j0 k true a0_0 a0_1 l0_2))) else (impl_IsSea.j0 k true a0_0 a0_1 l0_2))) = some r := h
 clear h
 have HC2 := Aside0.mk H
 clear H
 go_enter Try.func59, Try.ntmps59
 go_upto_region 1 with (first | ((with_reducible refine gate_dst (N := 1) rfl ?_); refine box_event ?hg (N := 1) ?hd (cs := #[.int .i64 a0_0, .int .i64 a0_1, .slice A0_2 l0_2.length c0_2]) (t := 28) ?hr ?_; (case hd => rfl); (case hg => rfl); (case hr => first | (go_simp; done) | (go_simp; rfl)); intro gb185 hg w3 hbox hb; have n0_ := Aside0.mk (below_step hb_ hb); have n1_ := Aside0.mk (hbox); have n2_ := Aside0.mk ((by rw [hg]; exact (below_size hb_) : w.heap.size ≤ gb185)); have n3_ := Aside0.mk ((by rw [hg]; exact (below_size hb_) : w.heap.size ≤ gb185)); clear HB; have HB := n0_; have BK185 := n1_; have GW185 := n2_; have GE185 := n3_; clear n0_ n1_ n2_ n3_; clear hb hbox hg))
 (try simp only [Act.put, List.setIfInBounds_toArray, List.set_cons_zero, List.set_cons_succ])
 go_cut [21] (fun v21 wc => ∃ (kq : Nat) (x21_1 : Bool), v21 = .bool x21_1 ∧ Aside0 (impl_IsSea.j0 kq x21_1 a0_0 a0_1 l0_2 = some r) ∧ Aside0 (kq ≤ k) ∧ Aside0 (wc.heap[gb185]? = some (.cells #[.int .i64 a0_0, .int .i64 a0_1, (.slice A0_2 l0_2.length c0_2)] 28 (0, 0))) ∧ Aside0 (Below w.heap.size w wc))
 case first =>
  have H := HC2.out
  clear HC2
  replace H := Option.bind_eq_some_iff.mp H
  obtain ⟨t186, A40, H⟩ := H
  replace H : (if t186 = true then ((impl_within.f a0_1 1 5).bind fun t187 => (if t187 = true then ((impl_size_int64.f l0_2).bind fun t188 => ((impl_within.f t188 1 3).bind fun t189 => (impl_IsSea.j0 k (!t189) a0_0 a0_1 l0_2))) else (impl_IsSea.j0 k true a0_0 a0_1 l0_2))) else (impl_IsSea.j0 k true a0_0 a0_1 l0_2)) = some r := H
  have A4 := Aside0.mk A40
  clear A40
  by_cases c5 : t186 = true
  ·subst c5
   have H1 : ((impl_within.f a0_1 1 5).bind fun t187 => (if t187 = true then ((impl_size_int64.f l0_2).bind fun t188 => ((impl_within.f t188 1 3).bind fun t189 => (impl_IsSea.j0 k (!t189) a0_0 a0_1 l0_2))) else (impl_IsSea.j0 k true a0_0 a0_1 l0_2))) = some r := by rw [if_pos rfl] at H; exact H
   clear H
   have H := H1
   clear H1
   replace H := Option.bind_eq_some_iff.mp H
   obtain ⟨t187, A60, H⟩ := H
   replace H : (if t187 = true then ((impl_size_int64.f l0_2).bind fun t188 => ((impl_within.f t188 1 3).bind fun t189 => (impl_IsSea.j0 k (!t189) a0_0 a0_1 l0_2))) else (impl_IsSea.j0 k true a0_0 a0_1 l0_2)) = some r := H
   have A6 := Aside0.mk A60
   clear A60
   by_cases c7 : t187 = true
   ·subst c7
    have H1 : ((impl_size_int64.f l0_2).bind fun t188 => ((impl_within.f t188 1 3).bind fun t189 => (impl_IsSea.j0 k (!t189) a0_0 a0_1 l0_2))) = some r := by rw [if_pos rfl] at H; exact H
    clear H
    have H := H1
    clear H1
    replace H := Option.bind_eq_some_iff.mp H
    obtain ⟨t188, A80, H⟩ := H
    replace H : ((impl_within.f t188 1 3).bind fun t189 => (impl_IsSea.j0 k (!t189) a0_0 a0_1 l0_2)) = some r := H
    have A8 := Aside0.mk A80
    clear A80
    replace H := Option.bind_eq_some_iff.mp H
    obtain ⟨t189, A90, H⟩ := H
    replace H : (impl_IsSea.j0 k (!t189) a0_0 a0_1 l0_2) = some r := H
    have A9 := Aside0.mk A90
    clear A90
    have H' := Aside0.mk H
    clear H
    have hcz10_0 : w3.cell? ⟨gb185, 0, none⟩ = some (.int .i64 a0_0) := (blk_cell BK185.out 0).trans rfl
    have hcz10_1 : w3.cell? ⟨gb185, 1, none⟩ = some (.int .i64 a0_1) := (blk_cell BK185.out 1).trans rfl
    have hcz10_2 : w3.cell? ⟨gb185, 2, none⟩ = some (.slice A0_2 l0_2.length c0_2) := (blk_cell BK185.out 2).trans rfl
    have hfz10_0 := blk_frozen BK185.out 0
    have hfz10_1 := blk_frozen BK185.out 1
    have hfz10_2 := blk_frozen BK185.out 2
    go_wp2_with (first | ((with_reducible refine gate_callee (f := 60) rfl ?_); refine goesA_ (some 7) rfl rfl Try.func60 (by kernel_rfl) rfl #[.int .i64 a0_0, .int .i64 1, .int .i64 5] rfl ?_; (with_reducible refine (impl_within.calls a0_0 1 5 true _ A4.out).mono ?_); rintro e w' ⟨rfl, ⟨nd, rfl⟩⟩; refine ⟨_, rfl, ?_⟩) | (go_at_call 60; (with_reducible refine (impl_within.calls a0_1 1 5 true _ A6.out).mono ?_); rintro e w' ⟨rfl, ⟨nd, rfl⟩⟩) | (go_at_call 99; (with_reducible refine (impl_size_int64.calls _ _ l0_2 t188 _ ?side1 ?side2 A8.out).mono ?_); (case side1 => repeat (first | exact (Kd.C_below HR0_2.out (by repeat (first | (with_reducible first | exact HB.out | apply below_alloc | apply pw_below_drewN | apply below_drew1 | refine below_set ?_ GE185.out) | exact HB.out))) | (with_reducible refine Kd.C_alloc ?_ _) | (with_reducible refine Kd.C_drewN ?_ _) | (with_reducible refine Kd.C_drew ?_))); (case side2 => exact HC0_2.out); rintro e w' ⟨rfl, ⟨nd, rfl⟩⟩) | (go_at_call 60; (with_reducible refine (impl_within.calls t188 1 3 t189 _ A9.out).mono ?_); rintro e w' ⟨rfl, ⟨nd, rfl⟩⟩))
    go_meet
    case rel => exact ⟨_, (!t189), (by first | rfl | (simp; done) | (simp [*]; done)), H', ⟨by first | omega | exact Nat.le_refl _⟩, ⟨by (with_reducible repeat (first | refine blk_drewN ?_ _ | refine blk_drew ?_ | refine blk_alloc ?_ _)); exact BK185.out⟩, ⟨by repeat (first | (with_reducible first | exact HB.out | apply below_alloc | apply pw_below_drewN | apply below_drew1 | refine below_set ?_ GE185.out) | exact HB.out)⟩⟩
   ·replace c7 := Bool.eq_false_iff.mpr c7
    subst c7
    have H1 : (impl_IsSea.j0 k true a0_0 a0_1 l0_2) = some r := by rw [if_neg (show ¬ (false = true) by decide)] at H; exact H
    clear H
    have H := H1
    clear H1
    have H' := Aside0.mk H
    clear H
    have hcz11_0 : w3.cell? ⟨gb185, 0, none⟩ = some (.int .i64 a0_0) := (blk_cell BK185.out 0).trans rfl
    have hcz11_1 : w3.cell? ⟨gb185, 1, none⟩ = some (.int .i64 a0_1) := (blk_cell BK185.out 1).trans rfl
    have hcz11_2 : w3.cell? ⟨gb185, 2, none⟩ = some (.slice A0_2 l0_2.length c0_2) := (blk_cell BK185.out 2).trans rfl
    have hfz11_0 := blk_frozen BK185.out 0
    have hfz11_1 := blk_frozen BK185.out 1
    have hfz11_2 := blk_frozen BK185.out 2
    go_wp2_with (first | ((with_reducible refine gate_callee (f := 60) rfl ?_); refine goesA_ (some 7) rfl rfl Try.func60 (by kernel_rfl) rfl #[.int .i64 a0_0, .int .i64 1, .int .i64 5] rfl ?_; (with_reducible refine (impl_within.calls a0_0 1 5 true _ A4.out).mono ?_); rintro e w' ⟨rfl, ⟨nd, rfl⟩⟩; refine ⟨_, rfl, ?_⟩) | (go_at_call 60; (with_reducible refine (impl_within.calls a0_1 1 5 false _ A6.out).mono ?_); rintro e w' ⟨rfl, ⟨nd, rfl⟩⟩))
    go_meet
    case rel => exact ⟨_, (true), (by first | rfl | (simp; done) | (simp [*]; done)), H', ⟨by first | omega | exact Nat.le_refl _⟩, ⟨by (with_reducible repeat (first | refine blk_drewN ?_ _ | refine blk_drew ?_ | refine blk_alloc ?_ _)); exact BK185.out⟩, ⟨by repeat (first | (with_reducible first | exact HB.out | apply below_alloc | apply pw_below_drewN | apply below_drew1 | refine below_set ?_ GE185.out) | exact HB.out)⟩⟩
  ·replace c5 := Bool.eq_false_iff.mpr c5
   subst c5
   have H1 : (impl_IsSea.j0 k true a0_0 a0_1 l0_2) = some r := by rw [if_neg (show ¬ (false = true) by decide)] at H; exact H
   clear H
   have H := H1
   clear H1
   have H' := Aside0.mk H
   clear H
   have hcz12_0 : w3.cell? ⟨gb185, 0, none⟩ = some (.int .i64 a0_0) := (blk_cell BK185.out 0).trans rfl
   have hcz12_1 : w3.cell? ⟨gb185, 1, none⟩ = some (.int .i64 a0_1) := (blk_cell BK185.out 1).trans rfl
   have hcz12_2 : w3.cell? ⟨gb185, 2, none⟩ = some (.slice A0_2 l0_2.length c0_2) := (blk_cell BK185.out 2).trans rfl
   have hfz12_0 := blk_frozen BK185.out 0
   have hfz12_1 := blk_frozen BK185.out 1
   have hfz12_2 := blk_frozen BK185.out 2
   go_wp2_with (first | ((with_reducible refine gate_callee (f := 60) rfl ?_); refine goesA_ (some 7) rfl rfl Try.func60 (by kernel_rfl) rfl #[.int .i64 a0_0, .int .i64 1, .int .i64 5] rfl ?_; (with_reducible refine (impl_within.calls a0_0 1 5 false _ A4.out).mono ?_); rintro e w' ⟨rfl, ⟨nd, rfl⟩⟩; refine ⟨_, rfl, ?_⟩))
   go_meet
   case rel => exact ⟨_, (true), (by first | rfl | (simp; done) | (simp [*]; done)), H', ⟨by first | omega | exact Nat.le_refl _⟩, ⟨by (with_reducible repeat (first | refine blk_drewN ?_ _ | refine blk_drew ?_ | refine blk_alloc ?_ _)); exact BK185.out⟩, ⟨by repeat (first | (with_reducible first | exact HB.out | apply below_alloc | apply pw_below_drewN | apply below_drew1 | refine below_set ?_ GE185.out) | exact HB.out)⟩⟩
 case rest =>
  clear HC2
  (try clear p2); (try clear c5); (try clear c6); (try clear c7); (try clear hcz10_0); (try clear hcz10_1); (try clear hcz10_2); (try clear hcz11_0); (try clear hcz11_1); (try clear hcz11_2); (try clear hcz12_0); (try clear hcz12_1); (try clear hcz12_2); (try clear hfz10_0); (try clear hfz10_1); (try clear hfz10_2); (try clear hfz11_0); (try clear hfz11_1); (try clear hfz11_2); (try clear hfz12_0); (try clear hfz12_1); (try clear hfz12_2)
  obtain ⟨kq, x21_1, rfl, HA, HJ1, BK185, HB⟩ := hcut
  cases kq with
  | zero => exact absurd HA.out (by simp [impl_IsSea.j0])
  | succ kj1 =>
   have H := HA.out
   clear HA
   simp only [impl_IsSea.j0] at H
   by_cases c13 : x21_1 = true
   ·subst c13
    have H1 : (some false) = some r := by rw [if_pos rfl] at H; exact H
    clear H
    have H := H1
    clear H1
    obtain rfl := Option.some.inj H
    go_wp2
    go_ret
    exact ⟨by first | rfl | (simp [errW_none, errW_some] <;> rfl) | (simp [*, errW_none, errW_some] <;> rfl), by repeat (first | (with_reducible first | exact HB.out | apply below_alloc | apply pw_below_drewN | apply below_drew1 | refine below_set ?_ GE185.out) | exact HB.out)⟩
   ·replace c13 := Bool.eq_false_iff.mpr c13
    subst c13
    have H1 : (impl_IsSea.l0 kj1 l0_2 (l0_2.length : Int) 0 a0_0 a0_1 l0_2) = some r := by rw [if_neg (show ¬ (false = true) by decide)] at H; exact H
    clear H
    have H := H1
    clear H1
    have H' := Aside0.mk H
    clear H
    have hcz14_0 : wc.cell? ⟨gb185, 0, none⟩ = some (.int .i64 a0_0) := (blk_cell BK185.out 0).trans rfl
    have hcz14_1 : wc.cell? ⟨gb185, 1, none⟩ = some (.int .i64 a0_1) := (blk_cell BK185.out 1).trans rfl
    have hcz14_2 : wc.cell? ⟨gb185, 2, none⟩ = some (.slice A0_2 l0_2.length c0_2) := (blk_cell BK185.out 2).trans rfl
    have hfz14_0 := blk_frozen BK185.out 0
    have hfz14_1 := blk_frozen BK185.out 1
    have hfz14_2 := blk_frozen BK185.out 2
    go_wp2
    go_loopg [25] kj1 (fun kq v25 w' => ∃ (x25_2 : Int), v25 = .int .i64 x25_2 ∧ Aside0 (impl_IsSea.l0 kq l0_2 (l0_2.length : Int) x25_2 a0_0 a0_1 l0_2 = some r) ∧ Aside0 (kq ≤ kj1) ∧ Aside0 (w'.heap[gb185]? = some (.cells #[.int .i64 a0_0, .int .i64 a0_1, (.slice A0_2 l0_2.length c0_2)] 28 (0, 0))) ∧ Aside0 (Below w.heap.size w w'))
    case atStart => exact ⟨(0), (by first | rfl | (simp; done) | (simp [*]; done)), H', ⟨Nat.le_refl _⟩, ⟨by (with_reducible repeat (first | refine blk_drewN ?_ _ | refine blk_drew ?_ | refine blk_alloc ?_ _)); exact BK185.out⟩, ⟨by repeat (first | (with_reducible first | exact HB.out | apply below_alloc | apply pw_below_drewN | apply below_drew1 | refine below_set ?_ GE185.out) | exact HB.out)⟩⟩
    case round =>
     clear H'
     (try clear c1); (try clear p2); (try clear c5); (try clear c6); (try clear c7); (try clear c13); (try clear hcz10_0); (try clear hcz10_1); (try clear hcz10_2); (try clear hcz11_0); (try clear hcz11_1); (try clear hcz11_2); (try clear hcz12_0); (try clear hcz12_1); (try clear hcz12_2); (try clear hcz14_0); (try clear hcz14_1); (try clear hcz14_2); (try clear hfz10_0); (try clear hfz10_1); (try clear hfz10_2); (try clear hfz11_0); (try clear hfz11_1); (try clear hfz11_2); (try clear hfz12_0); (try clear hfz12_1); (try clear hfz12_2); (try clear hfz14_0); (try clear hfz14_1); (try clear hfz14_2); (try clear p2)
     obtain ⟨x25_2, rfl, HA, HK2, BK185, HB⟩ := hrel
     cases gk with
     | zero => exact absurd HA.out (by simp [impl_IsSea.l0])
     | succ k2 =>
      have H := HA.out
      clear HA
      simp only [impl_IsSea.l0] at H
      by_cases c15 : x25_2 < (l0_2.length : Int)
      ·rw [if_pos c15] at H
       have c15b0 : decide (x25_2 < (l0_2.length : Int)) = true := decide_eq_true c15
       clear c15
       by_cases c16 : 0 ≤ x25_2
       ·rw [if_pos c16] at H
        have c16b0 : decide (0 ≤ x25_2) = true := decide_eq_true c16
        clear c16
        by_cases c17 : x25_2 < (l0_2.length : Int)
        ·rw [if_pos c17] at H
         have c17b0 : decide (x25_2 < (l0_2.length : Int)) = true := decide_eq_true c17
         clear c17
         replace H := Option.bind_eq_some_iff.mp H
         obtain ⟨t191, A180, H⟩ := H
         replace H : (if t191 = true then (if x25_2 > 0 then (if 0 ≤ (wrap64 (x25_2 - 1)) then (if (wrap64 (x25_2 - 1)) < (l0_2.length : Int) then (if (rd l0_2 x25_2) > (rd l0_2 (wrap64 (x25_2 - 1))) then (some false) else (impl_IsSea.l0 k2 l0_2 (l0_2.length : Int) (wrap64 (x25_2 + 1)) a0_0 a0_1 l0_2)) else (none)) else (none)) else (impl_IsSea.l0 k2 l0_2 (l0_2.length : Int) (wrap64 (x25_2 + 1)) a0_0 a0_1 l0_2)) else (some false)) = some r := H
         have A18 := Aside0.mk A180
         clear A180
         by_cases c19 : t191 = true
         ·subst c19
          have H1 : (if x25_2 > 0 then (if 0 ≤ (wrap64 (x25_2 - 1)) then (if (wrap64 (x25_2 - 1)) < (l0_2.length : Int) then (if (rd l0_2 x25_2) > (rd l0_2 (wrap64 (x25_2 - 1))) then (some false) else (impl_IsSea.l0 k2 l0_2 (l0_2.length : Int) (wrap64 (x25_2 + 1)) a0_0 a0_1 l0_2)) else (none)) else (none)) else (impl_IsSea.l0 k2 l0_2 (l0_2.length : Int) (wrap64 (x25_2 + 1)) a0_0 a0_1 l0_2)) = some r := by rw [if_pos rfl] at H; exact H
          clear H
          have H := H1
          clear H1
          by_cases c20 : x25_2 > 0
          ·rw [if_pos c20] at H
           have c20b0 : decide (0 < x25_2) = true := decide_eq_true c20
           clear c20
           obtain ⟨ji21, hji21⟩ : ∃ j_ : Int, (wrap64 (x25_2 - 1)) = j_ := ⟨_, rfl⟩
           replace H : (if 0 ≤ (ji21) then (if (ji21) < (l0_2.length : Int) then (if (rd l0_2 x25_2) > (rd l0_2 (ji21)) then (some false) else (impl_IsSea.l0 k2 l0_2 (l0_2.length : Int) (wrap64 (x25_2 + 1)) a0_0 a0_1 l0_2)) else (none)) else (none)) = some r := by first | (rw [hji21] at H; exact H) | (simp only [hji21] at H ⊢; exact H)
           (try rw [hji21] at A18)
           have hji21w : (IntKind.i64.wrap (x25_2 - 1)) = ji21 := (i64_w _).trans hji21
           by_cases c22 : 0 ≤ (ji21)
           ·rw [if_pos c22] at H
            have c22b0 : decide (0 ≤ (ji21)) = true := decide_eq_true c22
            clear c22
            by_cases c23 : (ji21) < (l0_2.length : Int)
            ·rw [if_pos c23] at H
             have c23b0 : decide ((ji21) < (l0_2.length : Int)) = true := decide_eq_true c23
             clear c23
             by_cases c24 : (rd l0_2 x25_2) > (rd l0_2 (ji21))
             ·rw [if_pos c24] at H
              have c24b0 : decide ((rd l0_2 (ji21)) < (rd l0_2 x25_2)) = true := decide_eq_true c24
              clear c24
              obtain rfl := Option.some.inj H
              have p190 : 0 ≤ (x25_2 : Int) := oda
              have q190 : x25_2 < (l0_2.length : Int) := oda
              obtain ⟨ad190, e190, hx190_0⟩ := Kd.at_int HR0_2.out x25_2 p190 q190
              cases e190
              replace hx190_0 := (HB.out.cell (World.block_lt_of_cell? w _ hx190_0)).trans hx190_0
              replace p190 := eq_true p190
              replace q190 := eq_true q190
              go_wp2_with (first | ((with_reducible refine gate_callee (f := 60) rfl ?_); refine goesA_ (some 31) rfl rfl Try.func60 (by kernel_rfl) rfl #[.int .i64 (rd l0_2 x25_2), .int .i64 1, .int .i64 5] rfl ?_; (with_reducible refine (impl_within.calls (rd l0_2 x25_2) 1 5 true _ A18.out).mono ?_); rintro e w' ⟨rfl, ⟨nd, rfl⟩⟩; refine ⟨_, rfl, ?_⟩; have hcz25_0 : wr.cell? ⟨gb185, 0, none⟩ = some (.int .i64 a0_0) := (blk_cell BK185.out 0).trans rfl; have hcz25_1 : wr.cell? ⟨gb185, 1, none⟩ = some (.int .i64 a0_1) := (blk_cell BK185.out 1).trans rfl; have hcz25_2 : wr.cell? ⟨gb185, 2, none⟩ = some (.slice (some ad190) l0_2.length c0_2) := (blk_cell BK185.out 2).trans rfl; have hfz25_0 := blk_frozen BK185.out 0; have hfz25_1 := blk_frozen BK185.out 1; have hfz25_2 := blk_frozen BK185.out 2; have p192 : 0 ≤ ((ji21) : Int) := oda; have q192 : (ji21) < (l0_2.length : Int) := oda; obtain ⟨ad192, e192, hx192_0⟩ := Kd.at_int HR0_2.out (ji21) p192 q192; obtain rfl : ad190 = ad192 := (by injection e192); replace hx192_0 := (HB.out.cell (World.block_lt_of_cell? w _ hx192_0)).trans hx192_0; replace p192 := eq_true p192; replace q192 := eq_true q192))
              go_ret
              exact ⟨by first | rfl | (simp [errW_none, errW_some] <;> rfl) | (simp only [← hji21]; first | rfl | (simp [errW_none, errW_some] <;> rfl)) | (simp [*, errW_none, errW_some] <;> rfl), by repeat (first | (with_reducible first | exact HB.out | apply below_alloc | apply pw_below_drewN | apply below_drew1 | refine below_set ?_ GE185.out) | exact HB.out)⟩
             ·rw [if_neg c24] at H
              have c24b0 : decide ((rd l0_2 (ji21)) < (rd l0_2 x25_2)) = false := decide_eq_false c24
              clear c24
              have H' := Aside0.mk H
              clear H
              have p190 : 0 ≤ (x25_2 : Int) := oda
              have q190 : x25_2 < (l0_2.length : Int) := oda
              obtain ⟨ad190, e190, hx190_0⟩ := Kd.at_int HR0_2.out x25_2 p190 q190
              cases e190
              replace hx190_0 := (HB.out.cell (World.block_lt_of_cell? w _ hx190_0)).trans hx190_0
              replace p190 := eq_true p190
              replace q190 := eq_true q190
              go_wp2_with (first | ((with_reducible refine gate_callee (f := 60) rfl ?_); refine goesA_ (some 31) rfl rfl Try.func60 (by kernel_rfl) rfl #[.int .i64 (rd l0_2 x25_2), .int .i64 1, .int .i64 5] rfl ?_; (with_reducible refine (impl_within.calls (rd l0_2 x25_2) 1 5 true _ A18.out).mono ?_); rintro e w' ⟨rfl, ⟨nd, rfl⟩⟩; refine ⟨_, rfl, ?_⟩; have hcz26_0 : wr.cell? ⟨gb185, 0, none⟩ = some (.int .i64 a0_0) := (blk_cell BK185.out 0).trans rfl; have hcz26_1 : wr.cell? ⟨gb185, 1, none⟩ = some (.int .i64 a0_1) := (blk_cell BK185.out 1).trans rfl; have hcz26_2 : wr.cell? ⟨gb185, 2, none⟩ = some (.slice (some ad190) l0_2.length c0_2) := (blk_cell BK185.out 2).trans rfl; have hfz26_0 := blk_frozen BK185.out 0; have hfz26_1 := blk_frozen BK185.out 1; have hfz26_2 := blk_frozen BK185.out 2; have p192 : 0 ≤ ((ji21) : Int) := oda; have q192 : (ji21) < (l0_2.length : Int) := oda; obtain ⟨ad192, e192, hx192_0⟩ := Kd.at_int HR0_2.out (ji21) p192 q192; obtain rfl : ad190 = ad192 := (by injection e192); replace hx192_0 := (HB.out.cell (World.block_lt_of_cell? w _ hx192_0)).trans hx192_0; replace p192 := eq_true p192; replace q192 := eq_true q192))
              go_roundg k2
              case measure => have := HJ1.out; have := HK2.out; omega
              case rel => exact ⟨(wrap64 (x25_2 + 1)), (by first | rfl | (simp; done) | (simp [*]; done)), H', ⟨by have := HJ1.out; have := HK2.out; omega⟩, ⟨by (with_reducible repeat (first | refine blk_drewN ?_ _ | refine blk_drew ?_ | refine blk_alloc ?_ _)); exact BK185.out⟩, ⟨by repeat (first | (with_reducible first | exact HB.out | apply below_alloc | apply pw_below_drewN | apply below_drew1 | refine below_set ?_ GE185.out) | exact HB.out)⟩⟩
            ·rw [if_neg c23] at H
             exact absurd H (by simp)
           ·rw [if_neg c22] at H
            exact absurd H (by simp)
          ·rw [if_neg c20] at H
           have c20b0 : decide (0 < x25_2) = false := decide_eq_false c20
           clear c20
           have H' := Aside0.mk H
           clear H
           have p190 : 0 ≤ (x25_2 : Int) := oda
           have q190 : x25_2 < (l0_2.length : Int) := oda
           obtain ⟨ad190, e190, hx190_0⟩ := Kd.at_int HR0_2.out x25_2 p190 q190
           cases e190
           replace hx190_0 := (HB.out.cell (World.block_lt_of_cell? w _ hx190_0)).trans hx190_0
           replace p190 := eq_true p190
           replace q190 := eq_true q190
           go_wp2_with (first | ((with_reducible refine gate_callee (f := 60) rfl ?_); refine goesA_ (some 31) rfl rfl Try.func60 (by kernel_rfl) rfl #[.int .i64 (rd l0_2 x25_2), .int .i64 1, .int .i64 5] rfl ?_; (with_reducible refine (impl_within.calls (rd l0_2 x25_2) 1 5 true _ A18.out).mono ?_); rintro e w' ⟨rfl, ⟨nd, rfl⟩⟩; refine ⟨_, rfl, ?_⟩))
           go_roundg k2
           case measure => have := HJ1.out; have := HK2.out; omega
           case rel => exact ⟨(wrap64 (x25_2 + 1)), (by first | rfl | (simp; done) | (simp [*]; done)), H', ⟨by have := HJ1.out; have := HK2.out; omega⟩, ⟨by (with_reducible repeat (first | refine blk_drewN ?_ _ | refine blk_drew ?_ | refine blk_alloc ?_ _)); exact BK185.out⟩, ⟨by repeat (first | (with_reducible first | exact HB.out | apply below_alloc | apply pw_below_drewN | apply below_drew1 | refine below_set ?_ GE185.out) | exact HB.out)⟩⟩
         ·replace c19 := Bool.eq_false_iff.mpr c19
          subst c19
          have H1 : (some false) = some r := by rw [if_neg (show ¬ (false = true) by decide)] at H; exact H
          clear H
          have H := H1
          clear H1
          obtain rfl := Option.some.inj H
          have p190 : 0 ≤ (x25_2 : Int) := oda
          have q190 : x25_2 < (l0_2.length : Int) := oda
          obtain ⟨ad190, e190, hx190_0⟩ := Kd.at_int HR0_2.out x25_2 p190 q190
          cases e190
          replace hx190_0 := (HB.out.cell (World.block_lt_of_cell? w _ hx190_0)).trans hx190_0
          replace p190 := eq_true p190
          replace q190 := eq_true q190
          go_wp2_with (first | ((with_reducible refine gate_callee (f := 60) rfl ?_); refine goesA_ (some 31) rfl rfl Try.func60 (by kernel_rfl) rfl #[.int .i64 (rd l0_2 x25_2), .int .i64 1, .int .i64 5] rfl ?_; (with_reducible refine (impl_within.calls (rd l0_2 x25_2) 1 5 false _ A18.out).mono ?_); rintro e w' ⟨rfl, ⟨nd, rfl⟩⟩; refine ⟨_, rfl, ?_⟩))
          go_ret
          exact ⟨by first | rfl | (simp [errW_none, errW_some] <;> rfl) | (simp [*, errW_none, errW_some] <;> rfl), by repeat (first | (with_reducible first | exact HB.out | apply below_alloc | apply pw_below_drewN | apply below_drew1 | refine below_set ?_ GE185.out) | exact HB.out)⟩
        ·rw [if_neg c17] at H
         exact absurd H (by simp)
       ·rw [if_neg c16] at H
        exact absurd H (by simp)
      ·rw [if_neg c15] at H
       have c15b0 : decide (x25_2 < (l0_2.length : Int)) = false := decide_eq_false c15
       clear c15
       obtain rfl := Option.some.inj H
       go_wp2
       go_ret
       exact ⟨by first | rfl | (simp [errW_none, errW_some] <;> rfl) | (simp [*, errW_none, errW_some] <;> rfl), by repeat (first | (with_reducible first | exact HB.out | apply below_alloc | apply pw_below_drewN | apply below_drew1 | refine below_set ?_ GE185.out) | exact HB.out)⟩
/-! ### slices_Index_int64_int64: function 119 -/
def slices_Index_int64_int64.l0 : Nat → List Int → Int → Int → Int → Option (Int)
 | 0, _, _, _, _ => none
 | k + 1, x0, x1, x7, x8 => if x8 < x7 then (if 0 ≤ x8 then (if x8 < (x0.length : Int) then (if x1 = (rd x0 x8) then (some x8) else (slices_Index_int64_int64.l0 k x0 x1 x7 (wrap64 (x8 + 1)))) else (none)) else (none)) else (some (-1))
def slices_Index_int64_int64.f (k : Nat) (l0 : List Int) (a1 : Int) : Option (Int) := slices_Index_int64_int64.l0 k l0 a1 (l0.length : Int) 0
set_option maxHeartbeats 8000000 in
set_option maxRecDepth 100000 in
theorem slices_Index_int64_int64.calls (k : Nat) (A0 : Option Addr) (c0 : Nat) (l0 : List Int) (a1 : Int) (r : Int) (w : World) (hr0 : Kd.C (Kd.int .i64) w A0 l0.length l0) (hc0 : l0.length ≤ c0) (h : slices_Index_int64_int64.f k l0 a1 = some r) :
  Calls Try.prog 119 #[.slice A0 l0.length c0, .int .i64 a1] w fun e w' => e = .returned (.int .i64 r) ∧ Drawn0 w w' := by
 have HR0 := Aside0.mk hr0
 have HC0 := Aside0.mk hc0
 clear hr0 hc0
 have H : (slices_Index_int64_int64.l0 k l0 a1 (l0.length : Int) 0) = some r := h
 clear h
 have H' := Aside0.mk H
 clear H
 go_enter Try.func119, Try.ntmps119
 go_wp2
 go_loopg [8] k (fun kq v8 w' => ∃ (x8_1 : Int), v8 = .int .i64 x8_1 ∧ Aside0 (slices_Index_int64_int64.l0 kq l0 a1 (l0.length : Int) x8_1 = some r) ∧ Aside0 (kq ≤ k) ∧ Drawn0 w w')
 case atStart => exact ⟨(0), (by first | rfl | (simp; done) | (simp [*]; done)), H', ⟨Nat.le_refl _⟩, by repeat (first | exact Drawn0.refl _ | apply Drawn0.step)⟩
 case round =>
  clear H'
  (try clear c1); (try clear p2)
  obtain ⟨x8_1, rfl, HA, HK1, ⟨m1, rfl⟩⟩ := hrel
  cases gk with
  | zero => exact absurd HA.out (by simp [slices_Index_int64_int64.l0])
  | succ k1 =>
   have H := HA.out
   clear HA
   simp only [slices_Index_int64_int64.l0] at H
   by_cases c3 : x8_1 < (l0.length : Int)
   ·rw [if_pos c3] at H
    have c3b0 : decide (x8_1 < (l0.length : Int)) = true := decide_eq_true c3
    clear c3
    by_cases c4 : 0 ≤ x8_1
    ·rw [if_pos c4] at H
     have c4b0 : decide (0 ≤ x8_1) = true := decide_eq_true c4
     clear c4
     by_cases c5 : x8_1 < (l0.length : Int)
     ·rw [if_pos c5] at H
      have c5b0 : decide (x8_1 < (l0.length : Int)) = true := decide_eq_true c5
      clear c5
      by_cases c6 : a1 = (rd l0 x8_1)
      ·rw [if_pos c6] at H
       have c6b0 : (a1 == (rd l0 x8_1)) = true := beq_iff_eq.mpr c6
       have c6b1 : (a1 != (rd l0 x8_1)) = false := bne_eq_false_iff_eq.mpr c6
       clear c6
       obtain rfl := Option.some.inj H
       have p411 : 0 ≤ (x8_1 : Int) := oda
       have q411 : x8_1 < (l0.length : Int) := oda
       obtain ⟨ad411, e411, hx411_0⟩ := Kd.at_int HR0.out x8_1 p411 q411
       cases e411
       replace p411 := eq_true p411
       replace q411 := eq_true q411
       go_wp2
       go_ret
       exact ⟨by first | rfl | (simp; done) | (simp [*]; done), by repeat (first | exact Drawn0.refl _ | apply Drawn0.step)⟩
      ·rw [if_neg c6] at H
       have c6b0 : (a1 == (rd l0 x8_1)) = false := beq_eq_false_iff_ne.mpr c6
       have c6b1 : (a1 != (rd l0 x8_1)) = true := bne_iff_ne.mpr c6
       have H' := Aside0.mk H
       clear H
       have p411 : 0 ≤ (x8_1 : Int) := oda
       have q411 : x8_1 < (l0.length : Int) := oda
       obtain ⟨ad411, e411, hx411_0⟩ := Kd.at_int HR0.out x8_1 p411 q411
       cases e411
       replace p411 := eq_true p411
       replace q411 := eq_true q411
       go_wp2
       go_roundg k1
       case measure => have := HK1.out; omega
       case rel => exact ⟨(wrap64 (x8_1 + 1)), (by first | rfl | (simp; done) | (simp [*]; done)), H', ⟨by have := HK1.out; omega⟩, by repeat (first | exact Drawn0.refl _ | apply Drawn0.step)⟩
     ·rw [if_neg c5] at H
      exact absurd H (by simp)
    ·rw [if_neg c4] at H
     exact absurd H (by simp)
   ·rw [if_neg c3] at H
    have c3b0 : decide (x8_1 < (l0.length : Int)) = false := decide_eq_false c3
    clear c3
    obtain rfl := Option.some.inj H
    go_wp2
    go_ret
    exact ⟨by first | rfl | (simp; done) | (simp [*]; done), by repeat (first | exact Drawn0.refl _ | apply Drawn0.step)⟩
/-! ### slices_Contains_int64_int64: function 102 -/
def slices_Contains_int64_int64.f (k : Nat) (l0 : List Int) (a1 : Int) : Option (Bool) := (slices_Index_int64_int64.f k l0 a1).bind fun t412 => (some (decide (t412 ≥ 0)))
set_option maxHeartbeats 8000000 in
set_option maxRecDepth 100000 in
theorem slices_Contains_int64_int64.calls (k : Nat) (A0 : Option Addr) (c0 : Nat) (l0 : List Int) (a1 : Int) (r : Bool) (w : World) (hr0 : Kd.C (Kd.int .i64) w A0 l0.length l0) (hc0 : l0.length ≤ c0) (h : slices_Contains_int64_int64.f k l0 a1 = some r) :
  Calls Try.prog 102 #[.slice A0 l0.length c0, .int .i64 a1] w fun e w' => e = .returned (.bool r) ∧ Drawn0 w w' := by
 have HR0 := Aside0.mk hr0
 have HC0 := Aside0.mk hc0
 clear hr0 hc0
 have H : ((slices_Index_int64_int64.f k l0 a1).bind fun t412 => (some (decide (t412 ≥ 0)))) = some r := h
 clear h
 replace H := Option.bind_eq_some_iff.mp H
 obtain ⟨t412, A30, H⟩ := H
 replace H : (some (decide (t412 ≥ 0))) = some r := H
 have A3 := Aside0.mk A30
 clear A30
 obtain rfl := Option.some.inj H
 go_enter Try.func102, Try.ntmps102
 go_wp2_with (first | ((with_reducible refine gate_callee (f := 119) rfl ?_); refine goesA_ (some 7) rfl rfl Try.func119 (by kernel_rfl) rfl #[.slice A0 l0.length c0, .int .i64 a1] rfl ?_; (with_reducible refine (slices_Index_int64_int64.calls k _ _ l0 a1 t412 _ ?side1 ?side2 A3.out).mono ?_); (case side1 => repeat (first | exact HR0.out | (with_reducible refine Kd.C_alloc ?_ _) | (with_reducible refine Kd.C_drewN ?_ _) | (with_reducible refine Kd.C_drew ?_))); (case side2 => exact HC0.out); rintro e w' ⟨rfl, ⟨nd, rfl⟩⟩; refine ⟨_, rfl, ?_⟩))
 go_ret
 exact ⟨by first | rfl | (simp; done) | (simp [*]; done), by repeat (first | exact Drawn0.refl _ | apply Drawn0.step)⟩
/-- What is asked of a function value handed on: at every x of the kind d that q lets by, in every world in which all that lay in w lies unturned, it answers p x and turns nothing that lay. -/
def PredK {α : Type} (P : Program) (g : Nat) (lb : Array Value) (d : Kd α) (q : α → Prop) (p : α → Bool) (w : World) : Prop :=
  ∀ (W : World) (x : α) (v : Value), q x → d.K W x [v] → Below w.heap.size w W → Calls P g (#[v] ++ lb) W fun e w' => e = .returned (.bool (p x)) ∧ Below W.heap.size W w'
/-- One cell of a row that is read. -/
theorem Kd.C_one {α : Type} {d : Kd α} {w : World} {A : Option Addr} {n : Nat} {xs : List α} (h1 : d.sz = 1) (h : d.C w A n xs) (i : Nat) (hi : i < n) (hl : n = xs.length) :
    ∃ ad v, A = some ad ∧ w.cell? (ad.add i) = some v ∧ d.K w (xs[i]'(by omega)) [v] := by
  have hi' : i < xs.length := by omega
  obtain ⟨ad, c, hA, hc, hK, hcell⟩ := Kd.C_get h (xs[i]'hi') (i : Int) (by omega) (by omega)
  rw [h1] at hc
  match c, hc with
  | [v], _ =>
    refine ⟨ad, v, hA, ?_, ?_⟩
    · have := hcell 0 v rfl
      rw [h1] at this
      simpa using this
    · have e : xs.getD (i : Int).toNat (xs[i]'hi') = xs[i]'hi' := by simp [List.getD_eq_getElem?_getD, List.getElem?_eq_getElem hi']
      rwa [e] at hK
/-- The place of the first hit from i on, or -1. -/
def idxK {α : Type} (p : α → Bool) : List α → Nat → Int
  | [], _ => -1
  | x :: r, i => if p x then (i : Int) else idxK p r (i + 1)
theorem idxK_ge {α : Type} (p : α → Bool) : ∀ (l : List α) (i : Nat), (0 ≤ idxK p l i) ↔ l.any p = true
  | [], i => by simp [idxK]
  | x :: r, i => by
    have ih := idxK_ge p r (i + 1)
    unfold idxK
    cases h : p x
    · simpa [h] using ih
    · simp [h]
theorem idxK_drop {α : Type} (p : α → Bool) (l : List α) (i : Nat) (h : i < l.length) : idxK p (l.drop i) i = if p l[i] then (i : Int) else idxK p (l.drop (i + 1)) (i + 1) := by
  rw [List.drop_eq_getElem_cons h]; rfl
theorem idxK_any {α : Type} (p : α → Bool) (l : List α) : decide (0 ≤ idxK p l 0) = l.any p := by
  have := idxK_ge p l 0
  rw [Bool.eq_iff_iff, decide_eq_true_iff]
  exact this
/-- The same of a function value which turns nothing at all, and makes nothing. -/
def PredD {α : Type} (P : Program) (g : Nat) (lb : Array Value) (d : Kd α) (q : α → Prop) (p : α → Bool) (w : World) : Prop :=
  ∀ (W : World) (x : α) (v : Value), q x → d.K W x [v] → Below w.heap.size w W → Calls P g (#[v] ++ lb) W fun e w' => e = .returned (.bool (p x)) ∧ Drawn0 W w'
theorem drawn_trans {a b c : World} (h1 : Drawn0 a b) (h2 : Drawn0 b c) : Drawn0 a c := by
  obtain ⟨n, rfl⟩ := h2
  exact h1.step n
/-! ### slices_IndexFunc_int64_int64: function 80 -/
-- EXTERNAL: by hand
set_option maxHeartbeats 4000000 in
set_option maxRecDepth 100000 in
theorem slices_IndexFunc_int64_int64.calls (g : Nat) (lb : Array Value) (q : Int → Prop) (p : Int → Bool) (eg : ∀ args w, (callFunc g args).run Try.prog w = .ok (.enter g args) w)
    (A0 : Option Addr) (c0 : Nat) (l0 : List Int) (w : World) (hp : PredK Try.prog g lb (Kd.int .i64) q p w) (hq : ∀ x ∈ l0, q x) (hr0 : Kd.C (Kd.int .i64) w A0 l0.length l0) (hm : l0.length ≤ 9223372036854775807) :
    Calls Try.prog 80 #[.slice A0 l0.length c0, .func (.func g) #[] lb] w fun e w' => e = .returned (.int .i64 (idxK p l0 0)) ∧ Below w.heap.size w w' := by
  have HP := Aside0.mk hp
  have HR := Aside0.mk hr0
  have HQ := Aside0.mk hq
  clear hp hr0 hq
  go_enter Try.func80, Try.ntmps80
  go_wp2
  go_loopg [5, 8] l0.length (fun gg _ s8 wr => ∃ kk : Nat, kk ≤ l0.length ∧ l0.length - kk ≤ gg ∧ s8 = .int .i64 kk ∧ Aside0 (idxK p (l0.drop kk) kk = idxK p l0 0) ∧ Aside0 (Below w.heap.size w wr))
  case atStart => exact ⟨0, Nat.zero_le _, by omega, rfl, ⟨rfl⟩, ⟨Below.refl _ _⟩⟩
  case round =>
    obtain ⟨kk, hkk, hg, rfl, A, HB⟩ := hrel
    by_cases hlt : kk < l0.length
    · have hltz : (kk : Int) < (l0.length : Int) := by omega
      obtain ⟨ad, v, rfl, hcell, hK⟩ := Kd.C_one rfl (Kd.C_below HR.out HB.out) kk hlt rfl
      have hcall := HP.out wr _ v (HQ.out _ (List.getElem_mem hlt)) hK HB.out
      have HK1 := (Kd.int .i64).K_one hK v (by simp)
      have E := Aside0.mk (idxK_drop p l0 kk hlt)
      generalize p l0[kk] = b at hcall E
      clear hK
      cases b with
      | true =>
        go_wp2_with (go_at_fn g; refine hcall.mono ?_; rintro e w' ⟨rfl, hb⟩)
        go_ret
        refine ⟨?_, below_then HB.out HB.out.size hb⟩
        rw [← A.out, E.out]; rfl
      | false =>
        go_wp2_with (go_at_fn g; refine hcall.mono ?_; rintro e w' ⟨rfl, hb⟩)
        go_roundg (l0.length - (kk + 1))
        case measure => omega
        case rel => exact ⟨kk + 1, by omega, by omega, by go_num, ⟨by rw [← A.out, E.out]; rfl⟩, ⟨below_then HB.out HB.out.size hb⟩⟩
    · have hltz : ¬ (kk : Int) < (l0.length : Int) := by omega
      have : kk = l0.length := by omega
      subst this
      go_wp2
      go_ret
      refine ⟨?_, HB.out⟩
      rw [← A.out]; simp [idxK]
set_option maxHeartbeats 4000000 in
set_option maxRecDepth 100000 in
theorem slices_IndexFunc_int64_int64.callsD (g : Nat) (lb : Array Value) (q : Int → Prop) (p : Int → Bool) (eg : ∀ args w, (callFunc g args).run Try.prog w = .ok (.enter g args) w)
    (A0 : Option Addr) (c0 : Nat) (l0 : List Int) (w : World) (hp : PredD Try.prog g lb (Kd.int .i64) q p w) (hq : ∀ x ∈ l0, q x) (hr0 : Kd.C (Kd.int .i64) w A0 l0.length l0) (hm : l0.length ≤ 9223372036854775807) :
    Calls Try.prog 80 #[.slice A0 l0.length c0, .func (.func g) #[] lb] w fun e w' => e = .returned (.int .i64 (idxK p l0 0)) ∧ Drawn0 w w' := by
  have HP := Aside0.mk hp
  have HR := Aside0.mk hr0
  have HQ := Aside0.mk hq
  clear hp hr0 hq
  go_enter Try.func80, Try.ntmps80
  go_wp2
  go_loopg [5, 8] l0.length (fun gg _ s8 wr => ∃ kk : Nat, kk ≤ l0.length ∧ l0.length - kk ≤ gg ∧ s8 = .int .i64 kk ∧ Aside0 (idxK p (l0.drop kk) kk = idxK p l0 0) ∧ Aside0 (Drawn0 w wr))
  case atStart => exact ⟨0, Nat.zero_le _, by omega, rfl, ⟨rfl⟩, ⟨Drawn0.refl _⟩⟩
  case round =>
    obtain ⟨kk, hkk, hg, rfl, A, HB⟩ := hrel
    by_cases hlt : kk < l0.length
    · have hltz : (kk : Int) < (l0.length : Int) := by omega
      obtain ⟨ad, v, rfl, hcell, hK⟩ := Kd.C_one rfl (Kd.C_below HR.out HB.out.below) kk hlt rfl
      have hcall := HP.out wr _ v (HQ.out _ (List.getElem_mem hlt)) hK HB.out.below
      have HK1 := (Kd.int .i64).K_one hK v (by simp)
      have E := Aside0.mk (idxK_drop p l0 kk hlt)
      generalize p l0[kk] = b at hcall E
      clear hK
      cases b with
      | true =>
        go_wp2_with (go_at_fn g; refine hcall.mono ?_; rintro e w' ⟨rfl, hb⟩)
        go_ret
        refine ⟨?_, drawn_trans HB.out hb⟩
        rw [← A.out, E.out]; rfl
      | false =>
        go_wp2_with (go_at_fn g; refine hcall.mono ?_; rintro e w' ⟨rfl, hb⟩)
        go_roundg (l0.length - (kk + 1))
        case measure => omega
        case rel => exact ⟨kk + 1, by omega, by omega, by go_num, ⟨by rw [← A.out, E.out]; rfl⟩, ⟨drawn_trans HB.out hb⟩⟩
    · have hltz : ¬ (kk : Int) < (l0.length : Int) := by omega
      have : kk = l0.length := by omega
      subst this
      go_wp2
      go_ret
      refine ⟨?_, HB.out⟩
      rw [← A.out]; simp [idxK]
/-! ### slices_ContainsFunc_int64_int64: function 120 -/
-- EXTERNAL: by hand
set_option maxHeartbeats 1000000 in
theorem slices_ContainsFunc_int64_int64.calls (g : Nat) (lb : Array Value) (q : Int → Prop) (p : Int → Bool) (eg : ∀ args w, (callFunc g args).run Try.prog w = .ok (.enter g args) w)
    (A0 : Option Addr) (c0 : Nat) (l0 : List Int) (w : World) (hp : PredK Try.prog g lb (Kd.int .i64) q p w) (hq : ∀ x ∈ l0, q x) (hr0 : Kd.C (Kd.int .i64) w A0 l0.length l0) (hm : l0.length ≤ 9223372036854775807) :
    Calls Try.prog 120 #[.slice A0 l0.length c0, .func (.func g) #[] lb] w fun e w' => e = .returned (.bool (l0.any p)) ∧ Below w.heap.size w w' := by
  rw [← idxK_any]
  have HI := slices_IndexFunc_int64_int64.calls g lb q p eg A0 c0 l0 w hp hq hr0 hm
  clear hp hq hr0
  generalize idxK p l0 0 = r at HI ⊢
  go_enter Try.func120, Try.ntmps120
  go_wp2_with (go_at_call 80; refine HI.mono ?_; rintro e w' ⟨rfl, hb⟩)
  go_ret
  exact ⟨rfl, hb⟩
set_option maxHeartbeats 1000000 in
theorem slices_ContainsFunc_int64_int64.callsD (g : Nat) (lb : Array Value) (q : Int → Prop) (p : Int → Bool) (eg : ∀ args w, (callFunc g args).run Try.prog w = .ok (.enter g args) w)
    (A0 : Option Addr) (c0 : Nat) (l0 : List Int) (w : World) (hp : PredD Try.prog g lb (Kd.int .i64) q p w) (hq : ∀ x ∈ l0, q x) (hr0 : Kd.C (Kd.int .i64) w A0 l0.length l0) (hm : l0.length ≤ 9223372036854775807) :
    Calls Try.prog 120 #[.slice A0 l0.length c0, .func (.func g) #[] lb] w fun e w' => e = .returned (.bool (l0.any p)) ∧ Drawn0 w w' := by
  rw [← idxK_any]
  have HI := slices_IndexFunc_int64_int64.callsD g lb q p eg A0 c0 l0 w hp hq hr0 hm
  clear hp hq hr0
  generalize idxK p l0 0 = r at HI ⊢
  go_enter Try.func120, Try.ntmps120
  go_wp2_with (go_at_call 80; refine HI.mono ?_; rintro e w' ⟨rfl, hb⟩)
  go_ret
  exact ⟨rfl, hb⟩
/-! ### impl_Sea_goesOn: function 103 -/
-- EXTERNAL: by hand
-- slices_ContainsFunc_int64_int64
def goesStop (ships list : List Int) (own : Int) : Bool := decide (0 < list.length) && (decide (rd ships list.length = rd ships ((list.length : Int) - 1)) && decide (own ≤ rd list ((list.length : Int) - 1)))
def goesV (ships list : List Int) (own : Int) : Bool := !goesStop ships list own && !list.any (fun x => Go.bits .and .i64 x own != 0)
def impl_Sea_goesOn.f (a0_0 a0_1 : Int) (l0_2 l1 : List Int) (a2 : Int) : Option Bool := if l1.length < l0_2.length ∧ l0_2.length ≤ 1000 then some (goesV l0_2 l1 a2) else none
theorem goesPred (B : Nat) (a2 : Int) (w : World) (hbox : w.heap[B]? = some (.cells #[.int .i64 a2] 2 (0, 0))) :
    PredK Try.prog 121 #[.pointer (some ⟨B, 0, none⟩)] (Kd.int .i64) (fun _ => True) (fun x => Go.bits .and .i64 x a2 != 0) w := by
  intro W x v _ hK hb
  obtain rfl : v = .int .i64 x := by simpa [Kd.int, Kd.scalar] using hK
  show Calls Try.prog 121 #[.int .i64 x, .pointer (some ⟨B, 0, none⟩)] W _
  have hc0 : W.cell? ⟨B, 0, none⟩ = some (.int .i64 a2) := (blk_cell (blk_below hbox hb) 0).trans rfl
  clear hbox hK hb
  go_enter Try.func121, Try.ntmps121
  go_wp2_with fail
  go_ret
  exact ⟨rfl, Below.refl _ _⟩
set_option maxHeartbeats 4000000 in
set_option maxRecDepth 100000 in
theorem impl_Sea_goesOn.calls (a0_0 a0_1 : Int) (A0_2 : Option Addr) (c0_2 : Nat) (l0_2 : List Int) (A1 : Option Addr) (c1 : Nat) (l1 : List Int) (a2 : Int) (r : Bool) (w : World) (hr0_2 : Kd.C (Kd.int .i64) w A0_2 l0_2.length l0_2) (hc0_2 : l0_2.length ≤ c0_2) (hr1 : Kd.C (Kd.int .i64) w A1 l1.length l1) (hc1 : l1.length ≤ c1) (h : impl_Sea_goesOn.f a0_0 a0_1 l0_2 l1 a2 = some r) :
    Calls Try.prog 103 #[.agg #[.int .i64 a0_0, .int .i64 a0_1, .slice A0_2 l0_2.length c0_2], .slice A1 l1.length c1, .int .i64 a2] w fun e w' => e = .returned (.bool r) ∧ Below w.heap.size w w' := by
  have eg : ∀ args w, (callFunc 121 args).run Try.prog w = .ok (.enter 121 args) w := enters_of Try.func121 (by kernel_rfl) rfl
  unfold impl_Sea_goesOn.f at h
  split at h
  case isFalse => cases h
  rename_i hcond
  obtain rfl := Option.some.inj h
  clear h
  have HB := Aside0.mk (Below.refl w.heap.size w)
  have HRa := Aside0.mk hr0_2
  have HRb := Aside0.mk hr1
  have HM := Aside0.mk (show l1.length ≤ 9223372036854775807 by omega)
  have HC := Aside0.mk hcond
  have hu28 := Try.underlying28
  clear hr0_2 hr1 hcond
  by_cases h0 : 0 < l1.length
  case neg =>
    have he : l1.length = 0 := by omega
    have hV : goesV l0_2 l1 a2 = !l1.any (fun x => Go.bits .and .i64 x a2 != 0) := by unfold goesV goesStop; rw [decide_eq_false h0]; rfl
    rw [hV]
    clear hV h0
    have hz := decide_eq_false (show ¬ (0 : Int) < (l1.length : Int) by omega)
    have hzn := decide_eq_false (show ¬ 0 < l1.length by omega)
    generalize hany : l1.any (fun x => Go.bits .and .i64 x a2 != 0) = ba
    have HAny := Aside0.mk hany
    clear hany he
    go_enter Try.func103, Try.ntmps103
    go_wp2_with (first | ((with_reducible refine gate_dst (N := 3) rfl ?_); refine box_event ?hg (N := 3) ?hd (cs := #[.int .i64 a0_0, .int .i64 a0_1, .slice A0_2 l0_2.length c0_2]) (t := 28) ?hr ?_; (case hd => rfl); (case hg => rfl); (case hr => first | (go_simp; done) | (go_simp; rfl)); intro g3 hg3 w1 hbox hb; have HX1 := Aside0.mk hbox; have HB1 := Aside0.mk (below_step HB.out hb); have HRa1 := Aside0.mk (Kd.C_below HRa.out hb); have HRb1 := Aside0.mk (Kd.C_below HRb.out hb); clear hbox hb hg3) | ((with_reducible refine gate_dst (N := 5) rfl ?_); refine box_event ?hg (N := 5) ?hd (cs := #[.int .i64 a2]) (t := 2) ?hr ?_; (case hd => rfl); (case hg => rfl); (case hr => first | (go_simp; done) | (go_simp; rfl)); intro g5 hg5 w2 hbox hb; have HY2 := Aside0.mk hbox; have HX2 := Aside0.mk (blk_below HX1.out hb); have HB2 := Aside0.mk (below_step HB1.out hb); have HRa2 := Aside0.mk (Kd.C_below HRa1.out hb); have HRb2 := Aside0.mk (Kd.C_below HRb1.out hb); clear hbox hb hg5))
    go_quiet (fail)
    go_wp2_with (first | (go_at_call 120; refine (slices_ContainsFunc_int64_int64.calls 121 #[.pointer (some ⟨g5, 0, none⟩)] (fun _ => True) (fun x => Go.bits .and .i64 x a2 != 0) eg A1 c1 l1 _ (goesPred g5 a2 _ (blk_drewN HY2.out nq)) (fun _ _ => trivial) (Kd.C_below HRb2.out (pw_below_drewN (Below.refl _ _) nq)) HM.out).mono ?_; rintro e w4 ⟨rfl, hb⟩; have HB4 := Aside0.mk (below_step (pw_below_drewN HB2.out nq) hb); clear hb))
    go_ret
    exact ⟨by rw [← HAny.out]; rfl, HB4.out⟩
  case pos =>
    obtain ⟨m, hm⟩ : ∃ m : Nat, l1.length = m + 1 := ⟨l1.length - 1, by omega⟩
    obtain ⟨ad, eqa_, _⟩ := Kd.at_int HRa.out (l1.length : Int) (by omega) (by have := HC.out; omega)
    obtain ⟨bd, eqb_, _⟩ := Kd.at_int HRb.out (m : Int) (by omega) (by omega)
    subst eqa_ eqb_
    have hn1 : wrap64 ((l1.length : Int) - 1) = (m : Int) := by have := HC.out; unfold wrap64; omega
    have hz := decide_eq_true (show (0 : Int) < (l1.length : Int) by omega)
    have hzn := decide_eq_true h0
    have q1 := eq_true (show (l1.length : Int) < (l0_2.length : Int) by have := HC.out; omega)
    have q2 := eq_true (show (m : Int) < (l0_2.length : Int) by have := HC.out; omega)
    have q3 := eq_true (show (m : Int) < (l1.length : Int) by omega)
    have q4 := eq_true (show l1.length < l0_2.length by have := HC.out; omega)
    have q5 := eq_true (show m < l0_2.length by have := HC.out; omega)
    have q6 := eq_true (show m < l1.length by omega)
    have q7 := eq_true (show (0 : Int) ≤ (m : Int) by omega)
    have q8 := eq_true (show (0 : Int) ≤ (l1.length : Int) by omega)
    have HV : goesV l0_2 l1 a2 = (!(decide (rd l0_2 (l1.length : Int) = rd l0_2 (m : Int)) && decide (a2 ≤ rd l1 (m : Int))) && !l1.any (fun x => Go.bits .and .i64 x a2 != 0)) := by
      unfold goesV goesStop
      rw [decide_eq_true h0, show ((l1.length : Int) - 1) = (m : Int) by omega]; rfl
    rw [HV]
    clear HV h0
    have HK := fun W (hb : Below w.heap.size w W) => Kd.at_int (Kd.C_below HRa.out hb) (l1.length : Int) (by omega) (by have := HC.out; omega)
    have HK2 := fun W (hb : Below w.heap.size w W) => Kd.at_int (Kd.C_below HRa.out hb) (m : Int) (by omega) (by have := HC.out; omega)
    have HK3 := fun W (hb : Below w.heap.size w W) => Kd.at_int (Kd.C_below HRb.out hb) (m : Int) (by omega) (by omega)
    generalize hany : l1.any (fun x => Go.bits .and .i64 x a2 != 0) = ba
    have HAny := Aside0.mk hany
    clear hany
    generalize rd l0_2 (l1.length : Int) = s1 at *
    generalize rd l0_2 (m : Int) = s2 at *
    generalize rd l1 (m : Int) = lx at *
    have HKa := Aside0.mk HK
    have HKb := Aside0.mk HK2
    have HKc := Aside0.mk HK3
    clear HK HK2 HK3 hm
    by_cases h1 : s1 = s2
    case neg =>
      have h1b : (s1 == s2) = false := beq_eq_false_iff_ne.mpr h1
      rw [decide_eq_false h1]
      go_enter Try.func103, Try.ntmps103
      go_wp2_with (first | ((with_reducible refine gate_dst (N := 3) rfl ?_); refine box_event ?hg (N := 3) ?hd (cs := #[.int .i64 a0_0, .int .i64 a0_1, .slice (some ad) l0_2.length c0_2]) (t := 28) ?hr ?_; (case hd => rfl); (case hg => rfl); (case hr => first | (go_simp; done) | (go_simp; rfl)); intro g3 hg3 w1 hbox hb; have HX1 := Aside0.mk hbox; have HB1 := Aside0.mk (below_step HB.out hb); have HRa1 := Aside0.mk (Kd.C_below HRa.out hb); have HRb1 := Aside0.mk (Kd.C_below HRb.out hb); clear hbox hb hg3) | ((with_reducible refine gate_dst (N := 5) rfl ?_); refine box_event ?hg (N := 5) ?hd (cs := #[.int .i64 a2]) (t := 2) ?hr ?_; (case hd => rfl); (case hg => rfl); (case hr => first | (go_simp; done) | (go_simp; rfl)); intro g5 hg5 w2 hbox hb; have HY2 := Aside0.mk hbox; have HX2 := Aside0.mk (blk_below HX1.out hb); have HB2 := Aside0.mk (below_step HB1.out hb); have HRa2 := Aside0.mk (Kd.C_below HRa1.out hb); have HRb2 := Aside0.mk (Kd.C_below HRb1.out hb); clear hbox hb hg5))
      obtain ⟨ad1, e1, k1⟩ := HKa.out _ HB2.out
      obtain ⟨ad2, e2, k2⟩ := HKb.out _ HB2.out
      obtain ⟨bd1, e3, k3⟩ := HKc.out _ HB2.out
      injection e1 with e1
      injection e2 with e2
      injection e3 with e3
      subst e1 e2 e3
      rw [Int.toNat_natCast] at k1 k2 k3
      have hs2 := (blk_cell HX2.out 2).trans rfl
      have ho0 := (blk_cell HY2.out 0).trans rfl
      go_quiet (fail)
      go_wp2_with (first | (go_at_call 120; refine (slices_ContainsFunc_int64_int64.calls 121 #[.pointer (some ⟨g5, 0, none⟩)] (fun _ => True) (fun x => Go.bits .and .i64 x a2 != 0) eg (some bd) c1 l1 _ (goesPred g5 a2 _ (blk_drewN HY2.out nq)) (fun _ _ => trivial) (Kd.C_below HRb2.out (pw_below_drewN (Below.refl _ _) nq)) HM.out).mono ?_; rintro e w4 ⟨rfl, hb⟩; have HB4 := Aside0.mk (below_step (pw_below_drewN HB2.out nq) hb); clear hb))
      go_ret
      exact ⟨by rw [← HAny.out]; rfl, HB4.out⟩
    case pos =>
      subst h1
      have h1b : (s1 == s1) = true := beq_self_eq_true s1
      rw [decide_eq_true (rfl : s1 = s1)]
      by_cases h2 : a2 ≤ lx
      case pos =>
        have h2b := decide_eq_true h2
        rw [h2b]
        clear h2
        go_enter Try.func103, Try.ntmps103
        go_wp2_with (first | ((with_reducible refine gate_dst (N := 3) rfl ?_); refine box_event ?hg (N := 3) ?hd (cs := #[.int .i64 a0_0, .int .i64 a0_1, .slice (some ad) l0_2.length c0_2]) (t := 28) ?hr ?_; (case hd => rfl); (case hg => rfl); (case hr => first | (go_simp; done) | (go_simp; rfl)); intro g3 hg3 w1 hbox hb; have HX1 := Aside0.mk hbox; have HB1 := Aside0.mk (below_step HB.out hb); have HRa1 := Aside0.mk (Kd.C_below HRa.out hb); have HRb1 := Aside0.mk (Kd.C_below HRb.out hb); clear hbox hb hg3) | ((with_reducible refine gate_dst (N := 5) rfl ?_); refine box_event ?hg (N := 5) ?hd (cs := #[.int .i64 a2]) (t := 2) ?hr ?_; (case hd => rfl); (case hg => rfl); (case hr => first | (go_simp; done) | (go_simp; rfl)); intro g5 hg5 w2 hbox hb; have HY2 := Aside0.mk hbox; have HX2 := Aside0.mk (blk_below HX1.out hb); have HB2 := Aside0.mk (below_step HB1.out hb); have HRa2 := Aside0.mk (Kd.C_below HRa1.out hb); have HRb2 := Aside0.mk (Kd.C_below HRb1.out hb); clear hbox hb hg5))
        obtain ⟨ad1, e1, k1⟩ := HKa.out _ HB2.out
        obtain ⟨ad2, e2, k2⟩ := HKb.out _ HB2.out
        obtain ⟨bd1, e3, k3⟩ := HKc.out _ HB2.out
        injection e1 with e1
        injection e2 with e2
        injection e3 with e3
        subst e1 e2 e3
        rw [Int.toNat_natCast] at k1 k2 k3
        have hs2 := (blk_cell HX2.out 2).trans rfl
        have ho0 := (blk_cell HY2.out 0).trans rfl
        go_quiet (fail)
        go_wp2_with fail
        go_ret
        exact ⟨rfl, pw_below_drewN HB2.out nq⟩
      case neg =>
        have h2b := decide_eq_false h2
        rw [h2b]
        clear h2
        go_enter Try.func103, Try.ntmps103
        go_wp2_with (first | ((with_reducible refine gate_dst (N := 3) rfl ?_); refine box_event ?hg (N := 3) ?hd (cs := #[.int .i64 a0_0, .int .i64 a0_1, .slice (some ad) l0_2.length c0_2]) (t := 28) ?hr ?_; (case hd => rfl); (case hg => rfl); (case hr => first | (go_simp; done) | (go_simp; rfl)); intro g3 hg3 w1 hbox hb; have HX1 := Aside0.mk hbox; have HB1 := Aside0.mk (below_step HB.out hb); have HRa1 := Aside0.mk (Kd.C_below HRa.out hb); have HRb1 := Aside0.mk (Kd.C_below HRb.out hb); clear hbox hb hg3) | ((with_reducible refine gate_dst (N := 5) rfl ?_); refine box_event ?hg (N := 5) ?hd (cs := #[.int .i64 a2]) (t := 2) ?hr ?_; (case hd => rfl); (case hg => rfl); (case hr => first | (go_simp; done) | (go_simp; rfl)); intro g5 hg5 w2 hbox hb; have HY2 := Aside0.mk hbox; have HX2 := Aside0.mk (blk_below HX1.out hb); have HB2 := Aside0.mk (below_step HB1.out hb); have HRa2 := Aside0.mk (Kd.C_below HRa1.out hb); have HRb2 := Aside0.mk (Kd.C_below HRb1.out hb); clear hbox hb hg5))
        obtain ⟨ad1, e1, k1⟩ := HKa.out _ HB2.out
        obtain ⟨ad2, e2, k2⟩ := HKb.out _ HB2.out
        obtain ⟨bd1, e3, k3⟩ := HKc.out _ HB2.out
        injection e1 with e1
        injection e2 with e2
        injection e3 with e3
        subst e1 e2 e3
        rw [Int.toNat_natCast] at k1 k2 k3
        have hs2 := (blk_cell HX2.out 2).trans rfl
        have ho0 := (blk_cell HY2.out 0).trans rfl
        go_quiet (fail)
        go_wp2_with (first | (go_at_call 120; refine (slices_ContainsFunc_int64_int64.calls 121 #[.pointer (some ⟨g5, 0, none⟩)] (fun _ => True) (fun x => Go.bits .and .i64 x a2 != 0) eg (some bd) c1 l1 _ (goesPred g5 a2 _ (blk_drewN HY2.out nq)) (fun _ _ => trivial) (Kd.C_below HRb2.out (pw_below_drewN (Below.refl _ _) nq)) HM.out).mono ?_; rintro e w4 ⟨rfl, hb⟩; have HB4 := Aside0.mk (below_step (pw_below_drewN HB2.out nq) hb); clear hb))
        go_ret
        exact ⟨by rw [← HAny.out]; rfl, HB4.out⟩
-- A literal as a block of its own, and stores into blocks that are new.
section
variable {P : Program} {ops : Array Oper} {rest : List Oper} {o : Oper} {a : Act} {Q : Exit → Act → World → Prop}
theorem lit_event {W : World} (hgd : o.guard = none) {N : Tmp} (_hd : o.dst = some N) {cs : Array Value} {t : TypeId} {n : Nat}
    (hrun : (execOp a.eval o).run P W = .ok (.value (.slice (some ⟨W.heap.size, 0, none⟩) n n)) (W.alloc (.cells cs t (0, 0))))
    (h : ∀ g, g = W.heap.size → ∀ w1, w1.heap[g]? = some (.cells cs t (0, 0)) → Below W.heap.size W w1 → wpList P ops Q rest (a.put o.dst (.slice (some ⟨g, 0, none⟩) n n)) w1) : wpList P ops Q (o :: rest) a W :=
  Kd.event_run hgd hrun (h _ rfl _ (blk_new W _) (below_alloc (Below.refl _ _) _))
end
theorem arr_below {B : Nat} {w W : World} (h : Below B w W) {g : Nat} (hg : B ≤ g) (i : Nat) (u : Value) : Below B w (W.setCell ⟨g, i, none⟩ u) :=
  h.trans ⟨rfl, rfl, rfl, by simp [World.setCell], fun k hk => Below.heap_setCell W ⟨g, i, none⟩ u k (by show k ≠ g; omega)⟩
-- Bits of whole numbers that are not less than 0.
theorem bitv_nat (a : Nat) (ha : a < 9223372036854775808) : (BitVec.ofInt 64 (a : Int)).toNat = a := by
  rw [BitVec.ofInt_natCast, BitVec.toNat_ofNat]; exact Nat.mod_eq_of_lt (by omega)
theorem i64_nat (n : Nat) (h : n < 9223372036854775808) : IntKind.i64.wrap (n : Int) = (n : Int) := by
  rw [i64_w]; unfold wrap64; omega
theorem bits_and_nat (a b : Nat) (ha : a < 9223372036854775808) (hb : b < 9223372036854775808) : Go.bits .and .i64 (a : Int) (b : Int) = ((a &&& b : Nat) : Int) := by
  have hx : a &&& b < 2 ^ 63 := Nat.and_lt_two_pow _ (by omega)
  show IntKind.i64.wrap ((BitVec.ofInt 64 (a : Int) &&& BitVec.ofInt 64 (b : Int)).toNat : Int) = _
  rw [BitVec.toNat_and, bitv_nat a ha, bitv_nat b hb, i64_nat _ (by omega)]
theorem bits_or_nat (a b : Nat) (ha : a < 9223372036854775808) (hb : b < 9223372036854775808) : Go.bits .or .i64 (a : Int) (b : Int) = ((a ||| b : Nat) : Int) := by
  have hx : a ||| b < 2 ^ 63 := Nat.or_lt_two_pow (by omega) (by omega)
  show IntKind.i64.wrap ((BitVec.ofInt 64 (a : Int) ||| BitVec.ofInt 64 (b : Int)).toNat : Int) = _
  rw [BitVec.toNat_or, bitv_nat a ha, bitv_nat b hb, i64_nat _ (by omega)]
theorem shl_nat (i : Nat) (h : i < 63) : shl .i64 1 (i : Int) = ((2 ^ i : Nat) : Int) := by
  unfold shl
  have h1 : min ((i : Int)).toNat IntKind.i64.bits = i := by rw [Int.toNat_natCast]; show min i 64 = i; omega
  rw [h1, Int.one_mul]
  have h2 : (2 : Nat) ^ i < 9223372036854775808 := by
    have : (2 : Nat) ^ i < 2 ^ 63 := Nat.pow_lt_pow_right (by omega) h
    omega
  have h3 : ((2 : Int) ^ i) = ((2 ^ i : Nat) : Int) := by simp
  rw [h3, i64_nat _ h2]
theorem shr_nat (m i : Nat) (h : i ≤ 64) : shr .i64 (m : Int) (i : Int) = ((m >>> i : Nat) : Int) := by
  unfold shr
  have h1 : min ((i : Int)).toNat IntKind.i64.bits = i := by rw [Int.toNat_natCast]; show min i 64 = i; omega
  rw [h1, Nat.shiftRight_eq_div_pow]
  simp
/-- One bit read. -/
theorem bit_nat (m i : Nat) (hm : m < 9223372036854775808) (h : i ≤ 64) : Go.bits .and .i64 (shr .i64 (m : Int) (i : Int)) 1 = if m.testBit i = true then 1 else 0 := by
  rw [shr_nat m i h]
  have hs : m >>> i ≤ m := Nat.shiftRight_le m i
  have := bits_and_nat (m >>> i) 1 (by omega) (by omega)
  rw [show ((1 : Int)) = ((1 : Nat) : Int) from rfl, this]
  unfold Nat.testBit
  rw [Nat.and_comm 1]
  rw [Nat.and_one_is_mod]
  rcases Nat.mod_two_eq_zero_or_one (m >>> i) with e | e <;> rw [e] <;> simp
theorem u64_nat (i : Nat) (h : i < 9223372036854775808) : IntKind.u64.wrap (i : Int) = (i : Int) := by
  show (i : Int) % 18446744073709551616 = i
  omega
/-! ### impl_chosen: function 72 -/
-- EXTERNAL: by hand
def chosenTo (p : Int → Bool) : Nat → List Int
  | 0 => []
  | k + 1 => if p (k : Int) then chosenTo p k ++ [(k : Int)] else chosenTo p k
theorem chosenTo_le (p : Int → Bool) : ∀ k, (chosenTo p k).length ≤ k
  | 0 => Nat.le_refl _
  | k + 1 => by
    have := chosenTo_le p k
    unfold chosenTo
    split
    · simp; omega
    · omega
set_option maxHeartbeats 4000000 in
set_option maxRecDepth 100000 in
theorem impl_chosen.calls (g : Nat) (lb : Array Value) (q : Int → Prop) (p : Int → Bool) (eg : ∀ args w, (callFunc g args).run Try.prog w = .ok (.enter g args) w)
    (n : Int) (w : World) (hp : PredK Try.prog g lb (Kd.int .i64) q p w) (hq : ∀ x, 0 ≤ x → x < n → q x) (hn : n ≤ 17592186044416) :
    Calls Try.prog 72 #[.int .i64 n, .func (.func g) #[] lb] w fun e w' => ∃ v0_ : Value, e = .returned v0_ ∧ Kd.R (Kd.int .i64) 2 w' w.heap.size (fun _ => True) v0_ (chosenTo p n.toNat) ∧ Below w.heap.size w w' := by
  have HP := Aside0.mk hp
  have HQ := Aside0.mk hq
  have HB0 := Aside0.mk (Below.refl w.heap.size w)
  clear hp hq
  go_enter Try.func72, Try.ntmps72
  go_wp2_with (first | ((with_reducible refine gate_dst (N := 7) rfl ?_); refine Kd.R_lit (Kd.int .i64) _ 2 ?hg (N := 7) ?hd (xs := ([] : List Int)) (inner := []) (ok := fun _ => True) (okp := fun _ => True) ?hr ?hp (fun _ hk => hk) trivial (Below.refl _ _) (Nat.le_refl _) (by simp) ?_; (case hd => rfl); (case hg => rfl); (case hr => first | (go_simp; done) | (go_simp; rfl)); (case hp => exact (Reps.none _ _)); intro v0 w0 ho hb hg_ hnew_; have HO0 := Aside0.mk ho; have HBl := Aside0.mk hb; clear hg_ hnew_ ho hb))
  go_loopg [5, 9] n.toNat (fun gg s5 s9 wr => ∃ kk : Nat, (kk : Int) ≤ max n 0 ∧ n.toNat - kk ≤ gg ∧ s9 = .int .i64 kk ∧ Aside0 (Kd.R (Kd.int .i64) 2 wr w.heap.size (fun _ => True) s5 (chosenTo p kk)) ∧ Aside0 (Below w.heap.size w wr))
  case atStart => exact ⟨0, by omega, by omega, rfl, ⟨HO0.out⟩, ⟨HBl.out⟩⟩
  case round =>
    obtain ⟨kk, hkk, hg, rfl, HO, HB⟩ := hrel
    clear HO0 HBl
    by_cases hlt : (kk : Int) < n
    · have hcall := HP.out wr kk (.int .i64 kk) (HQ.out _ (by omega) hlt) rfl HB.out
      have HL := Aside0.mk (chosenTo_le p kk)
      have hs : chosenTo p (kk + 1) = if p kk then chosenTo p kk ++ [(kk : Int)] else chosenTo p kk := rfl
      generalize p kk = b at hcall hs
      generalize chosenTo p kk = xs at HO HL hs
      have HS := Aside0.mk hs
      clear hs
      cases b with
      | true =>
        go_wp2_with (first | (go_at_fn g; refine hcall.mono ?_; rintro e w1 ⟨rfl, hb⟩; have HO1 := Aside0.mk (Kd.R_below HO.out hb); have HB1 := Aside0.mk (below_step HB.out hb); clear hb) | ((with_reducible refine gate_builtin (b := .append) (xs := #[.tmp 15, .tmp 17]) rfl ?_); at_builtin; refine Kd.R_append (Kd.int .i64) (w0 := w) w.heap.size rfl (.tmp 15) (.tmp 17) 22 2 (.int .i64 0) 8 rfl Try.underlying22 info2 rfl (by decide) (by omega) u5 xs (kk : Int) [.int .i64 kk] (fun _ => True) (fun _ => False) rfl rfl ?aP (fun _ hk => hk.elim) ?aF ?aO ?aB ?aS ?aL ?_; (case aP => exact rfl); (case aF => exact (fun _ _ => trivial)); (case aO => exact HO1.out); (case aB => exact HB1.out); (case aS => exact below_size HB1.out); (case aL => have := HL.out; omega); intro v2 w2 ho hb hg hat; have HO2 := Aside0.mk ho; have HB2 := Aside0.mk hb; clear ho hb hg hat))
        go_roundg (n.toNat - (kk + 1))
        case measure => omega
        case rel => exact ⟨kk + 1, by omega, by omega, by go_num, ⟨by rw [HS.out]; exact HO2.out⟩, ⟨HB2.out⟩⟩
      | false =>
        go_wp2_with (go_at_fn g; refine hcall.mono ?_; rintro e w1 ⟨rfl, hb⟩; have HO1 := Aside0.mk (Kd.R_below HO.out hb); have HB1 := Aside0.mk (below_step HB.out hb); clear hb)
        go_roundg (n.toNat - (kk + 1))
        case measure => omega
        case rel => exact ⟨kk + 1, by omega, by omega, by go_num, ⟨by rw [HS.out]; exact HO1.out⟩, ⟨HB1.out⟩⟩
    · have : kk = n.toNat := by omega
      subst this
      go_wp2
      go_ret
      exact ⟨_, rfl, HO.out, HB.out⟩
-- Rising lists; the chosen numbers as one.
/-- Rising from a number on. -/
def Asc : Int → List Int → Prop
  | _, [] => True
  | lo, a :: r => lo ≤ a ∧ Asc (a + 1) r
theorem asc_le : ∀ (l : List Int) (lo : Int), Asc lo l → ∀ z ∈ l, lo ≤ z
  | [], _, _, _, h => by cases h
  | a :: r, lo, h, z, hz => by
    rcases List.mem_cons.1 hz with rfl | hz
    · exact h.1
    · have := asc_le r _ h.2 z hz
      have := h.1
      omega
theorem asc_ext : ∀ (x y : List Int) (lo : Int), Asc lo x → Asc lo y → (∀ z, z ∈ x ↔ z ∈ y) → x = y
  | [], [], _, _, _, _ => rfl
  | [], b :: y, _, _, _, h => by have := (h b).2 (by simp); cases this
  | a :: x, [], _, _, _, h => by have := (h a).1 (by simp); cases this
  | a :: x, b :: y, lo, hx, hy, h => by
    have e : a = b := by
      have h1 := (h a).1 (by simp)
      have h2 := (h b).2 (by simp)
      rcases List.mem_cons.1 h1 with h1 | h1
      · exact h1
      · rcases List.mem_cons.1 h2 with h2 | h2
        · exact h2.symm
        · have := asc_le y _ hy.2 a h1
          have := asc_le x _ hx.2 b h2
          omega
    subst e
    rw [asc_ext x y (a + 1) hx.2 hy.2 (fun z => ?_)]
    have hz := h z
    constructor
    · intro hm
      have := asc_le x _ hx.2 z hm
      rcases List.mem_cons.1 (hz.1 (List.mem_cons_of_mem _ hm)) with e | e
      · omega
      · exact e
    · intro hm
      have := asc_le y _ hy.2 z hm
      rcases List.mem_cons.1 (hz.2 (List.mem_cons_of_mem _ hm)) with e | e
      · omega
      · exact e
theorem asc_snoc : ∀ (l : List Int) (lo b : Int), Asc lo l → (∀ z ∈ l, z < b) → lo ≤ b → Asc lo (l ++ [b])
  | [], _, _, _, _, h => ⟨h, trivial⟩
  | a :: r, lo, b, h, hz, hb => ⟨h.1, asc_snoc r _ b h.2 (fun z hm => hz z (List.mem_cons_of_mem _ hm)) (by have := hz a (by simp); omega)⟩
-- Sorted lists without repetition: what slices.Sort and slices.Compact leave.
open Go.Lib in
theorem compactTo_asc (d : Array Int) (lo : Int) (hs : ∀ i j, i ≤ j → j < d.size → d[i]! ≤ d[j]!) (hlo : ∀ i, i < d.size → lo ≤ d[i]!) :
    ∀ m, m ≤ d.size → Asc lo (compactUpTo d m) ∧ (∀ z, z ∈ compactUpTo d m ↔ ∃ i, i < m ∧ d[i]! = z)
  | 0, _ => ⟨by simp [compactUpTo, Asc], fun z => by simp [compactUpTo]⟩
  | m + 1, hm => by
    obtain ⟨ha, hz⟩ := compactTo_asc d lo hs hlo m (by omega)
    rw [compactUpTo_succ]
    by_cases hk : keeps d m = true
    · rw [if_pos hk]
      constructor
      · refine asc_snoc _ _ _ ha (fun z hzz => ?_) (hlo m (by omega))
        obtain ⟨i, hi, rfl⟩ := (hz z).1 hzz
        have h1 := hs i (m - 1) (by omega) (by omega)
        have h2 := hs (m - 1) m (by omega) (by omega)
        have h3 : d[m]! ≠ d[m - 1]! := by
          simp only [keeps, decide_eq_true_eq] at hk
          rcases hk with h | h
          · omega
          · exact h
        omega
      · intro z
        rw [List.mem_append, hz, List.mem_singleton]
        constructor
        · rintro (⟨i, hi, h⟩ | rfl)
          · exact ⟨i, by omega, h⟩
          · exact ⟨m, by omega, rfl⟩
        · rintro ⟨i, hi, rfl⟩
          by_cases h : i = m
          · subst h; exact .inr rfl
          · exact .inl ⟨i, by omega, rfl⟩
    · rw [if_neg hk, List.append_nil]
      refine ⟨ha, fun z => ?_⟩
      rw [hz]
      simp only [keeps, decide_eq_true_eq, not_or, Decidable.not_not] at hk
      constructor
      · rintro ⟨i, hi, h⟩; exact ⟨i, by omega, h⟩
      · rintro ⟨i, hi, rfl⟩
        by_cases h : i = m
        · subst h; exact ⟨i - 1, by omega, hk.2.symm⟩
        · exact ⟨i, by omega, rfl⟩
/-- Sorted, and each once. -/
def ascOf (xs : List Int) : List Int := Go.Lib.compact (xs.mergeSort fun x y => decide (x ≤ y))
open Go.Lib in
theorem ascOf_asc (xs : List Int) (lo : Int) (hlo : ∀ z ∈ xs, lo ≤ z) : Asc lo (ascOf xs) ∧ ∀ z, z ∈ ascOf xs ↔ z ∈ xs := by
  have hp : (xs.mergeSort fun x y => decide (x ≤ y)).Perm xs := List.mergeSort_perm _ _
  have hsrt : (xs.mergeSort fun x y => decide (x ≤ y)).Pairwise (fun a b => decide (a ≤ b) = true) := List.pairwise_mergeSort (fun a b c h1 h2 => by simp at *; omega) (fun a b => by simp; omega) xs
  unfold ascOf compact
  generalize xs.mergeSort (fun x y => decide (x ≤ y)) = zs at hp hsrt
  have hget : ∀ i, (h : i < zs.length) → zs.toArray[i]! = zs[i] := fun i h => by rw [getElem!_pos _ _ (by simpa using h)]; simp
  have := compactTo_asc zs.toArray lo (fun i j hij hj => by
      have hj' : j < zs.length := by simpa using hj
      rw [hget i (by omega), hget j hj']
      by_cases h : i = j
      · subst h; exact Int.le_refl _
      · have := List.pairwise_iff_getElem.1 hsrt i j (by omega) hj' (by omega)
        simpa using this)
    (fun i hi => by
      have hi' : i < zs.length := by simpa using hi
      rw [hget i hi']
      exact hlo _ (hp.mem_iff.1 (List.getElem_mem _))) zs.length (by simp)
  refine ⟨this.1, fun z => ?_⟩
  rw [this.2, ← hp.mem_iff, List.mem_iff_getElem]
  constructor
  · rintro ⟨i, hi, rfl⟩; exact ⟨i, hi, (hget i hi).symm⟩
  · rintro ⟨i, hi, rfl⟩; exact ⟨i, hi, hget i hi⟩
-- Placements of ships, as sets of cells.
theorem pow60_le : 2 ^ 60 ≤ 9223372036854775808 := by simp
theorem wrap_small {z : Int} (h0 : -1000000000 ≤ z) (h1 : z ≤ 1000000000) : wrap64 z = z := by unfold wrap64; omega
theorem wrap_num {n : Nat} (h : n < 9223372036854775808) : wrap64 (n : Int) = (n : Int) := by unfold wrap64; omega
theorem wrap_add {a b : Nat} (ha : a ≤ 1000) (hb : b ≤ 1000) : wrap64 ((a : Int) + (b : Int)) = ((a + b : Nat) : Int) := by unfold wrap64; omega
theorem wrap_one {a : Nat} (ha : a ≤ 1000) : wrap64 ((a : Int) + 1) = ((a + 1 : Nat) : Int) := by unfold wrap64; omega
theorem wrap_mul {a b c : Nat} (h : a * b = c) (hc : c ≤ 1000) : wrap64 ((a : Int) * (b : Int)) = (c : Int) := by
  rw [← Int.natCast_mul, h]; exact wrap_num (by omega)
theorem wrap_pow {q : Nat} (h : q < 60) : wrap64 ((2 : Int) ^ min q 64) = ((2 ^ q : Nat) : Int) := by
  rw [Nat.min_eq_left (by omega), show (2 : Int) ^ q = ((2 ^ q : Nat) : Int) by rw [Int.natCast_pow]; rfl]
  exact wrap_num (Nat.lt_of_lt_of_le (Nat.pow_lt_pow_right (by omega) h) pow60_le)
/-- The cells c, c + s, .. (n of them), as a set. -/
def rowN (c s : Nat) : Nat → Nat
  | 0 => 0
  | n + 1 => rowN c s n ||| 2 ^ (c + n * s)
theorem rowN_bit (c s : Nat) : ∀ n j, (rowN c s n).testBit j = true ↔ ∃ i, i < n ∧ j = c + i * s
  | 0, j => by simp [rowN]
  | n + 1, j => by
    unfold rowN
    rw [Nat.testBit_or, Bool.or_eq_true, rowN_bit c s n j, Nat.testBit_two_pow]
    simp only [decide_eq_true_eq]
    constructor
    · rintro (⟨i, h, e⟩ | e)
      · exact ⟨i, by omega, e⟩
      · exact ⟨n, by omega, e.symm⟩
    · rintro ⟨i, h, e⟩
      by_cases hi : i = n
      · subst hi; exact .inr e.symm
      · exact .inl ⟨i, by omega, e⟩
theorem rowN_lt (c s n b : Nat) (h : ∀ i, i < n → c + i * s < b) : rowN c s n < 2 ^ b := by
  refine Nat.lt_pow_two_of_testBit _ fun j hj => ?_
  cases hb : (rowN c s n).testBit j with
  | false => rfl
  | true =>
    obtain ⟨i, hi, e⟩ := (rowN_bit c s n j).1 hb
    have := h i hi
    omega
theorem rowN_pos (c s n : Nat) (h : 0 < n) : 0 < rowN c s n := by
  have : (rowN c s n).testBit c = true := (rowN_bit c s n c).2 ⟨0, h, by omega⟩
  rcases Nat.eq_zero_or_pos (rowN c s n) with e | e
  · rw [e] at this; simp at this
  · exact e
/-- Of the two directions the first ones: whether the ship fits, its cells. -/
def placeOk (w h n c j : Nat) : Bool := if j = 0 then decide (c % w + n ≤ w) else decide (c / w + n ≤ h)
def placeSet (w n c j : Nat) : Int := ((rowN c (if j = 0 then 1 else w) n : Nat) : Int)
def placeFew (w h n c : Nat) : Nat → List Int
  | 0 => []
  | j + 1 => if placeOk w h n c j then placeFew w h n c j ++ [placeSet w n c j] else placeFew w h n c j
theorem placeFew_len (w h n c : Nat) : ∀ j, (placeFew w h n c j).length ≤ j
  | 0 => Nat.le_refl _
  | j + 1 => by
    have := placeFew_len w h n c j
    unfold placeFew
    split
    · simp; omega
    · omega
/-- The placements that begin at a cell; all before a cell. -/
def placeAt (w h n c : Nat) : List Int := (if c % w + n ≤ w then [(rowN c 1 n : Int)] else []) ++ (if c / w + n ≤ h then [(rowN c w n : Int)] else [])
def placeTo (w h n : Nat) : Nat → List Int
  | 0 => []
  | k + 1 => placeTo w h n k ++ placeAt w h n k
theorem placeFew_two (w h n c : Nat) : placeFew w h n c 2 = placeAt w h n c := by
  unfold placeAt placeFew placeFew placeFew placeOk placeSet
  by_cases h1 : c % w + n ≤ w <;> by_cases h2 : c / w + n ≤ h <;> simp [h1, h2]
theorem place_small_ {w h : Nat} (hw : w ≤ 5) (hh : h ≤ 5) : w * h ≤ 25 := by
  have := Nat.mul_le_mul hw hh
  omega
theorem placeAt_num {w h n c : Nat} (hw : 1 ≤ w) (hw5 : w ≤ 5) (hh : h ≤ 5) (hn : 1 ≤ n) (hc : c < w * h) : ∀ z ∈ placeAt w h n c, ∃ m : Nat, z = (m : Int) ∧ 0 < m ∧ m < 33554432 := by
  intro z hz
  unfold placeAt at hz
  have hdm := Nat.div_add_mod c w
  have hml := Nat.mod_lt c (show 0 < w by omega)
  have hdh : c / w < h := Nat.div_lt_of_lt_mul hc
  generalize c / w = y at *
  generalize c % w = x at *
  have hwy : w * (y + 1) ≤ w * h := Nat.mul_le_mul_left w hdh
  have hwh : w * h ≤ 25 := by
    have := Nat.mul_le_mul hw5 hh
    omega
  rw [Nat.mul_add, Nat.mul_one] at hwy
  rcases List.mem_append.1 hz with hz | hz
  · split at hz
    · rw [List.mem_singleton] at hz
      subst hz
      refine ⟨_, rfl, rowN_pos _ _ _ hn, rowN_lt c 1 n 25 fun i hi => ?_⟩
      omega
    · cases hz
  · split at hz
    · rw [List.mem_singleton] at hz
      subst hz
      refine ⟨_, rfl, rowN_pos _ _ _ hn, rowN_lt c w n 25 fun i hi => ?_⟩
      rename_i hyn
      have h1 : w * (y + i + 1) ≤ w * h := Nat.mul_le_mul_left w (by omega)
      rw [Nat.mul_add, Nat.mul_add, Nat.mul_one, Nat.mul_comm w i] at h1
      omega
    · cases hz
theorem placeTo_num {w h n : Nat} (hw : 1 ≤ w) (hw5 : w ≤ 5) (hh : h ≤ 5) (hn : 1 ≤ n) : ∀ k, k ≤ w * h → ∀ z ∈ placeTo w h n k, ∃ m : Nat, z = (m : Int) ∧ 0 < m ∧ m < 33554432
  | 0, _, z, hz => by cases hz
  | k + 1, hk, z, hz => by
    rcases List.mem_append.1 hz with hz | hz
    · exact placeTo_num hw hw5 hh hn k (by omega) z hz
    · exact placeAt_num hw hw5 hh hn (by omega) z hz
theorem placeAt_len (w h n c : Nat) : (placeAt w h n c).length ≤ 2 := by
  unfold placeAt
  split <;> split <;> simp
theorem placeTo_len (w h n : Nat) : ∀ k, (placeTo w h n k).length ≤ 2 * k
  | 0 => by simp [placeTo]
  | k + 1 => by
    have := placeTo_len w h n k
    have := placeAt_len w h n k
    simp only [placeTo, List.length_append]
    omega
/-- All placements of a length, ascending. -/
def placesOf (w h n : Nat) : List Int := ascOf (placeTo w h n (w * h))
theorem placesOf_asc {w h n : Nat} (hw : 1 ≤ w) (hw5 : w ≤ 5) (hh : h ≤ 5) (hn : 1 ≤ n) : Asc 0 (placesOf w h n) ∧ ∀ z, z ∈ placesOf w h n ↔ z ∈ placeTo w h n (w * h) :=
  ascOf_asc _ 0 (fun z hz => by obtain ⟨m, e, _⟩ := placeTo_num hw hw5 hh hn _ (Nat.le_refl _) z hz; omega)
theorem placesOf_num {w h n : Nat} (hw : 1 ≤ w) (hw5 : w ≤ 5) (hh : h ≤ 5) (hn : 1 ≤ n) : ∀ z ∈ placesOf w h n, ∃ m : Nat, z = (m : Int) ∧ 0 < m ∧ m < 33554432 :=
  fun z hz => placeTo_num hw hw5 hh hn _ (Nat.le_refl _) z (((placesOf_asc hw hw5 hh hn).2 z).1 hz)
def dirA (j : Nat) : Int := if j = 0 then 1 else 0
def dirB (j : Nat) : Int := if j = 0 then 0 else 1
theorem place_dir {wn hn nn x y kk j : Nat} (hw : 1 ≤ wn ∧ wn ≤ 5 ∧ 1 ≤ hn ∧ hn ≤ 5 ∧ 1 ≤ nn ∧ nn ≤ 5) (hxl : x < wn) (hyl : y < hn) (hx : kk % wn = x) (hy : kk / wn = y) (hj : j < 2) :
    ∃ (eA eB sB fA fB : Int) (st : Nat) (bA bB : Bool), wrap64 (((nn - 1 : Nat) : Int) * dirA j) = eA ∧ wrap64 (((nn - 1 : Nat) : Int) * dirB j) = eB ∧ wrap64 (dirB j * (wn : Int)) = sB ∧ wrap64 (dirA j + sB) = (st : Int) ∧ st = (if j = 0 then 1 else wn) ∧ wrap64 ((x : Int) + eA) = fA ∧ wrap64 ((y : Int) + eB) = fB ∧ decide ((wn : Int) ≤ fA) = bA ∧ decide ((hn : Int) ≤ fB) = bB ∧ placeOk wn hn nn kk j = (!bA && !bB) := by
  obtain ⟨m, hm⟩ : ∃ m, nn - 1 = m := ⟨_, rfl⟩
  rw [hm]
  have h01 : j = 0 ∨ j = 1 := by omega
  rcases h01 with rfl | rfl
  · refine ⟨m, 0, 0, ((x + m : Nat) : Int), y, 1, _, _, ?_, ?_, ?_, ?_, rfl, ?_, ?_, rfl, rfl, ?_⟩
    · show wrap64 ((m : Int) * 1) = _
      rw [Int.mul_one]; exact wrap_small (by omega) (by omega)
    · show wrap64 ((m : Int) * 0) = _
      rw [Int.mul_zero]; exact wrap_small (by omega) (by omega)
    · show wrap64 (0 * (wn : Int)) = _
      rw [Int.zero_mul]; exact wrap_small (by omega) (by omega)
    · exact wrap_small (z := 1) (by omega) (by omega)
    · exact wrap_add (by omega) (by omega)
    · rw [Int.add_zero]; exact wrap_small (by omega) (by omega)
    · unfold placeOk
      rw [if_pos rfl, hx]
      have h1 : decide ((hn : Int) ≤ (y : Int)) = false := decide_eq_false (by omega)
      rw [h1]
      by_cases hq : x + nn ≤ wn
      · rw [decide_eq_true hq, decide_eq_false (by omega)]; rfl
      · rw [decide_eq_false hq, decide_eq_true (by omega)]; rfl
  · refine ⟨0, m, wn, x, ((y + m : Nat) : Int), wn, _, _, ?_, ?_, ?_, ?_, rfl, ?_, ?_, rfl, rfl, ?_⟩
    · show wrap64 ((m : Int) * 0) = _
      rw [Int.mul_zero]; exact wrap_small (by omega) (by omega)
    · show wrap64 ((m : Int) * 1) = _
      rw [Int.mul_one]; exact wrap_small (by omega) (by omega)
    · show wrap64 (1 * (wn : Int)) = _
      rw [Int.one_mul]; exact wrap_small (by omega) (by omega)
    · show wrap64 (0 + (wn : Int)) = _
      rw [Int.zero_add]; exact wrap_small (by omega) (by omega)
    · rw [Int.add_zero]; exact wrap_small (by omega) (by omega)
    · exact wrap_add (by omega) (by omega)
    · unfold placeOk
      rw [if_neg (by omega), hy]
      have h1 : decide ((wn : Int) ≤ (x : Int)) = false := decide_eq_false (by omega)
      rw [h1]
      by_cases hq : y + nn ≤ hn
      · rw [decide_eq_true hq, decide_eq_false (by omega)]; rfl
      · rw [decide_eq_false hq, decide_eq_true (by omega)]; rfl
theorem place_bits {kk st i : Nat} (h : ∀ a, a < i + 1 → kk + a * st < 60) : ∃ (pp qq ee : Nat), wrap64 ((i : Int) * (st : Int)) = (pp : Int) ∧ wrap64 ((kk : Int) + (pp : Int)) = (qq : Int) ∧ shl .i64 1 (qq : Int) = (ee : Int) ∧ wrap64 ((2 : Int) ^ min qq 64) = (ee : Int) ∧ Go.bits .or .i64 ((rowN kk st i : Nat) : Int) (ee : Int) = ((rowN kk st (i + 1) : Nat) : Int) ∧ (0 : Int) ≤ (qq : Int) ∧ ¬ (qq : Int) < 0 := by
  have hi := h i (Nat.lt_succ_self i)
  obtain ⟨pp, hpp⟩ : ∃ pp : Nat, i * st = pp := ⟨_, rfl⟩
  rw [hpp] at hi
  have hr : rowN kk st i < 9223372036854775808 := Nat.lt_of_lt_of_le (rowN_lt kk st i 60 (fun a ha => h a (by omega))) pow60_le
  have he : 2 ^ (kk + pp) < 9223372036854775808 := Nat.lt_of_lt_of_le (Nat.pow_lt_pow_right (by omega) hi) pow60_le
  refine ⟨pp, kk + pp, 2 ^ (kk + pp), wrap_mul hpp (by omega), wrap_add (by omega) (by omega), shl_nat _ (by omega), wrap_pow hi, ?_, by omega, by omega⟩
  rw [bits_or_nat _ _ hr he]
  show _ = ((rowN kk st i ||| 2 ^ (kk + i * st) : Nat) : Int)
  rw [hpp]
theorem place_reach {wn hn nn N kk st j : Nat} (hw : 1 ≤ wn ∧ wn ≤ 5 ∧ 1 ≤ hn ∧ hn ≤ 5 ∧ 1 ≤ nn ∧ nn ≤ 5) (hm : N ≤ 25) (hk : kk ≤ N) (hs : st = (if j = 0 then 1 else wn)) : ∀ i, i < nn → kk + i * st < 60 := by
  intro i hi
  have h3 : st ≤ 5 := by rw [hs]; split <;> omega
  have h4 : i * st ≤ 4 * 5 := Nat.mul_le_mul (by omega) h3
  omega
theorem place_room {wn hn nn N kk j : Nat} (hm : N ≤ 25) (hk : kk ≤ N) (hj : j ≤ 2) : ((placeTo wn hn nn kk ++ placeFew wn hn nn kk j).length + 1) * 8 ≤ 140737488355328 := by
  have h1 := placeTo_len wn hn nn kk
  have h2 := placeFew_len wn hn nn kk j
  rw [List.length_append]
  omega
/-! ### impl_Sea_placements: function 61 -/
-- EXTERNAL: by hand
-- impl_Sea_cells
-- placesOf sort_own wrap_pow bits_or_nat
def impl_Sea_placements.f (a0_0 a0_1 : Int) (l0_2 : List Int) (a1 : Int) : Option (List Int) := if inW a0_0 1 5 = true ∧ inW a0_1 1 5 = true ∧ inW a1 1 5 = true then some (placesOf a0_0.toNat a0_1.toNat a1.toNat) else none
theorem inW_nat {a : Int} (h : inW a 1 5 = true) : ∃ n : Nat, a = (n : Int) ∧ 1 ≤ n ∧ n ≤ 5 := by
  unfold inW at h
  simp only [Bool.and_eq_true, decide_eq_true_eq] at h
  exact ⟨a.toNat, by omega, by omega, by omega⟩
theorem place_small {w h : Nat} (hw : w ≤ 5) (hh : h ≤ 5) : w * h ≤ 25 := by
  have := Nat.mul_le_mul hw hh
  omega
theorem place_rem (c w : Nat) : Int.tmod (c : Int) (w : Int) = ((c % w : Nat) : Int) := by rw [Int.ofNat_tmod]
theorem place_quo (c w : Nat) : Int.tdiv (c : Int) (w : Int) = ((c / w : Nat) : Int) := by rw [Int.ofNat_tdiv]
set_option maxHeartbeats 4000000 in
set_option maxRecDepth 100000 in
theorem impl_Sea_placements.calls (a0_0 a0_1 : Int) (A0_2 : Option Addr) (c0_2 : Nat) (l0_2 : List Int) (a1 : Int) (r : List Int) (w : World) (hr0_2 : Kd.C (Kd.int .i64) w A0_2 l0_2.length l0_2) (hc0_2 : l0_2.length ≤ c0_2) (h : impl_Sea_placements.f a0_0 a0_1 l0_2 a1 = some r) :
    Calls Try.prog 61 #[.agg #[.int .i64 a0_0, .int .i64 a0_1, .slice A0_2 l0_2.length c0_2], .int .i64 a1] w fun e w' => ∃ v0_ : Value, e = .returned v0_ ∧ Kd.R (Kd.int .i64) 2 w' w.heap.size (fun _ => True) v0_ r ∧ Below w.heap.size w w' := by
  unfold impl_Sea_placements.f at h
  split at h
  case isFalse => cases h
  rename_i hcond
  obtain rfl := Option.some.inj h
  clear h
  obtain ⟨wn, rfl, hw1, hw5⟩ := inW_nat hcond.1
  obtain ⟨hn, rfl, hh1, hh5⟩ := inW_nat hcond.2.1
  obtain ⟨nn, rfl, hn1, hn5⟩ := inW_nat hcond.2.2
  simp only [Int.toNat_natCast]
  clear hcond
  have HW := Aside0.mk (show 1 ≤ wn ∧ wn ≤ 5 ∧ 1 ≤ hn ∧ hn ≤ 5 ∧ 1 ≤ nn ∧ nn ≤ 5 from ⟨hw1, hw5, hh1, hh5, hn1, hn5⟩)
  have HM := Aside0.mk (place_small hw5 hh5)
  have hmul : wrap64 ((wn : Int) * (hn : Int)) = ((wn * hn : Nat) : Int) := by
    have h1 := place_small hw5 hh5
    rw [← Int.natCast_mul]
    exact wrap_small (by omega) (by omega)
  unfold placesOf
  obtain ⟨N, hN⟩ : ∃ N, wn * hn = N := ⟨_, rfl⟩
  rw [hN] at hmul HM ⊢
  have HMul := Aside0.mk hmul
  clear hmul
  have HNN := Aside0.mk hN
  clear hN
  have hne2 : ((wn : Int) = 0) = False := eq_false (by omega)
  have hne3 : (wn = 0) = False := eq_false (by omega)
  have HB := Aside0.mk (Below.refl w.heap.size w)
  have HR := Aside0.mk hr0_2
  have HC := Aside0.mk hc0_2
  have hu28 := Try.underlying28
  have hu106 := Try.underlying106
  have hcells : Try.prog.cellsOf 106 = 2 := by kernel_rfl
  have hne0 : ((wn : Int) == 0) = false := beq_eq_false_iff_ne.mpr (by omega)
  have hne1 : ((wn : Int) != 0) = true := bne_iff_ne.mpr (by omega)
  clear hr0_2 hc0_2
  clear hw1 hw5 hh1 hh5 hn1 hn5
  go_enter Try.func61, Try.ntmps61
  go_wp2_with (first | ((with_reducible refine gate_dst (N := 2) rfl ?_); refine box_event ?hg (N := 2) ?hd (cs := #[.int .i64 (wn : Int), .int .i64 (hn : Int), .slice A0_2 l0_2.length c0_2]) (t := 28) ?hr ?_; (case hd => rfl); (case hg => rfl); (case hr => first | (go_simp; done) | (go_simp; rfl)); intro g2 hg2 w1 hbox hb; have HX1 := Aside0.mk hbox; have HB1 := Aside0.mk (below_step HB.out hb); have HRR1 := Aside0.mk (Kd.C_below HR.out hb); have hs0 := (blk_cell hbox 0).trans rfl; have hs1 := (blk_cell hbox 1).trans rfl; have hs2 := (blk_cell hbox 2).trans rfl; clear hbox hb hg2) | ((with_reducible refine gate_dst (N := 13) rfl ?_); refine Kd.R_lit (Kd.int .i64) _ 2 ?hg (N := 13) ?hd (xs := ([] : List Int)) (inner := []) (ok := fun _ => True) (okp := fun _ => True) ?hr ?hp (fun _ hk => hk) trivial (Below.refl _ _) (Nat.le_refl _) (by simp) ?_; (case hd => rfl); (case hg => rfl); (case hr => first | (go_simp; done) | (go_simp; rfl)); (case hp => exact (Reps.none _ _)); intro v0 w2 ho hb hg_ hnew_; clear hg_ hnew_; have HO2 := Aside0.mk (Kd.R_lower ho (below_size HB1.out)); have HX2 := Aside0.mk (blk_below HX1.out hb); have HRR2 := Aside0.mk (Kd.C_below HRR1.out hb); have HB2 := Aside0.mk (below_step HB1.out hb); (try clear hs0 hs1 hs2); have hs0 := (blk_cell HX2.out 0).trans rfl; have hs1 := (blk_cell HX2.out 1).trans rfl; have hs2 := (blk_cell HX2.out 2).trans rfl; clear ho hb HX1 HRR1 HB1) | (go_at_call 73; refine (impl_Sea_cells.calls (wn : Int) (hn : Int) A0_2 c0_2 l0_2 _ _ HRR2.out HC.out rfl).mono ?_; rintro e w3 ⟨rfl, hb⟩; have HO3 := Aside0.mk (Kd.R_below HO2.out hb); have HX3 := Aside0.mk (blk_below HX2.out hb); have HB3 := Aside0.mk (below_step HB2.out hb); clear hs0 hs1 hs2 hb HO2 HX2 HRR2 HB2))
  (try rw [HMul.out])
  go_loopg [5, 16] (N) (fun gg s5 s16 wr => ∃ kk : Nat, kk ≤ N ∧ N - kk ≤ gg ∧ s16 = .int .i64 kk ∧ Aside0 (Kd.R (Kd.int .i64) 2 wr w.heap.size (fun _ => True) s5 (placeTo wn hn nn kk)) ∧ Aside0 (wr.heap[g2]? = some (.cells #[.int .i64 (wn : Int), .int .i64 (hn : Int), .slice A0_2 l0_2.length c0_2] 28 (0, 0))) ∧ Aside0 (Below w.heap.size w wr))
  case atStart => exact ⟨0, by omega, by omega, rfl, HO3, HX3, HB3⟩
  case round =>
    obtain ⟨kk, hkk, hgg, rfl, HO4, HX4, HB4⟩ := hrel
    clear HO3 HX3 HB3
    by_cases hlt : kk < N
    case pos =>
      have hltz : decide ((kk : Int) < (N : Int)) = true := decide_eq_true (by omega)
      have hltn : decide (kk < N) = true := decide_eq_true hlt
      have hltz1 := eq_true (show (kk : Int) < (N : Int) by omega)
      have hs0 := (blk_cell HX4.out 0).trans rfl
      have hs1 := (blk_cell HX4.out 1).trans rfl
      obtain ⟨x, hx⟩ : ∃ x, kk % wn = x := ⟨_, rfl⟩
      obtain ⟨y, hy⟩ : ∃ y, kk / wn = y := ⟨_, rfl⟩
      have HXY := Aside0.mk (show x < wn ∧ y < hn ∧ kk = wn * y + x by
        have h1 := Nat.mod_lt kk (show 0 < wn by have := HW.out; omega)
        have h2 := Nat.div_add_mod kk wn
        have h3 : kk / wn < hn := Nat.div_lt_of_lt_mul (by rw [HNN.out]; exact hlt)
        rw [hx] at h1 h2; rw [hy] at h2 h3; exact ⟨h1, h3, h2.symm⟩)
      have hrem : Int.tmod (kk : Int) (wn : Int) = (x : Int) := by rw [place_rem, hx]
      have hquo : Int.tdiv (kk : Int) (wn : Int) = (y : Int) := by rw [place_quo, hy]
      have hquw : wrap64 (y : Int) = (y : Int) := wrap_num (by have := HXY.out; have := HW.out; omega)
      have HXe := Aside0.mk hx
      have HYe := Aside0.mk hy
      clear hx hy
      go_wp2_with fail
      go_quiet (fail)
      clear hrem hquo
      go_wp2_with (first | ((with_reducible refine gate_dst (N := 29) rfl ?_); refine lit_event ?hg (N := 29) ?hd (cs := #[.int .i64 1, .int .i64 0, .int .i64 0, .int .i64 1]) (t := 106) (n := 2) ?hr ?_; (case hd => rfl); (case hg => rfl); (case hr => first | (go_simp; done) | (go_simp; rfl)); intro g1 hg1 w5 hbox hb; have HL1 := Aside0.mk hbox; have HO1 := Aside0.mk (Kd.R_below (Kd.R_drewN HO4.out nq) hb); have HX1 := Aside0.mk (blk_below (blk_drewN HX4.out nq) hb); have HB1 := Aside0.mk (below_step (pw_below_drewN HB4.out nq) hb); have HG := Aside0.mk (show w.heap.size ≤ g1 by have := below_size (pw_below_drewN HB4.out nq); omega); (try clear hs0 hs1); clear hb hbox hg1 HO4 HX4 HB4))
      clear hquw
      obtain ⟨n1, hn1e⟩ : ∃ n1 : Int, ((nn - 1 : Nat) : Int) = n1 := ⟨_, rfl⟩
      have HN1 := Aside0.mk hn1e
      have HN2 := Aside0.mk (show wrap64 ((nn : Int) - 1) = n1 by rw [← hn1e, show ((nn : Int) - 1) = ((nn - 1 : Nat) : Int) by have := HW.out; omega]; exact wrap_num (by have := HW.out; omega))
      clear hn1e
      go_loopg [5, 31] 2 (fun gg s5 s31 wr => ∃ j : Nat, j ≤ 2 ∧ 2 - j ≤ gg ∧ s31 = .int .i64 j ∧ Aside0 (Kd.R (Kd.int .i64) 2 wr w.heap.size (fun _ => True) s5 (placeTo wn hn nn kk ++ placeFew wn hn nn kk j)) ∧ Aside0 (wr.heap[g2]? = some (.cells #[.int .i64 (wn : Int), .int .i64 (hn : Int), .slice A0_2 l0_2.length c0_2] 28 (0, 0))) ∧ Aside0 (wr.heap[g1]? = some (.cells #[.int .i64 1, .int .i64 0, .int .i64 0, .int .i64 1] 106 (0, 0))) ∧ Aside0 (Below w.heap.size w wr))
      case atStart => exact ⟨0, by omega, by omega, rfl, ⟨by rw [show placeFew wn hn nn kk 0 = [] from rfl, List.append_nil]; exact HO1.out⟩, HX1, HL1, HB1⟩
      case round =>
        obtain ⟨j, hj, hgj, rfl, HO, HX, HL, HB⟩ := hrel
        clear HO1 HX1 HL1 HB1
        (try clear hs0 hs1)
        by_cases hj2 : j < 2
        case pos =>
          have hs0 := (blk_cell HX.out 0).trans rfl
          have hs1 := (blk_cell HX.out 1).trans rfl
          have hjz := decide_eq_true (show (j : Int) < 2 by omega)
          have hjn := decide_eq_true hj2
          have hjp := eq_true (show (j : Int) < 2 by omega)
          have HMe := Aside0.mk (show 2 - (j + 1) < gk by omega)
          have HRe := Aside0.mk (show j + 1 ≤ 2 by omega)
          have HJ1 := Aside0.mk (wrap_one (a := j) (by omega))
          have h01 : j = 0 ∨ j = 1 := by omega
          have hc0 : wr.cell? ⟨g1, j * 2, none⟩ = some (.int .i64 (dirA j)) := (blk_cell HL.out _).trans (by rcases h01 with rfl | rfl <;> rfl)
          have hc1 : wr.cell? ⟨g1, j * 2 + 1, none⟩ = some (.int .i64 (dirB j)) := (blk_cell HL.out _).trans (by rcases h01 with rfl | rfl <;> rfl)
          clear h01
          have HF := place_dir HW.out HXY.out.1 HXY.out.2.1 HXe.out HYe.out hj2
          rw [HN1.out] at HF
          generalize dirA j = dA at hc0 HF
          generalize dirB j = dB at hc1 HF
          obtain ⟨eA, eB, sB, fA, fB, st, bA, bB, heA, heB, hsB, hst, hsj, hfA, hfB, hbA, hbB, hok⟩ := HF
          have hn1 := HN2.out
          have HOK := Aside0.mk hok
          have HSJ := Aside0.mk hsj
          have HFe := Aside0.mk (show placeFew wn hn nn kk (j + 1) = if placeOk wn hn nn kk j then placeFew wn hn nn kk j ++ [placeSet wn nn kk j] else placeFew wn hn nn kk j from rfl)
          clear hok hsj
          cases bA with
          | true =>
            have HE := Aside0.mk (show placeTo wn hn nn kk ++ placeFew wn hn nn kk (j + 1) = placeTo wn hn nn kk ++ placeFew wn hn nn kk j by rw [HFe.out, if_neg (by rw [HOK.out]; simp)])
            go_wp2_with (first | ((with_reducible refine gate_dst (N := 10) rfl ?_); refine box_event ?hg (N := 10) ?hd (cs := #[.int .i64 0, .int .i64 0]) (t := 106) ?hr ?_; (case hd => rfl); (case hg => rfl); (case hr => first | (go_simp; done) | (go_simp; rfl)); intro g9 hg9 w7 hbox hb; have hd0 : w7.cell? ⟨g9, 0, none⟩ = some (.int .i64 0) := (blk_cell hbox 0).trans rfl; have hd1 : w7.cell? ⟨g9, 1, none⟩ = some (.int .i64 0) := (blk_cell hbox 1).trans rfl; have hf0 : w7.frozen? ⟨g9, 0, none⟩ = false := blk_frozen hbox 0; have hf1 : (w7.setCell ⟨g9, 0, none⟩ (.int .i64 dA)).frozen? ⟨g9, 1, none⟩ = false := blk_frozen (blk_set hbox 0 _) 1; have HY0 := Aside0.mk hbox; have HX7 := Aside0.mk (blk_below HX.out hb); have HL7 := Aside0.mk (blk_below HL.out hb); have HO7 := Aside0.mk (Kd.R_below (Kd.R_elderB HO.out g9 (by omega)) hb); have HG9 := Aside0.mk (show w.heap.size ≤ g9 by have := below_size HB.out; omega); have HG19 := Aside0.mk (show g1 ≠ g9 by have := blk_lt HL.out; omega); have HG29 := Aside0.mk (show g2 ≠ g9 by have := blk_lt HX.out; omega); have HB7 := Aside0.mk (below_step HB.out hb); clear hb hbox hg9 hc0 hc1) | ((with_reducible refine gate_store (t := 106) (p := 10) rfl ?_); refine store_event (t := 106) (p := 10) (v := .tmp 34) (w1 := ((w7.setCell ⟨g9, 0, none⟩ (.int .i64 dA)).setCell ⟨g9, 1, none⟩ (.int .i64 dB))) ?hg ?ho ?hn ?hr ?_; (case ho => rfl); (case hg => rfl); (case hn => rfl); (case hr => first | (go_simp; done) | (go_simp; rfl)); intro w8 hw8; have HY := Aside0.mk (show w8.heap[g9]? = some (.cells #[.int .i64 dA, .int .i64 dB] 106 (0, 0)) by rw [hw8]; exact blk_put (blk_put HY0.out 0 _ rfl) 1 _ rfl); have t1_ := blk_far (p := ⟨g9, 1, none⟩) (blk_far (p := ⟨g9, 0, none⟩) HX7.out HG29.out (.int .i64 dA)) HG29.out (.int .i64 dB); rw [← hw8] at t1_; have HX8 := Aside0.mk t1_; clear t1_; have t1_ := blk_far (p := ⟨g9, 1, none⟩) (blk_far (p := ⟨g9, 0, none⟩) HL7.out HG19.out (.int .i64 dA)) HG19.out (.int .i64 dB); rw [← hw8] at t1_; have HL8 := Aside0.mk t1_; clear t1_; have t1_ := Kd.R_far (p := ⟨g9, 1, none⟩) (Kd.R_far (p := ⟨g9, 0, none⟩) HO7.out (fun _ hk => hk.2) (.int .i64 dA)) (fun _ hk => hk.2) (.int .i64 dB); rw [← hw8] at t1_; have HO8 := Aside0.mk t1_; clear t1_; have HB8 := Aside0.mk (show Below w.heap.size w w8 by rw [hw8]; exact arr_below (arr_below HB7.out HG9.out _ _) HG9.out _ _); have hc2 : w8.cell? ⟨g9, 0, none⟩ = some (.int .i64 dA) := (blk_cell HY.out 0).trans rfl; have hc3 : w8.cell? ⟨g9, 1, none⟩ = some (.int .i64 dB) := (blk_cell HY.out 1).trans rfl; have hs0 := (blk_cell HX8.out 0).trans rfl; have hs1 := (blk_cell HX8.out 1).trans rfl; clear hw8 hd0 hd1 hf0 hf1))
            go_roundg (2 - (j + 1))
            case measure => exact HMe.out
            case rel => exact ⟨j + 1, HRe.out, Nat.le_refl _, (by first | rfl | exact congrArg (Value.int .i64) HJ1.out), ⟨by rw [HE.out]; exact Kd.R_mono HO8.out (fun _ hk => hk.1)⟩, HX8, HL8, HB8⟩
          | false =>
            cases bB with
            | true =>
              have HE := Aside0.mk (show placeTo wn hn nn kk ++ placeFew wn hn nn kk (j + 1) = placeTo wn hn nn kk ++ placeFew wn hn nn kk j by rw [HFe.out, if_neg (by rw [HOK.out]; simp)])
              go_wp2_with (first | ((with_reducible refine gate_dst (N := 10) rfl ?_); refine box_event ?hg (N := 10) ?hd (cs := #[.int .i64 0, .int .i64 0]) (t := 106) ?hr ?_; (case hd => rfl); (case hg => rfl); (case hr => first | (go_simp; done) | (go_simp; rfl)); intro g9 hg9 w7 hbox hb; have hd0 : w7.cell? ⟨g9, 0, none⟩ = some (.int .i64 0) := (blk_cell hbox 0).trans rfl; have hd1 : w7.cell? ⟨g9, 1, none⟩ = some (.int .i64 0) := (blk_cell hbox 1).trans rfl; have hf0 : w7.frozen? ⟨g9, 0, none⟩ = false := blk_frozen hbox 0; have hf1 : (w7.setCell ⟨g9, 0, none⟩ (.int .i64 dA)).frozen? ⟨g9, 1, none⟩ = false := blk_frozen (blk_set hbox 0 _) 1; have HY0 := Aside0.mk hbox; have HX7 := Aside0.mk (blk_below HX.out hb); have HL7 := Aside0.mk (blk_below HL.out hb); have HO7 := Aside0.mk (Kd.R_below (Kd.R_elderB HO.out g9 (by omega)) hb); have HG9 := Aside0.mk (show w.heap.size ≤ g9 by have := below_size HB.out; omega); have HG19 := Aside0.mk (show g1 ≠ g9 by have := blk_lt HL.out; omega); have HG29 := Aside0.mk (show g2 ≠ g9 by have := blk_lt HX.out; omega); have HB7 := Aside0.mk (below_step HB.out hb); clear hb hbox hg9 hc0 hc1) | ((with_reducible refine gate_store (t := 106) (p := 10) rfl ?_); refine store_event (t := 106) (p := 10) (v := .tmp 34) (w1 := ((w7.setCell ⟨g9, 0, none⟩ (.int .i64 dA)).setCell ⟨g9, 1, none⟩ (.int .i64 dB))) ?hg ?ho ?hn ?hr ?_; (case ho => rfl); (case hg => rfl); (case hn => rfl); (case hr => first | (go_simp; done) | (go_simp; rfl)); intro w8 hw8; have HY := Aside0.mk (show w8.heap[g9]? = some (.cells #[.int .i64 dA, .int .i64 dB] 106 (0, 0)) by rw [hw8]; exact blk_put (blk_put HY0.out 0 _ rfl) 1 _ rfl); have t1_ := blk_far (p := ⟨g9, 1, none⟩) (blk_far (p := ⟨g9, 0, none⟩) HX7.out HG29.out (.int .i64 dA)) HG29.out (.int .i64 dB); rw [← hw8] at t1_; have HX8 := Aside0.mk t1_; clear t1_; have t1_ := blk_far (p := ⟨g9, 1, none⟩) (blk_far (p := ⟨g9, 0, none⟩) HL7.out HG19.out (.int .i64 dA)) HG19.out (.int .i64 dB); rw [← hw8] at t1_; have HL8 := Aside0.mk t1_; clear t1_; have t1_ := Kd.R_far (p := ⟨g9, 1, none⟩) (Kd.R_far (p := ⟨g9, 0, none⟩) HO7.out (fun _ hk => hk.2) (.int .i64 dA)) (fun _ hk => hk.2) (.int .i64 dB); rw [← hw8] at t1_; have HO8 := Aside0.mk t1_; clear t1_; have HB8 := Aside0.mk (show Below w.heap.size w w8 by rw [hw8]; exact arr_below (arr_below HB7.out HG9.out _ _) HG9.out _ _); have hc2 : w8.cell? ⟨g9, 0, none⟩ = some (.int .i64 dA) := (blk_cell HY.out 0).trans rfl; have hc3 : w8.cell? ⟨g9, 1, none⟩ = some (.int .i64 dB) := (blk_cell HY.out 1).trans rfl; have hs0 := (blk_cell HX8.out 0).trans rfl; have hs1 := (blk_cell HX8.out 1).trans rfl; clear hw8 hd0 hd1 hf0 hf1))
              go_roundg (2 - (j + 1))
              case measure => exact HMe.out
              case rel => exact ⟨j + 1, HRe.out, Nat.le_refl _, (by first | rfl | exact congrArg (Value.int .i64) HJ1.out), ⟨by rw [HE.out]; exact Kd.R_mono HO8.out (fun _ hk => hk.1)⟩, HX8, HL8, HB8⟩
            | false =>
              have HE := Aside0.mk (show placeTo wn hn nn kk ++ placeFew wn hn nn kk (j + 1) = (placeTo wn hn nn kk ++ placeFew wn hn nn kk j) ++ [((rowN kk st nn : Nat) : Int)] by rw [HFe.out, if_pos (by rw [HOK.out]; rfl), List.append_assoc, HSJ.out]; rfl)
              have HLn := Aside0.mk (place_room (hn := hn) (nn := nn) HM.out (Nat.le_of_lt hlt) hj : ((placeTo wn hn nn kk ++ placeFew wn hn nn kk j).length + 1) * 8 ≤ 140737488355328)
              have HKN := Aside0.mk (place_reach HW.out HM.out (Nat.le_of_lt hlt) HSJ.out)
              generalize placeTo wn hn nn kk ++ placeFew wn hn nn kk j = xs at HO HE HLn
              go_wp2_with (first | ((with_reducible refine gate_dst (N := 10) rfl ?_); refine box_event ?hg (N := 10) ?hd (cs := #[.int .i64 0, .int .i64 0]) (t := 106) ?hr ?_; (case hd => rfl); (case hg => rfl); (case hr => first | (go_simp; done) | (go_simp; rfl)); intro g9 hg9 w7 hbox hb; have hd0 : w7.cell? ⟨g9, 0, none⟩ = some (.int .i64 0) := (blk_cell hbox 0).trans rfl; have hd1 : w7.cell? ⟨g9, 1, none⟩ = some (.int .i64 0) := (blk_cell hbox 1).trans rfl; have hf0 : w7.frozen? ⟨g9, 0, none⟩ = false := blk_frozen hbox 0; have hf1 : (w7.setCell ⟨g9, 0, none⟩ (.int .i64 dA)).frozen? ⟨g9, 1, none⟩ = false := blk_frozen (blk_set hbox 0 _) 1; have HY0 := Aside0.mk hbox; have HX7 := Aside0.mk (blk_below HX.out hb); have HL7 := Aside0.mk (blk_below HL.out hb); have HO7 := Aside0.mk (Kd.R_below (Kd.R_elderB HO.out g9 (by omega)) hb); have HG9 := Aside0.mk (show w.heap.size ≤ g9 by have := below_size HB.out; omega); have HG19 := Aside0.mk (show g1 ≠ g9 by have := blk_lt HL.out; omega); have HG29 := Aside0.mk (show g2 ≠ g9 by have := blk_lt HX.out; omega); have HB7 := Aside0.mk (below_step HB.out hb); clear hb hbox hg9 hc0 hc1) | ((with_reducible refine gate_store (t := 106) (p := 10) rfl ?_); refine store_event (t := 106) (p := 10) (v := .tmp 34) (w1 := ((w7.setCell ⟨g9, 0, none⟩ (.int .i64 dA)).setCell ⟨g9, 1, none⟩ (.int .i64 dB))) ?hg ?ho ?hn ?hr ?_; (case ho => rfl); (case hg => rfl); (case hn => rfl); (case hr => first | (go_simp; done) | (go_simp; rfl)); intro w8 hw8; have HY := Aside0.mk (show w8.heap[g9]? = some (.cells #[.int .i64 dA, .int .i64 dB] 106 (0, 0)) by rw [hw8]; exact blk_put (blk_put HY0.out 0 _ rfl) 1 _ rfl); have t1_ := blk_far (p := ⟨g9, 1, none⟩) (blk_far (p := ⟨g9, 0, none⟩) HX7.out HG29.out (.int .i64 dA)) HG29.out (.int .i64 dB); rw [← hw8] at t1_; have HX8 := Aside0.mk t1_; clear t1_; have t1_ := blk_far (p := ⟨g9, 1, none⟩) (blk_far (p := ⟨g9, 0, none⟩) HL7.out HG19.out (.int .i64 dA)) HG19.out (.int .i64 dB); rw [← hw8] at t1_; have HL8 := Aside0.mk t1_; clear t1_; have t1_ := Kd.R_far (p := ⟨g9, 1, none⟩) (Kd.R_far (p := ⟨g9, 0, none⟩) HO7.out (fun _ hk => hk.2) (.int .i64 dA)) (fun _ hk => hk.2) (.int .i64 dB); rw [← hw8] at t1_; have HO8 := Aside0.mk t1_; clear t1_; have HB8 := Aside0.mk (show Below w.heap.size w w8 by rw [hw8]; exact arr_below (arr_below HB7.out HG9.out _ _) HG9.out _ _); have hc2 : w8.cell? ⟨g9, 0, none⟩ = some (.int .i64 dA) := (blk_cell HY.out 0).trans rfl; have hc3 : w8.cell? ⟨g9, 1, none⟩ = some (.int .i64 dB) := (blk_cell HY.out 1).trans rfl; have hs0 := (blk_cell HX8.out 0).trans rfl; have hs1 := (blk_cell HX8.out 1).trans rfl; clear hw8 hd0 hd1 hf0 hf1))
              go_loopg [11, 58] nn (fun gg s11 s58 wr => ∃ i : Nat, i ≤ nn ∧ nn - i ≤ gg ∧ s58 = .int .i64 i ∧ s11 = .int .i64 (rowN kk st i : Nat) ∧ Aside0 (Kd.R (Kd.int .i64) 2 wr w.heap.size (fun _ => True) u5 xs) ∧ Aside0 (wr.heap[g2]? = some (.cells #[.int .i64 (wn : Int), .int .i64 (hn : Int), .slice A0_2 l0_2.length c0_2] 28 (0, 0))) ∧ Aside0 (wr.heap[g1]? = some (.cells #[.int .i64 1, .int .i64 0, .int .i64 0, .int .i64 1] 106 (0, 0))) ∧ Aside0 (wr.heap[g9]? = some (.cells #[.int .i64 dA, .int .i64 dB] 106 (0, 0))) ∧ Aside0 (Below w.heap.size w wr))
              case atStart => exact ⟨0, Nat.zero_le _, Nat.le_refl _, rfl, rfl, ⟨Kd.R_mono HO8.out (fun _ hk => hk.1)⟩, HX8, HL8, HY, HB8⟩
              case round =>
                obtain ⟨i, hi, hgi, rfl, hs11, HOb, HXb, HLb, HYb, HBb⟩ := hrel
                clear HO8 HX8 HL8 HY HB8 HO7 HX7 HL7 HB7 HY0
                (try clear hc2 hc3)
                (try clear hs0 hs1)
                by_cases hin : i < nn
                case pos =>
                  have hs0 := (blk_cell HXb.out 0).trans rfl
                  have hc2 := (blk_cell HYb.out 0).trans rfl
                  have hc3 := (blk_cell HYb.out 1).trans rfl
                  have hizt : (i : Int) < (nn : Int) := Int.ofNat_lt.2 hin
                  have hiz := decide_eq_true hizt
                  have hizn := decide_eq_true hin
                  have hizp := eq_true hizt
                  clear hizt
                  have HMi := Aside0.mk (show nn - (i + 1) < gk from Nat.lt_of_lt_of_le (Nat.sub_lt_sub_left hin (Nat.lt_succ_self i)) hgi)
                  have HJi := Aside0.mk (wrap_one (a := i) (Nat.le_trans (Nat.le_of_lt hin) (Nat.le_trans HW.out.2.2.2.2.2 (by simp))))
                  obtain ⟨pp, qq, ee, hk1, hk2, hk3, hk5, hk4, hq0a, hq1a⟩ := place_bits (kk := kk) (st := st) (i := i) (fun a ha => HKN.out a (Nat.lt_of_lt_of_le ha hin))
                  have hq0 := eq_true hq0a
                  have hq1 := decide_eq_false hq1a
                  have hq2 := eq_false hq1a
                  obtain ⟨o1, ho1⟩ : ∃ o1 : Int, ((rowN kk st i : Nat) : Int) = o1 := ⟨_, rfl⟩
                  obtain ⟨o2, ho2⟩ : ∃ o2 : Int, ((rowN kk st (i + 1) : Nat) : Int) = o2 := ⟨_, rfl⟩
                  rw [ho1, ho2] at hk4
                  rw [ho1] at hs11
                  have HO2e := Aside0.mk ho2
                  have HIN := Aside0.mk hin
                  subst hs11
                  clear ho1 ho2 hq0a hq1a hin
                  go_wp2_with fail
                  go_roundg (nn - (i + 1))
                  case measure => exact HMi.out
                  case rel => exact ⟨i + 1, HIN.out, Nat.le_refl _, (by first | rfl | exact congrArg (Value.int .i64) HJi.out), congrArg (Value.int .i64) HO2e.out.symm, HOb, HXb, HLb, HYb, HBb⟩
                case neg =>
                  have hie : i = nn := Nat.le_antisymm hi (Nat.le_of_not_lt hin)
                  subst hie
                  have hiz := decide_eq_false (show ¬ (i : Int) < (i : Int) from Int.lt_irrefl _)
                  obtain ⟨sN, hsN⟩ : ∃ sN : Int, ((rowN kk st i : Nat) : Int) = sN := ⟨_, rfl⟩
                  rw [hsN] at hs11 HE
                  clear hsN
                  subst hs11
                  go_wp2_with (first | ((with_reducible refine gate_builtin (b := .append) (xs := #[.tmp 77, .tmp 79]) rfl ?_); at_builtin; refine Kd.R_append (Kd.int .i64) (w0 := w) w.heap.size rfl (.tmp 77) (.tmp 79) 22 2 (.int .i64 0) 8 rfl Try.underlying22 info2 rfl (by decide) (by omega) u5 xs (sN : Int) [.int .i64 (sN : Int)] (fun _ => True) (fun _ => False) rfl rfl ?aP (fun _ hk => hk.elim) ?aF ?aO ?aB ?aS ?aL ?_; (case aP => exact rfl); (case aF => exact fun _ _ => trivial); (case aO => exact HOb.out); (case aB => exact HBb.out); (case aS => exact below_size HBb.out); (case aL => exact HLn.out); intro v2 w11 ho hb hg hat; have HO11 := Aside0.mk ho; have HB11 := Aside0.mk hb; have HX11 := Aside0.mk (blk_grown HXb.out hg (Kd.R_ne HOb.out HXb.out (by decide))); have HL11 := Aside0.mk (blk_grown HLb.out hg (Kd.R_ne HOb.out HLb.out (by decide))); clear ho hb hg hat))
                  go_roundg (2 - (j + 1))
                  case measure => exact HMe.out
                  case rel => exact ⟨j + 1, HRe.out, Nat.le_refl _, (by first | rfl | exact congrArg (Value.int .i64) HJ1.out), ⟨by rw [HE.out]; exact HO11.out⟩, HX11, HL11, HB11⟩
        case neg =>
          have hje : j = 2 := by omega
          subst hje
          go_wp2_with fail
          go_roundg (N - (kk + 1))
          case measure => omega
          case rel => have hm25 := HM.out; exact ⟨kk + 1, by omega, by omega, (by first | rfl | exact congrArg (Value.int .i64) (wrap_one (a := kk) (by omega))), ⟨by have h := HO.out; rw [placeFew_two] at h; exact h⟩, HX, HB⟩
    case neg =>
      have hke : N = kk := by omega
      subst hke
      have hnz : decide ((N : Int) < (N : Int)) = false := decide_eq_false (by omega)
      have hnn : decide (N < N) = false := decide_eq_false (by omega)
      have HS0 := Aside0.mk (placeTo_len wn hn nn N)
      have HSO := fun W (ho : Kd.R (Kd.int .i64) 2 W w.heap.size (fun _ => True) u5 (placeTo wn hn nn N)) (hb : Below w.heap.size w W) => sort_own ho hb (by have := HS0.out; have := HM.out; omega)
      go_wp2_with (first | (go_at_call 100; refine (HSO _ HO4.out HB4.out).mono ?_; rintro e w5 ⟨rfl, ho, hb⟩; have HO5 := Aside0.mk ho; have HB5 := Aside0.mk hb; clear ho hb) | (go_at_call 101; refine (compact_own HO5.out HB5.out (by rw [List.length_mergeSort]; have := HS0.out; have := HM.out; omega)).mono ?_; rintro e w6 ⟨v1, rfl, ho, hb⟩; have HO6 := Aside0.mk ho; have HB6 := Aside0.mk hb; clear ho hb))
      go_ret
      exact ⟨_, rfl, HO6.out, HB6.out⟩

end Go.Proofs.Ytiancdhpdjmacaa.F
