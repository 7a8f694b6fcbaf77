-- written by the session's program xp.py over the kit's print program, and by hand; texts joined by pack.py
import Derived.Test.YtiancdhpdjmacaaKFnExactCountAgreeing2
namespace Go.Proofs.Ytiancdhpdjmacaa.F
open Go.RowKit Go.Proofs.YtiancdhpdjmacaaW.PrintWords Go.Proofs.YtiancdhpdjmacaaW.PrintLast Go.Proofs.YtiancdhpdjmacaaW.PrintMore
attribute [local go_sem] max2_int min2_int max_two min_two max_three min_three max_four min_four   -- for this text's walks alone
set_option linter.unusedVariables false
set_option linter.unusedSimpArgs false

-- Fleets: the program's and the reference's judgement are one.
theorem and_or_zero (m a b : Nat) : m &&& (a ||| b) = 0 ↔ m &&& a = 0 ∧ m &&& b = 0 := by
  rw [Nat.and_or_distrib_left]
  exact Nat.or_eq_zero_iff
theorem pow25_le : 33554432 ≤ 9223372036854775808 := by simp
/-- A ship's place among the fleet's numbers. -/
def numAt (fl : List Int) (j : Nat) : Nat := (rd fl (j : Int)).toNat
/-- What has been used by the first ships. -/
def UsedBy (fl : List Int) (i used : Nat) : Prop := used < 33554432 ∧ (∀ j, j < i → ∃ m : Nat, rd fl (j : Int) = (m : Int) ∧ 0 < m ∧ m < 33554432) ∧ ∀ m, m &&& used = 0 ↔ ∀ j, j < i → m &&& numAt fl j = 0
theorem used_zero (fl : List Int) : UsedBy fl 0 0 := ⟨by simp, fun j h => absurd h (Nat.not_lt_zero _), fun m => ⟨fun _ j h => absurd h (Nat.not_lt_zero _), fun _ => Nat.and_zero m⟩⟩
theorem used_step {fl : List Int} {i used m : Nat} (h : UsedBy fl i used) (hm : rd fl (i : Int) = (m : Int)) (h0 : 0 < m) (h1 : m < 33554432) : UsedBy fl (i + 1) (used ||| m) := by
  obtain ⟨h2, h3, h4⟩ := h
  refine ⟨Nat.or_lt_two_pow (n := 25) h2 h1, fun j hj => ?_, fun q => ?_⟩
  · by_cases e : j = i
    · subst e; exact ⟨m, hm, h0, h1⟩
    · exact h3 j (by omega)
  · rw [and_or_zero, h4]
    constructor
    · rintro ⟨ha, hb⟩ j hj
      by_cases e : j = i
      · subst e; unfold numAt; rw [hm, Int.toNat_natCast]; exact hb
      · exact ha j (by omega)
    · intro ha
      refine ⟨fun j hj => ha j (by omega), ?_⟩
      have := ha i (by omega)
      unfold numAt at this
      rw [hm, Int.toNat_natCast] at this
      exact this
theorem rd_take {l : List Int} {i j : Nat} (h : j < i) : rd (l.take i) (j : Int) = rd l (j : Int) := by
  rw [rd_nat, rd_nat, List.getD_eq_getElem?_getD, List.getD_eq_getElem?_getD, List.getElem?_take, if_pos h]
/-- The reference's test of the next ship. -/
def nextOk (ships fl : List Int) (i : Nat) (used : Nat) : Bool := decide (numAt fl i &&& used = 0) && !(decide (0 < i) && (decide (rd ships (i : Int) = rd ships ((i : Int) - 1)) && decide (rd fl (i : Int) < rd fl ((i : Int) - 1))))
theorem next_goes {ships fl : List Int} {i used : Nat} (hu : UsedBy fl i used) (hi : i < fl.length) {m : Nat} (hm : rd fl (i : Int) = (m : Int)) (h0 : 0 < m) (h1 : m < 33554432) : goesV ships (fl.take i) (rd fl (i : Int)) = nextOk ships fl i used := by
  obtain ⟨hu0, hu1, hu2⟩ := hu
  have hnm : numAt fl i = m := by unfold numAt; rw [hm, Int.toNat_natCast]
  have hlen : (fl.take i).length = i := by rw [List.length_take]; omega
  have hany : ((fl.take i).any fun x => Go.bits .and .i64 x (m : Int) != 0) = !decide (m &&& used = 0) := by
    by_cases hz : m &&& used = 0
    · rw [decide_eq_true hz]
      simp only [Bool.not_true]
      rw [List.any_eq_false]
      intro x hx
      obtain ⟨j, hj, rfl⟩ := List.mem_iff_getElem.1 hx
      rw [hlen] at hj
      obtain ⟨mj, e1, e2, e3⟩ := hu1 j hj
      have hz2 := (hu2 m).1 hz j hj
      unfold numAt at hz2
      rw [e1, Int.toNat_natCast] at hz2
      have e4 : (fl.take i)[j]'(by rw [hlen]; exact hj) = (mj : Int) := by
        rw [← rd_get, rd_take hj, e1]
      rw [e4, bits_and_nat _ _ (Nat.lt_of_lt_of_le e3 pow25_le) (Nat.lt_of_lt_of_le h1 pow25_le), Nat.and_comm, hz2]
      simp
    · rw [decide_eq_false hz]
      simp only [Bool.not_false]
      have hz2 := mt (hu2 m).2 hz
      have : ∃ j, j < i ∧ ¬ (m &&& numAt fl j = 0) := by
        apply Classical.byContradiction
        intro hc
        exact hz2 (fun j hj => Classical.byContradiction fun h => hc ⟨j, hj, h⟩)
      obtain ⟨j, hj, hne⟩ := this
      obtain ⟨mj, e1, e2, e3⟩ := hu1 j hj
      unfold numAt at hne
      rw [e1, Int.toNat_natCast] at hne
      rw [List.any_eq_true]
      refine ⟨(mj : Int), ?_, ?_⟩
      · have e4 : (fl.take i)[j]'(by rw [hlen]; exact hj) = (mj : Int) := by
          rw [← rd_get, rd_take hj, e1]
        rw [← e4]
        exact List.getElem_mem _
      · rw [bits_and_nat _ _ (Nat.lt_of_lt_of_le e3 pow25_le) (Nat.lt_of_lt_of_le h1 pow25_le), Nat.and_comm]
        simp only [bne_iff_ne, ne_eq]
        omega
  unfold goesV nextOk goesStop
  rw [hm, hany, hlen, hnm, Bool.not_not]
  by_cases hz : m &&& used = 0
  · rw [decide_eq_true hz, Bool.and_true, Bool.true_and]
    by_cases hi0 : 0 < i
    · obtain ⟨p, rfl⟩ : ∃ p, i = p + 1 := ⟨i - 1, by omega⟩
      have ep : (((p + 1 : Nat) : Int) - 1) = (p : Int) := by omega
      rw [ep, rd_take (Nat.lt_succ_self p)]
      obtain ⟨mp, e1, e2, e3⟩ := hu1 p (Nat.lt_succ_self p)
      have hz2 := (hu2 m).1 hz p (Nat.lt_succ_self p)
      unfold numAt at hz2
      rw [e1, Int.toNat_natCast] at hz2
      have hne : m ≠ mp := by
        intro e
        rw [← e, Nat.and_self] at hz2
        omega
      rw [e1]
      have : decide ((m : Int) ≤ (mp : Int)) = decide ((m : Int) < (mp : Int)) := decide_eq_decide.2 (by omega)
      rw [this]
    · rw [decide_eq_false hi0]; rfl
  · rw [decide_eq_false hz, Bool.and_false, Bool.false_and]
theorem ships_in {l : List Int} : ∀ (d i : Nat), i + d = l.length → shipsFrom l i d = true → ∀ j, i ≤ j → j < l.length → inW (rd l (j : Int)) 1 5 = true
  | 0, i, hd, _, j, h1, h2 => by omega
  | d + 1, i, hd, h, j, h1, h2 => by
    unfold shipsFrom at h
    simp only [Bool.and_eq_true] at h
    by_cases e : j = i
    · subst e; exact h.1.1
    · exact ships_in d (i + 1) (by omega) h.2 j (by omega) h2
theorem placeAt_bound {w h n c : Nat} (hw : 1 ≤ w) (hc : c < w * h) : ∀ z ∈ placeAt w h n c, ∃ m : Nat, z = (m : Int) ∧ m < 2 ^ (w * h) := by
  intro z hz
  unfold placeAt at hz
  have hdm := Nat.div_add_mod c w
  have hml := Nat.mod_lt c (show 0 < w by omega)
  have hdh : c / w < h := Nat.div_lt_of_lt_mul hc
  generalize c / w = y at *
  generalize c % w = x at *
  have hwy : w * (y + 1) ≤ w * h := Nat.mul_le_mul_left w hdh
  rw [Nat.mul_add, Nat.mul_one] at hwy
  rcases List.mem_append.1 hz with hz | hz
  · split at hz
    · rw [List.mem_singleton] at hz
      subst hz
      refine ⟨_, rfl, rowN_lt c 1 n (w * h) fun i hi => ?_⟩
      omega
    · cases hz
  · split at hz
    · rw [List.mem_singleton] at hz
      subst hz
      refine ⟨_, rfl, rowN_lt c w n (w * h) fun i hi => ?_⟩
      rename_i hyn
      have h1 : w * (y + i + 1) ≤ w * h := Nat.mul_le_mul_left w (by omega)
      rw [Nat.mul_add, Nat.mul_add, Nat.mul_one, Nat.mul_comm w i] at h1
      omega
    · cases hz
theorem placeTo_bound {w h n : Nat} (hw : 1 ≤ w) : ∀ k, k ≤ w * h → ∀ z ∈ placeTo w h n k, ∃ m : Nat, z = (m : Int) ∧ m < 2 ^ (w * h)
  | 0, _, z, hz => by cases hz
  | k + 1, hk, z, hz => by
    rcases List.mem_append.1 hz with hz | hz
    · exact placeTo_bound hw k (by omega) z hz
    · exact placeAt_bound hw (by omega) z hz
theorem placesOf_bound {w h n : Nat} (hw : 1 ≤ w) (hw5 : w ≤ 5) (hh : h ≤ 5) (hn : 1 ≤ n) : ∀ z ∈ placesOf w h n, ∃ m : Nat, z = (m : Int) ∧ m < 2 ^ (w * h) :=
  fun z hz => placeTo_bound hw _ (Nat.le_refl _) z (((placesOf_asc hw hw5 hh hn).2 z).1 hz)
def Try.sortedZ_ren : Go.Shelf.Ren := ⟨fun | 6 => 123 | 8 => 139 | 9 => 100 | 11 => 149 | 13 => 118 | 12 => 117 | 23 => 137 | 24 => 138 | 14 => 128 | 15 => 129 | 16 => 130 | 17 => 131 | 18 => 132 | 19 => 133 | 20 => 134 | 21 => 135 | 22 => 136 | 25 => 143 | 26 => 144 | 27 => 145 | 28 => 146 | 29 => 147 | 30 => 148 | 31 => 150 | n => n, fun | 26 => 2 | 28 => 129 | 24 => 22 | 0 => 0 | 3 => 3 | 37 => 123 | 48 => 143 | 50 => 83 | 4 => 4 | 40 => 135 | 39 => 134 | 45 => 140 | 5 => 5 | 9 => 9 | 51 => 148 | 55 => 152 | 57 => 155 | 58 => 156 | 33 => 82 | n => n, fun | n => n⟩
theorem Try.sortedZ : Go.Proofs.SlLaysZI.n6 Try.prog Try.sortedZ_ren := {
  mixed := by kernel_rfl
  f6 := ⟨Try.f123.name, by decide, Try.func123.trans (congrArg some (by kernel_rfl))⟩
  f8 := ⟨Try.f139.name, by decide, Try.func139.trans (congrArg some (by kernel_rfl))⟩
  f11 := ⟨Try.f149.name, by decide, Try.func149.trans (congrArg some (by kernel_rfl))⟩
  t0 := Try.underlying0
  a0 := Try.isAgg0
  z0 := Try.sizeOf0
  v0 := Try.zeroValue0
  t24 := Try.underlying22
  a24 := Try.isAgg22
  z24 := Try.sizeOf22
  v24 := Try.zeroValue22
  t26 := Try.underlying2
  a26 := Try.isAgg2
  z26 := Try.sizeOf2
  v26 := Try.zeroValue2
  t28 := Try.underlying129
  a28 := Try.isAgg129
  z28 := Try.sizeOf129
  v28 := Try.zeroValue129
  i26 := by kernel_rfl }
-- slices.Sorted over slices.Values of no element, by the shelf's contract of slices.Sorted.
-- sort_own
theorem sorts_wide (m : Nat) : AnyZI.SortsIn Try.prog Try.sortedZ_ren Fence.wide m :=
  ⟨fun blk off cap ss W hH hblk hsz => callsIn_wide.2 (AnyG.slices_Sort_int Try.sortI blk off cap ss W hH hblk hsz),
   fun p cap W => callsIn_wide.2 (AnyG.slices_Sort_int_none Try.sortI p cap W)⟩
-- slices.Sorted over slices.Values: the elements, sorted (slices.AppendSeq's walk turned from the kit's worked one over a map's keys).
-- sort_own sorts_wide
set_option maxRecDepth 100000 in
set_option maxHeartbeats 2000000 in
theorem values_gives (n l g c : Nat) (hn : 1 ≤ n) (A : Option Addr) (xs : List Int) (w : World) (hbox : w.heap[g]? = some (.cells #[.slice A xs.length c] 22 (0, 0))) (hC : Kd.C (Kd.int .i64) w A xs.length xs)
    (J : List Int → World → Prop) (hJ : ∀ pre W1, J pre W1 → Below w.heap.size w W1)
    (hY : ∀ pre x W1, J pre W1 → pre.length < xs.length → YieldAt Fence.wide (n - 1) Try.prog l #[encZ x] W1 fun e W' => e = .returned (.bool true) ∧ J (pre ++ [x]) W' ∧ KeepsWalks W1 W')
    (W : World) (h0 : J [] W) :
    CallsIn Fence.wide n Try.prog 140 #[.func (.yield l) #[] #[], .pointer (some ⟨g, 0, none⟩)] W fun e W' => (∃ v, e = .returned v) ∧ J xs W' := by
  have hb := hJ _ _ h0
  have hc0 : W.cell? ⟨g, 0, none⟩ = some (.slice A xs.length c) := (blk_cell (blk_below hbox hb) 0).trans rfl
  have HC := Aside0.mk hC
  have HJ := Aside0.mk hJ
  have HY := Aside0.mk hY
  have HJ0 := Aside0.mk h0
  clear hb hC hJ hY h0 hbox
  refine callsIn_of_wp Try.func140 rfl trivial ?_ rfl
  simp only [Try.ntmps140, List.size_toArray, List.length_cons, List.length_nil, Nat.reduceAdd, Nat.reduceSub, Array.replicate_succ, Array.replicate_zero, List.push_toArray, List.append_toArray, List.nil_append, List.cons_append]
  gi_wp2
  gi_loopg [7] xs.length (fun gg s7 wr => ∃ i : Nat, i ≤ xs.length ∧ xs.length - i ≤ gg ∧ s7 = .int .i64 i ∧ Aside0 (J (xs.take i) wr))
  case atStart => exact ⟨0, by omega, by omega, rfl, HJ0⟩
  case round =>
    obtain ⟨i, hi, hgi, rfl, HJi⟩ := hrel
    by_cases hlt : i < xs.length
    · have hlen := HC.out.2.1
      obtain ⟨ad, rfl, hx⟩ := Kd.at_int (Kd.C_below HC.out (HJ.out _ _ HJi.out)) (i : Int) (by omega) (by omega)
      rw [Int.toNat_natCast] at hx
      have hy := HY.out (xs.take i) (rd xs (i : Int)) wr HJi.out (by rw [List.length_take]; omega)
      have hstep : xs.take i ++ [rd xs (i : Int)] = xs.take (i + 1) := by rw [rd_get xs i hlt, List.take_succ_eq_append_getElem hlt]
      rw [hstep] at hy
      have q1 := decide_eq_true (show (i : Int) < (xs.length : Int) by omega)
      have q2 := decide_eq_true hlt
      have q3 := eq_true (show (i : Int) < (xs.length : Int) by omega)
      have q4 := eq_true (show (0 : Int) ≤ (i : Int) by omega)
      have q5 := eq_true hlt
      clear hstep
      obtain ⟨fn, tmps, assign, body, hyr, hR⟩ := hy
      gi_wp2
      refine hR.mono ?_
      rintro e W3 ⟨rfl, hJ3, hk3⟩
      gi_wp2
      go_roundg (xs.length - (i + 1))
      case measure => omega
      case rel => exact ⟨i + 1, by omega, by omega, by go_num, ⟨hJ3⟩⟩
    · have hie : i = xs.length := by omega
      subst hie
      have q1 := decide_eq_false (show ¬ (xs.length : Int) < (xs.length : Int) by omega)
      gi_wp2
      go_end0
      exact ⟨⟨_, rfl⟩, by have := HJi.out; rwa [List.take_length] at this⟩
set_option maxRecDepth 100000 in
set_option maxHeartbeats 4000000 in
theorem appendVals (n gv c : Nat) (hn : 2 ≤ n) (A : Option Addr) (xs : List Int) (hN : xs.length ≤ maxLen) (hNb : xs.length * 8 ≤ 140737488355328) (w : World) (hbox : w.heap[gv]? = some (.cells #[.slice A xs.length c] 22 (0, 0))) (hC : Kd.C (Kd.int .i64) w A xs.length xs) :
    CallsIn Fence.wide n Try.prog 149 #[.slice none 0 0, .func (.func 140) #[] #[.pointer (some ⟨gv, 0, none⟩)]] w fun e w' => ∃ v : Value, e = .returned v ∧ w'.ownsRow w.heap.size 2 1 v xs.length (xs.map encZ) ∧ Below w.heap.size w w' := by
  have eg : ∀ args w, (callFunc 140 args).run Try.prog w = .ok (.enter 140 args) w := enters_of Try.func140 (by kernel_rfl) rfl
  refine callsIn_of_wp_marks Try.func149 rfl trivial ?_ rfl
  simp only [Try.ntmps149, List.size_toArray, List.length_cons, List.length_nil, Nat.reduceAdd, Nat.reduceSub, Array.replicate_succ, Array.replicate_zero, List.push_toArray, List.append_toArray, List.nil_append, List.cons_append]
  gi_wp2
  refine wpIn_rangeFunc ?_
  intro fn hfn
  rw [show Fence.wide.round = none from rfl]
  obtain ⟨W0, hW0⟩ : ∃ W0, w.alloc (.cells #[.slice none 0 0] 22) = W0 := ⟨_, rfl⟩
  have hs0 : W0.heap.size = w.heap.size + 1 := by rw [← hW0]; simp
  have hv0 : W0.heap[w.heap.size]? = some (.cells #[.slice none 0 0] 22 (0, 0)) := by rw [← hW0]; exact World.alloc_heap_new w _
  have hb0 : Below w.heap.size w W0 := by rw [← hW0]; exact (Below.refl _ w).alloc (Nat.le_refl _) _
  rw [hW0]
  obtain ⟨sv, hsv⟩ : ∃ sv : Value, Value.func (.func 140) #[] #[.pointer (some ⟨gv, 0, none⟩)] = sv := ⟨_, rfl⟩
  obtain ⟨W1, hW1⟩ : ∃ W1, (W0.alloc (.deferred (some []))).alloc (.loop (AnyZI.apRec Try.sortedZ_ren fn sv w.heap.size W0.heap.size .ready none)) = W1 := ⟨_, rfl⟩
  have hold : ∀ k, k < W0.heap.size → W1.heap[k]? = W0.heap[k]? := fun k hk => by
    rw [← hW1]; exact (Below.heap_alloc _ _ k (by simp; omega)).trans (Below.heap_alloc _ _ k hk)
  have hb1 : Below w.heap.size w W1 := by rw [← hW1]; exact (hb0.alloc hb0.size _).alloc (by have := hb0.size; simp; omega) _
  have hs1 : W1.heap.size = W0.heap.size + 2 := by rw [← hW1]; simp
  have hM : AnyZI.ApAt Try.sortedZ_ren w fn sv w.heap.size (W0.heap.size + 1) W0.heap.size [] W1 :=
    ⟨⟨_, (hold w.heap.size (by omega)).trans hv0, ⟨rfl, .inl ⟨rfl, rfl⟩⟩, by simp⟩,
     by rw [← hW1]; have := World.alloc_heap_new (W0.alloc (.deferred (some []))) (.loop (AnyZI.apRec Try.sortedZ_ren fn sv w.heap.size W0.heap.size .ready none)); rwa [World.size_alloc] at this,
     by rw [← hW1]; exact (Below.heap_alloc _ _ _ (by simp)).trans (World.alloc_heap_new W0 _), hb1⟩
  refine ⟨W0.heap.size + 1, [{ target := .collected W0.heap.size, args := #[] }], W1, { target := .fn (.func 140) #[.pointer (some ⟨gv, 0, none⟩)], args := #[.func (.yield (W0.heap.size + 1)) #[] #[]] }, W1, 140,
    #[.func (.yield (W0.heap.size + 1)) #[] #[]] ++ #[.pointer (some ⟨gv, 0, none⟩)], W1, ?_, ?_, ?_, ?_, fun _ => by omega, ?_⟩
  · rw [← hW1, ← hsv]; exact run_enterLoop_outer _ _ _ _ _
  · simp [resolve, go_sem]
  · intro f' hf'; simp [Target.leads] at hf'; subst hf'; trivial
  · simp [invoke, go_sem, eg]
  · refine (values_gives (n - 1) (W0.heap.size + 1) gv c (by omega) A xs w hbox hC (AnyZI.ApAt Try.sortedZ_ren w fn sv w.heap.size (W0.heap.size + 1) W0.heap.size) (fun pre W2 hJ => hJ.below)
      (fun pre x W hJ hl => AnyZI.apYield { Try.sortedZ with } Fence.wide (n - 1 - 1) w fn hfn _ w.heap.size (W0.heap.size + 1) W0.heap.size (by omega) (by omega) (by omega) (Nat.le_refl _) (by omega) xs.length hN hNb pre x W hJ hl) W1 hM).mono ?_
    rintro e W2 ⟨⟨v0, rfl⟩, h2⟩
    obtain ⟨v, hv, hrow, hnil⟩ := h2.box
    have hend := run_endLoop (P := Try.prog) h2.L (by simp [AnyZI.apRec])
    obtain ⟨W3, hW3⟩ : ∃ W3, W2.putObj (W0.heap.size + 1) (.loop { AnyZI.apRec Try.sortedZ_ren fn sv w.heap.size W0.heap.size .ready none with state := .exhausted }) = W3 := ⟨_, rfl⟩
    rw [hW3] at hend
    have hg3 : W2.grownBy W3 (some (W0.heap.size + 1)) := by rw [← hW3]; exact grownBy_putObj_a _ _ _
    have hv3 : W3.heap[w.heap.size]? = some (.cells #[v] 22 (0, 0)) := by rw [← hW3]; exact (World.putObj_heap_other (by omega)).trans hv
    have hK3 : W3.heap[W0.heap.size]? = some (.deferred (some [])) := by rw [← hW3]; exact (World.putObj_heap_other (by omega)).trans h2.K
    have hrow3 := hrow.kept hg3 (ownsRow_ne_a hrow h2.L (fun cur e => by cases e))
    have hb3 : Below w.heap.size w W3 := h2.below.grown hg3 h2.below.size (fun k e => by cases e; omega)
    obtain ⟨hc3, hf3⟩ := cell_of_box_a hv3
    clear hW3
    refine ⟨none, W3, hend, ?_⟩
    gi_wp2
    rw [← hs0]
    refine ⟨by simp, .inl ⟨_, _, rfl, run_takeDeferred hK3, ?_⟩⟩
    exact ⟨_, results_tmp rfl _ _ _, v, rfl, hrow3.kept (grownBy_putObj_a _ _ _) (ownsRow_ne_a hrow3 hK3 (fun cur e => by cases e)), hb3.grown (grownBy_putObj_a _ _ _) hb3.size (fun k e => by cases e; omega)⟩
set_option maxHeartbeats 1000000 in
theorem collect_vals (gv c : Nat) (A : Option Addr) (xs : List Int) (hN : xs.length ≤ 1048576) (w : World) (hbox : w.heap[gv]? = some (.cells #[.slice A xs.length c] 22 (0, 0))) (hC : Kd.C (Kd.int .i64) w A xs.length xs) :
    Calls Try.prog 139 #[.func (.func 140) #[] #[.pointer (some ⟨gv, 0, none⟩)]] w fun e w' => ∃ v : Value, e = .returned v ∧ Kd.R (Kd.int .i64) 2 w' w.heap.size (fun _ => True) v xs ∧ Below w.heap.size w w' := by
  have h := callsIn_wide.1 (appendVals 5 gv c (by omega) A xs (Nat.le_trans hN (by simp [maxLen])) (by omega) w hbox hC)
  clear hbox hC
  go_enter Try.func139, Try.ntmps139
  go_wp2_with (go_at_call 149; refine h.mono ?_; rintro e w1 ⟨v, rfl, ho, hb⟩; have HO := Aside0.mk ho; have HB := Aside0.mk hb; clear ho hb)
  go_ret
  exact ⟨v, rfl, Kd.R_of_own HO.out (fun _ _ => trivial), HB.out⟩
set_option maxHeartbeats 1000000 in
theorem sorted_vals (gv c : Nat) (A : Option Addr) (xs : List Int) (hN : xs.length ≤ 1048576) (w : World) (hbox : w.heap[gv]? = some (.cells #[.slice A xs.length c] 22 (0, 0))) (hC : Kd.C (Kd.int .i64) w A xs.length xs) :
    Calls Try.prog 123 #[.func (.func 140) #[] #[.pointer (some ⟨gv, 0, none⟩)]] w fun e w' => ∃ v : Value, e = .returned v ∧ Kd.R (Kd.int .i64) 2 w' w.heap.size (fun _ => True) v (xs.mergeSort fun x y => decide (x ≤ y)) ∧ Below w.heap.size w w' := by
  have h := collect_vals gv c A xs hN w hbox hC
  clear hbox hC
  go_enter Try.func123, Try.ntmps123
  go_wp2_with (first | (go_at_call 139; refine h.mono ?_; rintro e w1 ⟨v, rfl, ho, hb⟩; have HO := Aside0.mk ho; have HB := Aside0.mk hb; clear ho hb) | (go_at_call 100; refine (sort_own HO.out HB.out (by omega)).mono ?_; rintro e w2 ⟨rfl, ho, hb⟩; have HO2 := Aside0.mk ho; have HB2 := Aside0.mk hb; clear ho hb))
  go_ret
  exact ⟨v, rfl, HO2.out, HB2.out⟩
/-! ### impl_isRising: function 122 -/
def impl_isRising.l0 : Nat → List Int → Int → Int → List Int → Int → Int → Option (Bool)
 | 0, _, _, _, _, _, _ => none
 | k + 1, x0, x1, x2, x9, x10, x11 => if x11 < x10 then (if 0 ≤ x11 then (if x11 < (x9.length : Int) then ((impl_within.f (rd x9 x11) x1 x2).bind fun t527 => (if t527 = true then (if x11 > 0 then (if 0 ≤ (wrap64 (x11 - 1)) then (if (wrap64 (x11 - 1)) < (x0.length : Int) then (if (rd x9 x11) ≤ (rd x0 (wrap64 (x11 - 1))) then (some false) else (impl_isRising.l0 k x0 x1 x2 x9 x10 (wrap64 (x11 + 1)))) else (none)) else (none)) else (impl_isRising.l0 k x0 x1 x2 x9 x10 (wrap64 (x11 + 1)))) else (some false))) else (none)) else (none)) else (some true)
def impl_isRising.f (k : Nat) (l0 : List Int) (a1 : Int) (a2 : Int) : Option (Bool) := impl_isRising.l0 k l0 a1 a2 l0 (l0.length : Int) 0
set_option maxHeartbeats 8000000 in
set_option maxRecDepth 100000 in
theorem impl_isRising.calls (k : Nat) (A0 : Option Addr) (c0 : Nat) (l0 : List Int) (a1 : Int) (a2 : Int) (r : Bool) (w : World) (hr0 : Kd.C (Kd.int .i64) w A0 l0.length l0) (hc0 : l0.length ≤ c0) (h : impl_isRising.f k l0 a1 a2 = some r) :
  Calls Try.prog 122 #[.slice A0 l0.length c0, .int .i64 a1, .int .i64 a2] w fun e w' => e = .returned (.bool r) ∧ Drawn0 w w' := by
 have HR0 := Aside0.mk hr0
 have HC0 := Aside0.mk hc0
 clear hr0 hc0
 have H : (impl_isRising.l0 k l0 a1 a2 l0 (l0.length : Int) 0) = some r := h
 clear h
 have H' := Aside0.mk H
 clear H
 go_enter Try.func122, Try.ntmps122
 go_wp2
 go_loopg [11] k (fun kq v11 w' => ∃ (x11_1 : Int), v11 = .int .i64 x11_1 ∧ Aside0 (impl_isRising.l0 kq l0 a1 a2 l0 (l0.length : Int) x11_1 = some r) ∧ Aside0 (kq ≤ k) ∧ Drawn0 w w')
 case atStart => exact ⟨(0), (by first | rfl | (simp; done) | (simp [*]; done)), H', ⟨Nat.le_refl _⟩, by repeat (first | exact Drawn0.refl _ | apply Drawn0.step)⟩
 case round =>
  clear H'
  (try clear c1); (try clear p2)
  obtain ⟨x11_1, rfl, HA, HK1, ⟨m1, rfl⟩⟩ := hrel
  cases gk with
  | zero => exact absurd HA.out (by simp [impl_isRising.l0])
  | succ k1 =>
   have H := HA.out
   clear HA
   simp only [impl_isRising.l0] at H
   by_cases c4 : x11_1 < (l0.length : Int)
   ·rw [if_pos c4] at H
    have c4b0 : decide (x11_1 < (l0.length : Int)) = true := decide_eq_true c4
    clear c4
    by_cases c5 : 0 ≤ x11_1
    ·rw [if_pos c5] at H
     have c5b0 : decide (0 ≤ x11_1) = true := decide_eq_true c5
     clear c5
     by_cases c6 : x11_1 < (l0.length : Int)
     ·rw [if_pos c6] at H
      have c6b0 : decide (x11_1 < (l0.length : Int)) = true := decide_eq_true c6
      clear c6
      replace H := Option.bind_eq_some_iff.mp H
      obtain ⟨t527, A70, H⟩ := H
      replace H : (if t527 = true then (if x11_1 > 0 then (if 0 ≤ (wrap64 (x11_1 - 1)) then (if (wrap64 (x11_1 - 1)) < (l0.length : Int) then (if (rd l0 x11_1) ≤ (rd l0 (wrap64 (x11_1 - 1))) then (some false) else (impl_isRising.l0 k1 l0 a1 a2 l0 (l0.length : Int) (wrap64 (x11_1 + 1)))) else (none)) else (none)) else (impl_isRising.l0 k1 l0 a1 a2 l0 (l0.length : Int) (wrap64 (x11_1 + 1)))) else (some false)) = some r := H
      have A7 := Aside0.mk A70
      clear A70
      by_cases c8 : t527 = true
      ·subst c8
       have H1 : (if x11_1 > 0 then (if 0 ≤ (wrap64 (x11_1 - 1)) then (if (wrap64 (x11_1 - 1)) < (l0.length : Int) then (if (rd l0 x11_1) ≤ (rd l0 (wrap64 (x11_1 - 1))) then (some false) else (impl_isRising.l0 k1 l0 a1 a2 l0 (l0.length : Int) (wrap64 (x11_1 + 1)))) else (none)) else (none)) else (impl_isRising.l0 k1 l0 a1 a2 l0 (l0.length : Int) (wrap64 (x11_1 + 1)))) = some r := by rw [if_pos rfl] at H; exact H
       clear H
       have H := H1
       clear H1
       by_cases c9 : x11_1 > 0
       ·rw [if_pos c9] at H
        have c9b0 : decide (0 < x11_1) = true := decide_eq_true c9
        clear c9
        obtain ⟨ji10, hji10⟩ : ∃ j_ : Int, (wrap64 (x11_1 - 1)) = j_ := ⟨_, rfl⟩
        replace H : (if 0 ≤ (ji10) then (if (ji10) < (l0.length : Int) then (if (rd l0 x11_1) ≤ (rd l0 (ji10)) then (some false) else (impl_isRising.l0 k1 l0 a1 a2 l0 (l0.length : Int) (wrap64 (x11_1 + 1)))) else (none)) else (none)) = some r := by first | (rw [hji10] at H; exact H) | (simp only [hji10] at H ⊢; exact H)
        (try rw [hji10] at A7)
        have hji10w : (IntKind.i64.wrap (x11_1 - 1)) = ji10 := (i64_w _).trans hji10
        by_cases c11 : 0 ≤ (ji10)
        ·rw [if_pos c11] at H
         have c11b0 : decide (0 ≤ (ji10)) = true := decide_eq_true c11
         clear c11
         by_cases c12 : (ji10) < (l0.length : Int)
         ·rw [if_pos c12] at H
          have c12b0 : decide ((ji10) < (l0.length : Int)) = true := decide_eq_true c12
          clear c12
          by_cases c13 : (rd l0 x11_1) ≤ (rd l0 (ji10))
          ·rw [if_pos c13] at H
           have c13b0 : decide ((rd l0 x11_1) ≤ (rd l0 (ji10))) = true := decide_eq_true c13
           clear c13
           obtain rfl := Option.some.inj H
           have p526 : 0 ≤ (x11_1 : Int) := oda
           have q526 : x11_1 < (l0.length : Int) := oda
           obtain ⟨ad526, e526, hx526_0⟩ := Kd.at_int HR0.out x11_1 p526 q526
           cases e526
           replace p526 := eq_true p526
           replace q526 := eq_true q526
           go_wp2_with (first | ((with_reducible refine gate_callee (f := 60) rfl ?_); refine goesA_ (some 19) rfl rfl Try.func60 (by kernel_rfl) rfl #[.int .i64 (rd l0 x11_1), .int .i64 a1, .int .i64 a2] rfl ?_; (with_reducible refine (impl_within.calls (rd l0 x11_1) a1 a2 true _ A7.out).mono ?_); rintro e w' ⟨rfl, ⟨nd, rfl⟩⟩; refine ⟨_, rfl, ?_⟩; have p528 : 0 ≤ ((ji10) : Int) := oda; have q528 : (ji10) < (l0.length : Int) := oda; obtain ⟨ad528, e528, hx528_0⟩ := Kd.at_int HR0.out (ji10) p528 q528; obtain rfl : ad526 = ad528 := (by injection e528); replace p528 := eq_true p528; replace q528 := eq_true q528))
           go_ret
           exact ⟨by first | rfl | (simp; done) | (simp only [← hji10] <;> (first | rfl | simp)) | (simp [*]; done), by repeat (first | exact Drawn0.refl _ | apply Drawn0.step)⟩
          ·rw [if_neg c13] at H
           have c13b0 : decide ((rd l0 x11_1) ≤ (rd l0 (ji10))) = false := decide_eq_false c13
           clear c13
           have H' := Aside0.mk H
           clear H
           have p526 : 0 ≤ (x11_1 : Int) := oda
           have q526 : x11_1 < (l0.length : Int) := oda
           obtain ⟨ad526, e526, hx526_0⟩ := Kd.at_int HR0.out x11_1 p526 q526
           cases e526
           replace p526 := eq_true p526
           replace q526 := eq_true q526
           go_wp2_with (first | ((with_reducible refine gate_callee (f := 60) rfl ?_); refine goesA_ (some 19) rfl rfl Try.func60 (by kernel_rfl) rfl #[.int .i64 (rd l0 x11_1), .int .i64 a1, .int .i64 a2] rfl ?_; (with_reducible refine (impl_within.calls (rd l0 x11_1) a1 a2 true _ A7.out).mono ?_); rintro e w' ⟨rfl, ⟨nd, rfl⟩⟩; refine ⟨_, rfl, ?_⟩; have p528 : 0 ≤ ((ji10) : Int) := oda; have q528 : (ji10) < (l0.length : Int) := oda; obtain ⟨ad528, e528, hx528_0⟩ := Kd.at_int HR0.out (ji10) p528 q528; obtain rfl : ad526 = ad528 := (by injection e528); replace p528 := eq_true p528; replace q528 := eq_true q528))
           go_roundg k1
           case measure => have := HK1.out; omega
           case rel => exact ⟨(wrap64 (x11_1 + 1)), (by first | rfl | (simp; done) | (simp [*]; done)), H', ⟨by have := HK1.out; omega⟩, by repeat (first | exact Drawn0.refl _ | apply Drawn0.step)⟩
         ·rw [if_neg c12] at H
          exact absurd H (by simp)
        ·rw [if_neg c11] at H
         exact absurd H (by simp)
       ·rw [if_neg c9] at H
        have c9b0 : decide (0 < x11_1) = false := decide_eq_false c9
        clear c9
        have H' := Aside0.mk H
        clear H
        have p526 : 0 ≤ (x11_1 : Int) := oda
        have q526 : x11_1 < (l0.length : Int) := oda
        obtain ⟨ad526, e526, hx526_0⟩ := Kd.at_int HR0.out x11_1 p526 q526
        cases e526
        replace p526 := eq_true p526
        replace q526 := eq_true q526
        go_wp2_with (first | ((with_reducible refine gate_callee (f := 60) rfl ?_); refine goesA_ (some 19) rfl rfl Try.func60 (by kernel_rfl) rfl #[.int .i64 (rd l0 x11_1), .int .i64 a1, .int .i64 a2] rfl ?_; (with_reducible refine (impl_within.calls (rd l0 x11_1) a1 a2 true _ A7.out).mono ?_); rintro e w' ⟨rfl, ⟨nd, rfl⟩⟩; refine ⟨_, rfl, ?_⟩))
        go_roundg k1
        case measure => have := HK1.out; omega
        case rel => exact ⟨(wrap64 (x11_1 + 1)), (by first | rfl | (simp; done) | (simp [*]; done)), H', ⟨by have := HK1.out; omega⟩, by repeat (first | exact Drawn0.refl _ | apply Drawn0.step)⟩
      ·replace c8 := Bool.eq_false_iff.mpr c8
       subst c8
       have H1 : (some false) = some r := by rw [if_neg (show ¬ (false = true) by decide)] at H; exact H
       clear H
       have H := H1
       clear H1
       obtain rfl := Option.some.inj H
       have p526 : 0 ≤ (x11_1 : Int) := oda
       have q526 : x11_1 < (l0.length : Int) := oda
       obtain ⟨ad526, e526, hx526_0⟩ := Kd.at_int HR0.out x11_1 p526 q526
       cases e526
       replace p526 := eq_true p526
       replace q526 := eq_true q526
       go_wp2_with (first | ((with_reducible refine gate_callee (f := 60) rfl ?_); refine goesA_ (some 19) rfl rfl Try.func60 (by kernel_rfl) rfl #[.int .i64 (rd l0 x11_1), .int .i64 a1, .int .i64 a2] rfl ?_; (with_reducible refine (impl_within.calls (rd l0 x11_1) a1 a2 false _ A7.out).mono ?_); rintro e w' ⟨rfl, ⟨nd, rfl⟩⟩; refine ⟨_, rfl, ?_⟩))
       go_ret
       exact ⟨by first | rfl | (simp; done) | (simp [*]; done), by repeat (first | exact Drawn0.refl _ | apply Drawn0.step)⟩
     ·rw [if_neg c6] at H
      exact absurd H (by simp)
    ·rw [if_neg c5] at H
     exact absurd H (by simp)
   ·rw [if_neg c4] at H
    have c4b0 : decide (x11_1 < (l0.length : Int)) = false := decide_eq_false c4
    clear c4
    obtain rfl := Option.some.inj H
    go_wp2
    go_ret
    exact ⟨by first | rfl | (simp; done) | (simp [*]; done), by repeat (first | exact Drawn0.refl _ | apply Drawn0.step)⟩
/-- isRising as a plain function, and what the machine does. -/
def risingFrom (lo hi : Int) : Option Int → List Int → Bool
  | _, [] => true
  | none, x :: r => inW x lo hi && risingFrom lo hi (some x) r
  | some p, x :: r => inW x lo hi && !decide (x ≤ p) && risingFrom lo hi (some x) r
def rising (l : List Int) (lo hi : Int) : Bool := risingFrom lo hi none l
def lastOf (x : List Int) (i : Nat) : Option Int := if i = 0 then none else some (x.getD (i - 1) 0)
theorem rising_l0 (x : List Int) (lo ub : Int) (hx : x.length ≤ 9223372036854775807) : ∀ (d i : Nat), i + d = x.length → Ev (fun k => impl_isRising.l0 k x lo ub x (x.length : Int) i) (risingFrom lo ub (lastOf x i) (x.drop i)) := by
  intro d
  induction d with
  | zero =>
    intro i hi
    refine Ev.step (f := fun _ => some _) (fun k => ?_) (Ev.now _)
    simp only [impl_isRising.l0]
    rw [if_neg (by omega), List.drop_of_length_le (l := x) (by omega)]
    cases lastOf x i <;> rfl
  | succ d ih =>
    intro i hi
    have hlt : i < x.length := by omega
    have e1 : x.drop i = x[i] :: x.drop (i + 1) := List.drop_eq_getElem_cons hlt
    have el : lastOf x (i + 1) = some x[i] := by
      unfold lastOf
      rw [if_neg (by omega), Nat.add_sub_cancel, List.getD_eq_getElem?_getD, List.getElem?_eq_getElem hlt]; rfl
    have ih1 := ih (i + 1) (by omega)
    rw [el] at ih1
    rw [e1]
    by_cases hw : inW x[i] lo ub = true
    · by_cases h0 : i = 0
      · subst h0
        have er : risingFrom lo ub (lastOf x 0) (x[0] :: x.drop 1) = risingFrom lo ub (some x[0]) (x.drop 1) := by
          show (inW x[0] lo ub && _) = _
          rw [hw]; rfl
        rw [er]
        refine Ev.step (fun k => ?_) ih1
        simp only [impl_isRising.l0]
        rw [if_pos (by omega), if_pos (by omega), if_pos (by omega), rd_get x 0 hlt, within_inW, hw, Option.bind_some, if_pos rfl, if_neg (by omega), wrap_next hlt (by omega)]
      · have hp : i - 1 < x.length := by omega
        have el0 : lastOf x i = some x[i - 1] := by
          unfold lastOf
          rw [if_neg h0, List.getD_eq_getElem?_getD, List.getElem?_eq_getElem hp]; rfl
        have ew : wrap64 ((i : Int) - 1) = ((i - 1 : Nat) : Int) := by unfold wrap64; omega
        rw [el0]
        by_cases hc : x[i] ≤ x[i - 1]
        · have er : risingFrom lo ub (some x[i - 1]) (x[i] :: x.drop (i + 1)) = false := by
            show (inW x[i] lo ub && _ && _) = _
            simp [hc]
          rw [er]
          refine Ev.step (f := fun _ => some _) (fun k => ?_) (Ev.now _)
          simp only [impl_isRising.l0]
          rw [if_pos (by omega), if_pos (by omega), if_pos (by omega), rd_get x i hlt, within_inW, hw, Option.bind_some, if_pos rfl, if_pos (by omega), ew, if_pos (by omega), if_pos (by omega), rd_get x (i - 1) hp, if_pos hc]
        · have er : risingFrom lo ub (some x[i - 1]) (x[i] :: x.drop (i + 1)) = risingFrom lo ub (some x[i]) (x.drop (i + 1)) := by
            show (inW x[i] lo ub && _ && _) = _
            simp [hc, hw]
          rw [er]
          refine Ev.step (fun k => ?_) ih1
          simp only [impl_isRising.l0]
          rw [if_pos (by omega), if_pos (by omega), if_pos (by omega), rd_get x i hlt, within_inW, hw, Option.bind_some, if_pos rfl, if_pos (by omega), ew, if_pos (by omega), if_pos (by omega), rd_get x (i - 1) hp, if_neg hc, wrap_next hlt (by omega)]
    · have er : risingFrom lo ub (lastOf x i) (x[i] :: x.drop (i + 1)) = false := by
        cases lastOf x i <;> simp [risingFrom, hw]
      rw [er]
      refine Ev.step (f := fun _ => some _) (fun k => ?_) (Ev.now _)
      simp only [impl_isRising.l0]
      rw [if_pos (by omega), if_pos (by omega), if_pos (by omega), rd_get x i hlt, within_inW, Option.bind_some, if_neg (by simpa using hw)]
theorem rising_ev (x : List Int) (lo hi : Int) (hx : x.length ≤ 9223372036854775807) : Ev (fun k => impl_isRising.f k x lo hi) (rising x lo hi) := by
  have := rising_l0 x lo hi hx x.length 0 (by omega)
  simpa [impl_isRising.f, rising, lastOf] using this
theorem rising_run (A0 : Option Addr) (c0 : Nat) (l0 : List Int) (lo hi : Int) (w : World) (hr0 : Kd.C (Kd.int .i64) w A0 l0.length l0) (hc0 : l0.length ≤ c0) :
    Calls Try.prog 122 #[.slice A0 l0.length c0, .int .i64 lo, .int .i64 hi] w fun e w' => e = .returned (.bool (rising l0 lo hi)) ∧ Drawn0 w w' := by
  obtain ⟨k, hk⟩ := (rising_ev l0 lo hi hr0.2.1).rounds
  exact impl_isRising.calls k A0 c0 l0 lo hi _ w hr0 hc0 hk
/-! ### impl_Sea_areCells: function 107 -/
-- EXTERNAL: by hand
-- impl_Sea_cells impl_isRising
-- sorted_vals rising_run
def impl_Sea_areCells.f (a0_0 a0_1 : Int) (l0_2 l1 : List Int) : Option Bool := if l1.length ≤ 1048576 then some (rising (l1.mergeSort fun x y => decide (x ≤ y)) 0 (wrap64 (wrap64 (a0_0 * a0_1) - 1))) else none
theorem values_run (A : Option Addr) (n c : Nat) (w : World) : Calls Try.prog 124 #[.slice A n c] w fun e w' => ∃ g, e = .returned (.func (.func 140) #[] #[.pointer (some ⟨g, 0, none⟩)]) ∧ w'.heap[g]? = some (.cells #[.slice A n c] 22 (0, 0)) ∧ Below w.heap.size w w' := by
  go_enter Try.func124, Try.ntmps124
  go_wp2_with (first | ((with_reducible refine gate_dst (N := 1) rfl ?_); refine box_event ?hg (N := 1) ?hd (cs := #[.slice A n c]) (t := 22) ?hr ?_; (case hd => rfl); (case hg => rfl); (case hr => first | (go_simp; done) | (go_simp; rfl)); intro g2 hg2 w1 hbox hb; have HX := Aside0.mk hbox; have HB := Aside0.mk hb; clear hbox hb hg2))
  go_ret
  exact ⟨g2, rfl, HX.out, HB.out⟩
def impl_Sea_areCells.T1 : Bool × List (List Nat × List Nat) := (true, [([], []), ([0], [0]), ([1, 1], [1]), ([], []), ([3, 2], [3]), ([4], [4]), ([2, 5, 4], [2, 5]), ([6, 6, 0, 1, 2, 3, 4, 5, 6], [6])])
def impl_Sea_areCells.B1 : List Nat := [0, 1, 3, 0, 15, 31, 63, 127]
theorem impl_Sea_areCells.tab1 : rtab .any (opsOf Try.f107 1) = impl_Sea_areCells.T1 := by kernel_rfl
theorem impl_Sea_areCells.bits1 : waitsOk impl_Sea_areCells.T1.2 impl_Sea_areCells.B1 = true := by kernel_rfl
set_option maxHeartbeats 4000000 in
set_option maxRecDepth 100000 in
theorem impl_Sea_areCells.calls (a0_0 a0_1 : Int) (A0_2 : Option Addr) (c0_2 : Nat) (l0_2 : List Int) (A1 : Option Addr) (c1 : Nat) (l1 : List Int) (r : Bool) (w : World) (hr0_2 : Kd.C (Kd.int .i64) w A0_2 l0_2.length l0_2) (hc0_2 : l0_2.length ≤ c0_2) (hr1 : Kd.C (Kd.int .i64) w A1 l1.length l1) (hc1 : l1.length ≤ c1) (h : impl_Sea_areCells.f a0_0 a0_1 l0_2 l1 = some r) :
    Calls Try.prog 107 #[.agg #[.int .i64 a0_0, .int .i64 a0_1, .slice A0_2 l0_2.length c0_2], .slice A1 l1.length c1] w fun e w' => e = .returned (.bool r) ∧ Below w.heap.size w w' := by
  unfold impl_Sea_areCells.f at h
  split at h
  case isFalse => cases h
  rename_i hl1
  obtain rfl := Option.some.inj h
  clear h
  have HB := Aside0.mk (Below.refl w.heap.size w)
  have HR := Aside0.mk hr0_2
  have HC := Aside0.mk hc0_2
  have HL := Aside0.mk hr1
  have HLn := Aside0.mk hl1
  have hu28 := Try.underlying28
  clear hr0_2 hc0_2 hl1 hr1 hc1
  go_enter Try.func107, Try.ntmps107
  go_wp2_with (first | ((with_reducible refine gate_dst (N := 2) rfl ?_); refine box_event ?hg (N := 2) ?hd (cs := #[.int .i64 a0_0, .int .i64 a0_1, .slice A0_2 l0_2.length c0_2]) (t := 28) ?hr ?_; (case hd => rfl); (case hg => rfl); (case hr => first | (go_simp; done) | (go_simp; rfl)); intro g2 hg2 w1 hbox hb; have HX := Aside0.mk hbox; have HB1 := Aside0.mk (below_step HB.out hb); have HR1 := Aside0.mk (Kd.C_below HR.out hb); have HL1 := Aside0.mk (Kd.C_below HL.out hb); clear hbox hb hg2))
  have n1_ := Aside0.mk (blk_drew HX.out)
  have n2_ := Aside0.mk (below_drew1 HB1.out)
  have n3_ := Aside0.mk (Kd.C_below HR1.out (below_drew1 (Below.refl _ _)))
  have n4_ := Aside0.mk (Kd.C_below HL1.out (below_drew1 (Below.refl _ _)))
  clear HX HB1 HR1 HL1
  refine start_ (n := 8) (S := fun w' => w'.cell? ⟨g2, 0, none⟩ = some (.int .i64 a0_0) ∧ w'.cell? ⟨g2, 1, none⟩ = some (.int .i64 a0_1) ∧ w'.cell? ⟨g2, 2, none⟩ = some (.slice A0_2 l0_2.length c0_2)) (ds := []) #[false, false, false, false, false, false, false, false] (by kernel_rfl) rfl rfl ⟨(blk_cell n1_.out 0).trans rfl, (blk_cell n1_.out 1).trans rfl, (blk_cell n1_.out 2).trans rfl⟩ (fun hHeld => ?_)
  refine with_tabW impl_Sea_areCells.tab1 impl_Sea_areCells.bits1 (fun HT_ HW_ => ?_)
  generalize hq_ : w1.drew = wd_ at n1_ n2_ n3_ n4_ hHeld ⊢
  clear hq_
  refine pure_ (i := 0) (N := some 5) (v := ?_) (a' := ?_) (flg_ 8 1) rfl rfl (any_of HT_.out (by kernel_rfl)) (fun _ _ _ h => h) (Or.inl ⟨by rfl, ?_⟩) ?_ ?_
  rotate_left
  · intro w'
    go_simp
    with_reducible rfl
  rotate_left
  · simp only [Act.put, sz_, s0_, s1_, i64_w, i32_w]
    rfl
  refine take_ (i := 3) (N := some 8) (v := ?_) (a' := ?_) (flg_ 8 9) rfl rfl (take_ofW HT_.out HW_.out (by kernel_rfl)) (fun _ _ _ h => h) (Or.inl ⟨by rfl, ?_⟩) hHeld ?_ ?_
  rotate_left
  · rintro w' ⟨s0_, s1_, s2_⟩
    go_simp
    with_reducible rfl
  rotate_left
  · simp only [Act.put, sz_, s0_, s1_, i64_w, i32_w]
    rfl
  refine one_ (i := 1) (N := some 6) (flg_ 8 11) rfl rfl (one_of HT_.out (by kernel_rfl)) (by decide) (fun K hK => ?_)
  refine goes_ Try.func124 (by kernel_rfl) rfl #[.slice A1 l1.length c1] (by rfl) rfl rfl (by (try simp only [List.map_toArray, List.map_cons, List.map_nil]); first | done | rfl) ?_
  refine (values_run A1 l1.length c1 _).mono ?_
  rintro e wa_ ⟨gv, rfl, hv, hb⟩
  refine ⟨_, rfl, ?_⟩
  have HV := Aside0.mk hv
  clear hv
  have m1_ := Aside0.mk (blk_below n1_.out hb)
  have m2_ := Aside0.mk (below_step n2_.out hb)
  have m3_ := Aside0.mk (Kd.C_below n3_.out hb)
  have m4_ := Aside0.mk (Kd.C_below n4_.out hb)
  clear hb n1_ n2_ n3_ n4_
  have n1_ := m1_
  have n2_ := m2_
  have n3_ := m3_
  have n4_ := m4_
  clear m1_ m2_ m3_ m4_
  refine hK.out _ _ ⟨(blk_cell n1_.out 0).trans rfl, (blk_cell n1_.out 1).trans rfl, (blk_cell n1_.out 2).trans rfl⟩ (fun hHeld => ?_)
  clear hK K
  refine norm_ (a' := ?_) ?_ ?_
  rotate_left
  · show Act.put _ (some 6) _ = _
    simp only [Act.put, sz_, s0_, s1_, i64_w, i32_w]
    rfl
  refine one_ (i := 2) (N := some 7) (flg_ 8 15) rfl rfl (one_of HT_.out (by kernel_rfl)) (by decide) (fun K hK => ?_)
  refine goes_ Try.func123 (by kernel_rfl) rfl #[.func (.func 140) #[] #[.pointer (some ⟨gv, 0, none⟩)]] (by rfl) rfl rfl (by (try simp only [List.map_toArray, List.map_cons, List.map_nil]); first | done | rfl) ?_
  refine (sorted_vals gv c1 A1 l1 HLn.out _ HV.out n4_.out).mono ?_
  rintro e wb_ ⟨v7, rfl, ho, hb⟩
  obtain ⟨A7, c7, e7⟩ := Kd.R_slice ho
  subst e7
  refine ⟨_, rfl, ?_⟩
  clear HV
  have HS7 := Aside0.mk (Kd.R_reads' ho)
  clear ho
  have m1_ := Aside0.mk (blk_below n1_.out hb)
  have m2_ := Aside0.mk (below_step n2_.out hb)
  have m3_ := Aside0.mk (Kd.C_below n3_.out hb)
  have m4_ := Aside0.mk (Kd.C_below n4_.out hb)
  clear hb n1_ n2_ n3_ n4_
  have n1_ := m1_
  have n2_ := m2_
  have n3_ := m3_
  have n4_ := m4_
  clear m1_ m2_ m3_ m4_
  refine hK.out _ _ ⟨(blk_cell n1_.out 0).trans rfl, (blk_cell n1_.out 1).trans rfl, (blk_cell n1_.out 2).trans rfl⟩ (fun hHeld => ?_)
  clear hK K
  refine norm_ (a' := ?_) ?_ ?_
  rotate_left
  · show Act.put _ (some 7) _ = _
    simp only [Act.put, sz_, s0_, s1_, i64_w, i32_w]
    rfl
  refine one_ (i := 4) (N := some 9) (flg_ 8 31) rfl rfl (one_of HT_.out (by kernel_rfl)) (by decide) (fun K hK => ?_)
  refine goes_ Try.func73 (by kernel_rfl) rfl #[.agg #[.int .i64 a0_0, .int .i64 a0_1, .slice A0_2 l0_2.length c0_2]] (by rfl) rfl rfl (by (try simp only [List.map_toArray, List.map_cons, List.map_nil]); first | done | rfl) ?_
  refine (impl_Sea_cells.calls a0_0 a0_1 A0_2 c0_2 l0_2 _ _ n3_.out HC.out rfl).mono ?_
  rintro e wc_ ⟨rfl, hb⟩
  refine ⟨_, rfl, ?_⟩
  have HS8 := Aside0.mk (Kd.C_below HS7.out.2.2 hb)
  have m1_ := Aside0.mk (blk_below n1_.out hb)
  have m2_ := Aside0.mk (below_step n2_.out hb)
  have m3_ := Aside0.mk (Kd.C_below n3_.out hb)
  have m4_ := Aside0.mk (Kd.C_below n4_.out hb)
  clear hb n1_ n2_ n3_ n4_
  have n1_ := m1_
  have n2_ := m2_
  have n3_ := m3_
  have n4_ := m4_
  clear m1_ m2_ m3_ m4_
  refine hK.out _ _ ⟨(blk_cell n1_.out 0).trans rfl, (blk_cell n1_.out 1).trans rfl, (blk_cell n1_.out 2).trans rfl⟩ (fun hHeld => ?_)
  clear hK K
  refine norm_ (a' := ?_) ?_ ?_
  rotate_left
  · show Act.put _ (some 9) _ = _
    simp only [Act.put, sz_, s0_, s1_, i64_w, i32_w]
    rfl
  refine pure_ (i := 5) (N := some 10) (v := ?_) (a' := ?_) (flg_ 8 63) rfl rfl (any_of HT_.out (by kernel_rfl)) (fun _ _ _ h => h) (Or.inl ⟨by rfl, ?_⟩) ?_ ?_
  rotate_left
  · intro w'
    go_simp
    with_reducible rfl
  rotate_left
  · simp only [Act.put, sz_, s0_, s1_, i64_w, i32_w]
    rfl
  refine one_ (i := 6) (N := some 11) (flg_ 8 127) rfl rfl (one_of HT_.out (by kernel_rfl)) (by decide) (fun K hK => ?_)
  refine goes_ Try.func122 (by kernel_rfl) rfl #[.slice A7 (l1.mergeSort fun x y => decide (x ≤ y)).length c7, .int .i64 0, .int .i64 (wrap64 (wrap64 (a0_0 * a0_1) - 1))] (by rfl) rfl rfl (by (try simp only [List.map_toArray, List.map_cons, List.map_nil]); first | done | rfl) ?_
  refine (rising_run A7 c7 (l1.mergeSort fun x y => decide (x ≤ y)) 0 (wrap64 (wrap64 (a0_0 * a0_1) - 1)) _ HS8.out HS7.out.2.1).mono ?_
  rintro e wd_ ⟨rfl, hd⟩
  have hb := hd.below
  clear hd
  refine ⟨_, rfl, ?_⟩
  have m1_ := Aside0.mk (blk_below n1_.out hb)
  have m2_ := Aside0.mk (below_step n2_.out hb)
  have m3_ := Aside0.mk (Kd.C_below n3_.out hb)
  have m4_ := Aside0.mk (Kd.C_below n4_.out hb)
  clear hb n1_ n2_ n3_ n4_
  have n1_ := m1_
  have n2_ := m2_
  have n3_ := m3_
  have n4_ := m4_
  clear m1_ m2_ m3_ m4_
  refine hK.out _ _ ⟨(blk_cell n1_.out 0).trans rfl, (blk_cell n1_.out 1).trans rfl, (blk_cell n1_.out 2).trans rfl⟩ (fun hHeld => ?_)
  clear hK K
  refine norm_ (a' := ?_) ?_ ?_
  rotate_left
  · show Act.put _ (some 11) _ = _
    simp only [Act.put, sz_, s0_, s1_, i64_w, i32_w]
    rfl
  refine pure_ (i := 7) (N := some 4) (v := ?_) (a' := ?_) (flg_ 8 255) rfl rfl (any_of HT_.out (by kernel_rfl)) (fun _ _ _ h => h) (Or.inl ⟨by rfl, ?_⟩) ?_ ?_
  rotate_left
  · intro w'
    go_simp
    with_reducible rfl
  rotate_left
  · simp only [Act.put, sz_, s0_, s1_, i64_w, i32_w]
    rfl
  refine done_ (done_of HT_.out (by kernel_rfl)) ?_
  go_wp2_with fail
  go_ret
  exact ⟨rfl, n2_.out⟩
/-! ### spec_l09Different: function 76 -/
def spec_l09Different.l0 : Nat → List Int → Int → Int → Int → Int → List Int → Option (Bool)
 | 0, _, _, _, _, _, _ => none
 | k + 1, x1, x5, x6, x603000, x603001, x603002 => if x6 < (x1.length : Int) then (if 0 ≤ x6 then ((spec_l01In.f (rd x1 x6) 0 (wrap64 ((wrap64 (x603000 * x603001)) - 1))).bind fun t604 => (if t604 = true then (if 0 ≤ (IntKind.u64.wrap (rd x1 x6)) then (if (Go.bits .and .i64 (shr .i64 x5 (IntKind.u64.wrap (rd x1 x6))) 1) = 1 then (some false) else (spec_l09Different.l0 k x1 (Go.bits .or .i64 x5 (shl .i64 1 (IntKind.u64.wrap (rd x1 x6)))) (wrap64 (x6 + 1)) x603000 x603001 x603002)) else (none)) else (some false))) else (none)) else (some true)
def spec_l09Different.f (k : Nat) (a0_0 : Int) (a0_1 : Int) (l0_2 : List Int) (l1 : List Int) : Option (Bool) := spec_l09Different.l0 k l1 0 0 a0_0 a0_1 l0_2
set_option maxHeartbeats 8000000 in
set_option maxRecDepth 100000 in
theorem spec_l09Different.calls (k : Nat) (a0_0 : Int) (a0_1 : Int) (A0_2 : Option Addr) (c0_2 : Nat) (l0_2 : List Int) (A1 : Option Addr) (c1 : Nat) (l1 : List Int) (r : Bool) (w : World) (hr0_2 : Kd.C (Kd.int .i64) w A0_2 l0_2.length l0_2) (hc0_2 : l0_2.length ≤ c0_2) (hr1 : Kd.C (Kd.int .i64) w A1 l1.length l1) (hc1 : l1.length ≤ c1) (h : spec_l09Different.f k a0_0 a0_1 l0_2 l1 = some r) :
  Calls Try.prog 76 #[.agg #[.int .i64 a0_0, .int .i64 a0_1, .slice A0_2 l0_2.length c0_2], .slice A1 l1.length c1] w fun e w' => e = .returned (.bool r) ∧ Below w.heap.size w w' := by
 have hu28 := Try.underlying28
 have HR0_2 := Aside0.mk hr0_2
 have HC0_2 := Aside0.mk hc0_2
 clear hr0_2 hc0_2
 have HR1 := Aside0.mk hr1
 have HC1 := Aside0.mk hc1
 clear hr1 hc1
 have HB := Aside0.mk (Below.refl w.heap.size w)
 have H : (spec_l09Different.l0 k l1 0 0 a0_0 a0_1 l0_2) = some r := h
 clear h
 have H' := Aside0.mk H
 clear H
 go_enter Try.func76, Try.ntmps76
 go_wp2_with (first | ((with_reducible refine gate_dst (N := 2) rfl ?_); refine box_event ?hg (N := 2) ?hd (cs := #[.int .i64 a0_0, .int .i64 a0_1, .slice A0_2 l0_2.length c0_2]) (t := 28) ?hr ?_; (case hd => rfl); (case hg => rfl); (case hr => first | (go_simp; done) | (go_simp; rfl)); intro gb602 hg w3 hbox hb; have n0_ := Aside0.mk (below_step hb_ hb); have n1_ := Aside0.mk (hbox); have n2_ := Aside0.mk ((by rw [hg]; exact (below_size hb_) : w.heap.size ≤ gb602)); have n3_ := Aside0.mk ((by rw [hg]; exact (below_size hb_) : w.heap.size ≤ gb602)); clear HB; have HB := n0_; have BK602 := n1_; have GW602 := n2_; have GE602 := n3_; clear n0_ n1_ n2_ n3_; clear hb hbox hg))
 repeat (go_quiet (first | ((with_reducible refine gate_dst (N := 2) rfl ?_); refine box_event ?hg (N := 2) ?hd (cs := #[.int .i64 a0_0, .int .i64 a0_1, .slice A0_2 l0_2.length c0_2]) (t := 28) ?hr ?_; (case hd => rfl); (case hg => rfl); (case hr => first | (go_simp; done) | (go_simp; rfl)); intro gb602 hg w3 hbox hb; have n0_ := Aside0.mk (below_step hb_ hb); have n1_ := Aside0.mk (hbox); have n2_ := Aside0.mk ((by rw [hg]; exact (below_size hb_) : w.heap.size ≤ gb602)); have n3_ := Aside0.mk ((by rw [hg]; exact (below_size hb_) : w.heap.size ≤ gb602)); clear HB; have HB := n0_; have BK602 := n1_; have GW602 := n2_; have GE602 := n3_; clear n0_ n1_ n2_ n3_; clear hb hbox hg)); try go_wp2_with (first | ((with_reducible refine gate_dst (N := 2) rfl ?_); refine box_event ?hg (N := 2) ?hd (cs := #[.int .i64 a0_0, .int .i64 a0_1, .slice A0_2 l0_2.length c0_2]) (t := 28) ?hr ?_; (case hd => rfl); (case hg => rfl); (case hr => first | (go_simp; done) | (go_simp; rfl)); intro gb602 hg w3 hbox hb; have n0_ := Aside0.mk (below_step hb_ hb); have n1_ := Aside0.mk (hbox); have n2_ := Aside0.mk ((by rw [hg]; exact (below_size hb_) : w.heap.size ≤ gb602)); have n3_ := Aside0.mk ((by rw [hg]; exact (below_size hb_) : w.heap.size ≤ gb602)); clear HB; have HB := n0_; have BK602 := n1_; have GW602 := n2_; have GE602 := n3_; clear n0_ n1_ n2_ n3_; clear hb hbox hg)))
 go_loopg [5, 6] k (fun kq v5 v6 w' => ∃ (x5_1 : Int) (x6_1 : Int), v5 = .int .i64 x5_1 ∧ v6 = .int .i64 x6_1 ∧ Aside0 (spec_l09Different.l0 kq l1 x5_1 x6_1 a0_0 a0_1 l0_2 = some r) ∧ Aside0 (kq ≤ k) ∧ Aside0 (w'.heap[gb602]? = some (.cells #[.int .i64 a0_0, .int .i64 a0_1, (.slice A0_2 l0_2.length c0_2)] 28 (0, 0))) ∧ Aside0 (Below w.heap.size w w'))
 case atStart => exact ⟨(0), (0), (by first | rfl | (simp; done) | (simp [*]; done)), (by first | rfl | (simp; done) | (simp [*]; done)), H', ⟨Nat.le_refl _⟩, ⟨by (with_reducible repeat (first | refine blk_drewN ?_ _ | refine blk_drew ?_ | refine blk_alloc ?_ _)); exact BK602.out⟩, ⟨by repeat (first | (with_reducible first | exact HB.out | apply below_alloc | apply pw_below_drewN | apply below_drew1 | refine below_set ?_ GE602.out) | exact HB.out)⟩⟩
 case round =>
  clear H'
  (try clear c1); (try clear p2)
  obtain ⟨x5_1, x6_1, rfl, rfl, HA, HK1, BK602, HB⟩ := hrel
  cases gk with
  | zero => exact absurd HA.out (by simp [spec_l09Different.l0])
  | succ k1 =>
   have H := HA.out
   clear HA
   simp only [spec_l09Different.l0] at H
   by_cases c4 : x6_1 < (l1.length : Int)
   ·rw [if_pos c4] at H
    have c4b0 : decide (x6_1 < (l1.length : Int)) = true := decide_eq_true c4
    clear c4
    by_cases c5 : 0 ≤ x6_1
    ·rw [if_pos c5] at H
     have c5b0 : decide (0 ≤ x6_1) = true := decide_eq_true c5
     clear c5
     replace H := Option.bind_eq_some_iff.mp H
     obtain ⟨t604, A60, H⟩ := H
     replace H : (if t604 = true then (if 0 ≤ (IntKind.u64.wrap (rd l1 x6_1)) then (if (Go.bits .and .i64 (shr .i64 x5_1 (IntKind.u64.wrap (rd l1 x6_1))) 1) = 1 then (some false) else (spec_l09Different.l0 k1 l1 (Go.bits .or .i64 x5_1 (shl .i64 1 (IntKind.u64.wrap (rd l1 x6_1)))) (wrap64 (x6_1 + 1)) a0_0 a0_1 l0_2)) else (none)) else (some false)) = some r := H
     have A6 := Aside0.mk A60
     clear A60
     by_cases c7 : t604 = true
     ·subst c7
      have H1 : (if 0 ≤ (IntKind.u64.wrap (rd l1 x6_1)) then (if (Go.bits .and .i64 (shr .i64 x5_1 (IntKind.u64.wrap (rd l1 x6_1))) 1) = 1 then (some false) else (spec_l09Different.l0 k1 l1 (Go.bits .or .i64 x5_1 (shl .i64 1 (IntKind.u64.wrap (rd l1 x6_1)))) (wrap64 (x6_1 + 1)) a0_0 a0_1 l0_2)) else (none)) = some r := by rw [if_pos rfl] at H; exact H
      clear H
      have H := H1
      clear H1
      obtain ⟨ji8, hji8⟩ : ∃ j_ : Int, (IntKind.u64.wrap (rd l1 x6_1)) = j_ := ⟨_, rfl⟩
      replace H : (if 0 ≤ (ji8) then (if (Go.bits .and .i64 (shr .i64 x5_1 (ji8)) 1) = 1 then (some false) else (spec_l09Different.l0 k1 l1 (Go.bits .or .i64 x5_1 (shl .i64 1 (ji8))) (wrap64 (x6_1 + 1)) a0_0 a0_1 l0_2)) else (none)) = some r := by first | (rw [hji8] at H; exact H) | (simp only [hji8] at H ⊢; exact H)
      (try rw [hji8] at A6)
      by_cases c9 : 0 ≤ (ji8)
      ·rw [if_pos c9] at H
       have c9b0 := eq_true c9
       have c9b1 : decide (0 ≤ (ji8)) = true := decide_eq_true c9
       clear c9
       obtain ⟨ji10, hji10⟩ : ∃ j_ : Int, (shr .i64 x5_1 (ji8)) = j_ := ⟨_, rfl⟩
       replace H : (if (Go.bits .and .i64 (ji10) 1) = 1 then (some false) else (spec_l09Different.l0 k1 l1 (Go.bits .or .i64 x5_1 (shl .i64 1 (ji8))) (wrap64 (x6_1 + 1)) a0_0 a0_1 l0_2)) = some r := by first | (rw [hji10] at H; exact H) | (simp only [hji10] at H ⊢; exact H)
       (try rw [hji10] at A6)
       have hji10_ : (x5_1 / 2 ^ min (ji8).toNat 64) = ji10 := hji10
       have hji10z : (ji8) ≤ 64 → (x5_1 / 2 ^ (ji8).toNat) = ji10 := shr_small hji10
       by_cases c11 : (Go.bits .and .i64 (ji10) 1) = 1
       ·rw [if_pos c11] at H
        have c11b0 : ((Go.bits .and .i64 (ji10) 1) == 1) = true := beq_iff_eq.mpr c11
        have c11b1 : ((Go.bits .and .i64 (ji10) 1) != 1) = false := bne_eq_false_iff_eq.mpr c11
        clear c11
        obtain rfl := Option.some.inj H
        have p603 : 0 ≤ (x6_1 : Int) := oda
        have q603 : x6_1 < (l1.length : Int) := oda
        obtain ⟨ad603, e603, hx603_0⟩ := Kd.at_int HR1.out x6_1 p603 q603
        cases e603
        replace hx603_0 := (HB.out.cell (World.block_lt_of_cell? w _ hx603_0)).trans hx603_0
        replace p603 := eq_true p603
        replace q603 := eq_true q603
        have hcz12_0 : wr.cell? ⟨gb602, 0, none⟩ = some (.int .i64 a0_0) := (blk_cell BK602.out 0).trans rfl
        have hcz12_1 : wr.cell? ⟨gb602, 1, none⟩ = some (.int .i64 a0_1) := (blk_cell BK602.out 1).trans rfl
        have hcz12_2 : wr.cell? ⟨gb602, 2, none⟩ = some (.slice A0_2 l0_2.length c0_2) := (blk_cell BK602.out 2).trans rfl
        have hfz12_0 := blk_frozen BK602.out 0
        have hfz12_1 := blk_frozen BK602.out 1
        have hfz12_2 := blk_frozen BK602.out 2
        (try (have p605 : 0 ≤ (x6_1 : Int) := oda; have q605 : x6_1 < (l1.length : Int) := oda; obtain ⟨ad605, e605, hx605_0⟩ := Kd.at_int HR1.out x6_1 p605 q605; obtain rfl : ad603 = ad605 := (by injection e605); replace hx605_0 := (HB.out.cell (World.block_lt_of_cell? w _ hx605_0)).trans hx605_0; replace p605 := eq_true p605; replace q605 := eq_true q605))
        go_wp2_with (first | (go_at_call 56; (with_reducible refine (spec_l01In.calls (rd l1 x6_1) 0 (wrap64 ((wrap64 (a0_0 * a0_1)) - 1)) true _ A6.out).mono ?_); rintro e w' ⟨rfl, ⟨nd, rfl⟩⟩; (try first | exact ⟨rfl, _, World.drewN_drewN _ _ _⟩ | exact ⟨rfl, _, Eq.trans (World.drewN_drewN _ _ _) (congrArg (World.drewN _) (Nat.add_assoc _ _ _))⟩); have p605 : 0 ≤ (x6_1 : Int) := oda; have q605 : x6_1 < (l1.length : Int) := oda; obtain ⟨ad605, e605, hx605_0⟩ := Kd.at_int HR1.out x6_1 p605 q605; obtain rfl : ad603 = ad605 := (by injection e605); replace hx605_0 := (HB.out.cell (World.block_lt_of_cell? w _ hx605_0)).trans hx605_0; replace p605 := eq_true p605; replace q605 := eq_true q605))
        repeat (go_quiet (first | (go_at_call 56; (with_reducible refine (spec_l01In.calls (rd l1 x6_1) 0 (wrap64 ((wrap64 (a0_0 * a0_1)) - 1)) true _ A6.out).mono ?_); rintro e w' ⟨rfl, ⟨nd, rfl⟩⟩; (try first | exact ⟨rfl, _, World.drewN_drewN _ _ _⟩ | exact ⟨rfl, _, Eq.trans (World.drewN_drewN _ _ _) (congrArg (World.drewN _) (Nat.add_assoc _ _ _))⟩))); try go_wp2_with (first | (go_at_call 56; (with_reducible refine (spec_l01In.calls (rd l1 x6_1) 0 (wrap64 ((wrap64 (a0_0 * a0_1)) - 1)) true _ A6.out).mono ?_); rintro e w' ⟨rfl, ⟨nd, rfl⟩⟩; (try first | exact ⟨rfl, _, World.drewN_drewN _ _ _⟩ | exact ⟨rfl, _, Eq.trans (World.drewN_drewN _ _ _) (congrArg (World.drewN _) (Nat.add_assoc _ _ _))⟩); have p605 : 0 ≤ (x6_1 : Int) := oda; have q605 : x6_1 < (l1.length : Int) := oda; obtain ⟨ad605, e605, hx605_0⟩ := Kd.at_int HR1.out x6_1 p605 q605; obtain rfl : ad603 = ad605 := (by injection e605); replace hx605_0 := (HB.out.cell (World.block_lt_of_cell? w _ hx605_0)).trans hx605_0; replace p605 := eq_true p605; replace q605 := eq_true q605)))
        go_ret
        exact ⟨by first | rfl | (simp [errW_none, errW_some] <;> rfl) | (simp only [← hji8, ← hji10]; first | rfl | (simp [errW_none, errW_some] <;> rfl)) | (simp [*, errW_none, errW_some] <;> rfl), by repeat (first | (with_reducible first | exact HB.out | apply below_alloc | apply pw_below_drewN | apply below_drew1 | refine below_set ?_ GE602.out) | exact HB.out)⟩
       ·rw [if_neg c11] at H
        have c11b0 : ((Go.bits .and .i64 (ji10) 1) == 1) = false := beq_eq_false_iff_ne.mpr c11
        have c11b1 : ((Go.bits .and .i64 (ji10) 1) != 1) = true := bne_iff_ne.mpr c11
        have c13b0 := eq_true (oda : 0 ≤ (ji8))
        obtain ⟨ji14, hji14⟩ : ∃ j_ : Int, (shl .i64 1 (ji8)) = j_ := ⟨_, rfl⟩
        replace H : (spec_l09Different.l0 k1 l1 (Go.bits .or .i64 x5_1 (ji14)) (wrap64 (x6_1 + 1)) a0_0 a0_1 l0_2) = some r := by first | (rw [hji14] at H; exact H) | (simp only [hji14] at H ⊢; exact H)
        (try rw [hji14] at A6)
        have hji14_ : (IntKind.i64.wrap (1 * 2 ^ min (ji8).toNat 64)) = ji14 := hji14
        have hji14z : (ji8) ≤ 64 → (IntKind.i64.wrap (1 * 2 ^ (ji8).toNat)) = ji14 := shl_small hji14
        have hji14u : (IntKind.i64.wrap (2 ^ min (ji8).toNat 64)) = ji14 := by have h_ := hji14_; rw [Int.one_mul] at h_; exact h_
        have hji14v : (ji8) ≤ 64 → (IntKind.i64.wrap (2 ^ (ji8).toNat)) = ji14 := fun hle_ => by have h_ := hji14z hle_; rw [Int.one_mul] at h_; exact h_
        have hji14y : (wrap64 (1 * 2 ^ min (ji8).toNat 64)) = ji14 := (i64_w _).symm.trans hji14_
        have hji14x : (ji8) ≤ 64 → (wrap64 (1 * 2 ^ (ji8).toNat)) = ji14 := fun h_ => (i64_w _).symm.trans (hji14z h_)
        have H' := Aside0.mk H
        clear H
        have p603 : 0 ≤ (x6_1 : Int) := oda
        have q603 : x6_1 < (l1.length : Int) := oda
        obtain ⟨ad603, e603, hx603_0⟩ := Kd.at_int HR1.out x6_1 p603 q603
        cases e603
        replace hx603_0 := (HB.out.cell (World.block_lt_of_cell? w _ hx603_0)).trans hx603_0
        replace p603 := eq_true p603
        replace q603 := eq_true q603
        have hcz15_0 : wr.cell? ⟨gb602, 0, none⟩ = some (.int .i64 a0_0) := (blk_cell BK602.out 0).trans rfl
        have hcz15_1 : wr.cell? ⟨gb602, 1, none⟩ = some (.int .i64 a0_1) := (blk_cell BK602.out 1).trans rfl
        have hcz15_2 : wr.cell? ⟨gb602, 2, none⟩ = some (.slice A0_2 l0_2.length c0_2) := (blk_cell BK602.out 2).trans rfl
        have hfz15_0 := blk_frozen BK602.out 0
        have hfz15_1 := blk_frozen BK602.out 1
        have hfz15_2 := blk_frozen BK602.out 2
        (try (have p605 : 0 ≤ (x6_1 : Int) := oda; have q605 : x6_1 < (l1.length : Int) := oda; obtain ⟨ad605, e605, hx605_0⟩ := Kd.at_int HR1.out x6_1 p605 q605; obtain rfl : ad603 = ad605 := (by injection e605); replace hx605_0 := (HB.out.cell (World.block_lt_of_cell? w _ hx605_0)).trans hx605_0; replace p605 := eq_true p605; replace q605 := eq_true q605; have p606 : 0 ≤ (x6_1 : Int) := oda; have q606 : x6_1 < (l1.length : Int) := oda; obtain ⟨ad606, e606, hx606_0⟩ := Kd.at_int HR1.out x6_1 p606 q606; obtain rfl : ad603 = ad606 := (by injection e606); replace hx606_0 := (HB.out.cell (World.block_lt_of_cell? w _ hx606_0)).trans hx606_0; replace p606 := eq_true p606; replace q606 := eq_true q606))
        go_wp2_with (first | (go_at_call 56; (with_reducible refine (spec_l01In.calls (rd l1 x6_1) 0 (wrap64 ((wrap64 (a0_0 * a0_1)) - 1)) true _ A6.out).mono ?_); rintro e w' ⟨rfl, ⟨nd, rfl⟩⟩; (try first | exact ⟨rfl, _, World.drewN_drewN _ _ _⟩ | exact ⟨rfl, _, Eq.trans (World.drewN_drewN _ _ _) (congrArg (World.drewN _) (Nat.add_assoc _ _ _))⟩); have p605 : 0 ≤ (x6_1 : Int) := oda; have q605 : x6_1 < (l1.length : Int) := oda; obtain ⟨ad605, e605, hx605_0⟩ := Kd.at_int HR1.out x6_1 p605 q605; obtain rfl : ad603 = ad605 := (by injection e605); replace hx605_0 := (HB.out.cell (World.block_lt_of_cell? w _ hx605_0)).trans hx605_0; replace p605 := eq_true p605; replace q605 := eq_true q605; have p606 : 0 ≤ (x6_1 : Int) := oda; have q606 : x6_1 < (l1.length : Int) := oda; obtain ⟨ad606, e606, hx606_0⟩ := Kd.at_int HR1.out x6_1 p606 q606; obtain rfl : ad603 = ad606 := (by injection e606); replace hx606_0 := (HB.out.cell (World.block_lt_of_cell? w _ hx606_0)).trans hx606_0; replace p606 := eq_true p606; replace q606 := eq_true q606))
        repeat (go_quiet (first | (go_at_call 56; (with_reducible refine (spec_l01In.calls (rd l1 x6_1) 0 (wrap64 ((wrap64 (a0_0 * a0_1)) - 1)) true _ A6.out).mono ?_); rintro e w' ⟨rfl, ⟨nd, rfl⟩⟩; (try first | exact ⟨rfl, _, World.drewN_drewN _ _ _⟩ | exact ⟨rfl, _, Eq.trans (World.drewN_drewN _ _ _) (congrArg (World.drewN _) (Nat.add_assoc _ _ _))⟩))); try go_wp2_with (first | (go_at_call 56; (with_reducible refine (spec_l01In.calls (rd l1 x6_1) 0 (wrap64 ((wrap64 (a0_0 * a0_1)) - 1)) true _ A6.out).mono ?_); rintro e w' ⟨rfl, ⟨nd, rfl⟩⟩; (try first | exact ⟨rfl, _, World.drewN_drewN _ _ _⟩ | exact ⟨rfl, _, Eq.trans (World.drewN_drewN _ _ _) (congrArg (World.drewN _) (Nat.add_assoc _ _ _))⟩); have p605 : 0 ≤ (x6_1 : Int) := oda; have q605 : x6_1 < (l1.length : Int) := oda; obtain ⟨ad605, e605, hx605_0⟩ := Kd.at_int HR1.out x6_1 p605 q605; obtain rfl : ad603 = ad605 := (by injection e605); replace hx605_0 := (HB.out.cell (World.block_lt_of_cell? w _ hx605_0)).trans hx605_0; replace p605 := eq_true p605; replace q605 := eq_true q605; have p606 : 0 ≤ (x6_1 : Int) := oda; have q606 : x6_1 < (l1.length : Int) := oda; obtain ⟨ad606, e606, hx606_0⟩ := Kd.at_int HR1.out x6_1 p606 q606; obtain rfl : ad603 = ad606 := (by injection e606); replace hx606_0 := (HB.out.cell (World.block_lt_of_cell? w _ hx606_0)).trans hx606_0; replace p606 := eq_true p606; replace q606 := eq_true q606)))
        go_roundg k1
        case measure => have := HK1.out; omega
        case rel => exact ⟨(Go.bits .or .i64 x5_1 (ji14)), (wrap64 (x6_1 + 1)), (by first | rfl | (simp; done) | (simp only [← hji14] <;> (first | rfl | simp)) | (simp [*]; done)), (by first | rfl | (simp; done) | (simp [*]; done)), H', ⟨by have := HK1.out; omega⟩, ⟨by (with_reducible repeat (first | refine blk_drewN ?_ _ | refine blk_drew ?_ | refine blk_alloc ?_ _)); exact BK602.out⟩, ⟨by repeat (first | (with_reducible first | exact HB.out | apply below_alloc | apply pw_below_drewN | apply below_drew1 | refine below_set ?_ GE602.out) | exact HB.out)⟩⟩
      ·rw [if_neg c9] at H
       exact absurd H (by simp)
     ·replace c7 := Bool.eq_false_iff.mpr c7
      subst c7
      have H1 : (some false) = some r := by rw [if_neg (show ¬ (false = true) by decide)] at H; exact H
      clear H
      have H := H1
      clear H1
      obtain rfl := Option.some.inj H
      have p603 : 0 ≤ (x6_1 : Int) := oda
      have q603 : x6_1 < (l1.length : Int) := oda
      obtain ⟨ad603, e603, hx603_0⟩ := Kd.at_int HR1.out x6_1 p603 q603
      cases e603
      replace hx603_0 := (HB.out.cell (World.block_lt_of_cell? w _ hx603_0)).trans hx603_0
      replace p603 := eq_true p603
      replace q603 := eq_true q603
      have hcz16_0 : wr.cell? ⟨gb602, 0, none⟩ = some (.int .i64 a0_0) := (blk_cell BK602.out 0).trans rfl
      have hcz16_1 : wr.cell? ⟨gb602, 1, none⟩ = some (.int .i64 a0_1) := (blk_cell BK602.out 1).trans rfl
      have hcz16_2 : wr.cell? ⟨gb602, 2, none⟩ = some (.slice A0_2 l0_2.length c0_2) := (blk_cell BK602.out 2).trans rfl
      have hfz16_0 := blk_frozen BK602.out 0
      have hfz16_1 := blk_frozen BK602.out 1
      have hfz16_2 := blk_frozen BK602.out 2
      go_wp2_with (first | (go_at_call 56; (with_reducible refine (spec_l01In.calls (rd l1 x6_1) 0 (wrap64 ((wrap64 (a0_0 * a0_1)) - 1)) false _ A6.out).mono ?_); rintro e w' ⟨rfl, ⟨nd, rfl⟩⟩; (try first | exact ⟨rfl, _, World.drewN_drewN _ _ _⟩ | exact ⟨rfl, _, Eq.trans (World.drewN_drewN _ _ _) (congrArg (World.drewN _) (Nat.add_assoc _ _ _))⟩)))
      repeat (go_quiet (first | (go_at_call 56; (with_reducible refine (spec_l01In.calls (rd l1 x6_1) 0 (wrap64 ((wrap64 (a0_0 * a0_1)) - 1)) false _ A6.out).mono ?_); rintro e w' ⟨rfl, ⟨nd, rfl⟩⟩; (try first | exact ⟨rfl, _, World.drewN_drewN _ _ _⟩ | exact ⟨rfl, _, Eq.trans (World.drewN_drewN _ _ _) (congrArg (World.drewN _) (Nat.add_assoc _ _ _))⟩))); try go_wp2_with (first | (go_at_call 56; (with_reducible refine (spec_l01In.calls (rd l1 x6_1) 0 (wrap64 ((wrap64 (a0_0 * a0_1)) - 1)) false _ A6.out).mono ?_); rintro e w' ⟨rfl, ⟨nd, rfl⟩⟩; (try first | exact ⟨rfl, _, World.drewN_drewN _ _ _⟩ | exact ⟨rfl, _, Eq.trans (World.drewN_drewN _ _ _) (congrArg (World.drewN _) (Nat.add_assoc _ _ _))⟩))))
      go_ret
      exact ⟨by first | rfl | (simp [errW_none, errW_some] <;> rfl) | (simp [*, errW_none, errW_some] <;> rfl), by repeat (first | (with_reducible first | exact HB.out | apply below_alloc | apply pw_below_drewN | apply below_drew1 | refine below_set ?_ GE602.out) | exact HB.out)⟩
    ·rw [if_neg c5] at H
     exact absurd H (by simp)
   ·rw [if_neg c4] at H
    have c4b0 : decide (x6_1 < (l1.length : Int)) = false := decide_eq_false c4
    clear c4
    obtain rfl := Option.some.inj H
    go_wp2
    repeat (go_quiet (fail); try go_wp2)
    go_ret
    exact ⟨by first | rfl | (simp [errW_none, errW_some] <;> rfl) | (simp [*, errW_none, errW_some] <;> rfl), by repeat (first | (with_reducible first | exact HB.out | apply below_alloc | apply pw_below_drewN | apply below_drew1 | refine below_set ?_ GE602.out) | exact HB.out)⟩
/-! ### impl_bit: function 108 -/
def impl_bit.f (a0 : Bool) : Option (Int) := if a0 = true then (some 1) else (some 0)
set_option maxHeartbeats 8000000 in
set_option maxRecDepth 100000 in
theorem impl_bit.calls (a0 : Bool) (r : Int) (w : World) (h : impl_bit.f a0 = some r) :
  Calls Try.prog 108 #[.bool a0] w fun e w' => e = .returned (.int .i64 r) ∧ Drawn0 w w' := by
 have H : (if a0 = true then (some 1) else (some 0)) = some r := h
 clear h
 by_cases c2 : a0 = true
 ·subst c2
  have H1 : (some 1) = some r := by rw [if_pos rfl] at H; exact H
  clear H
  have H := H1
  clear H1
  obtain rfl := Option.some.inj H
  go_enter Try.func108, Try.ntmps108
  go_wp2
  go_ret
  exact ⟨by first | rfl | (simp; done) | (simp [*]; done), by repeat (first | exact Drawn0.refl _ | apply Drawn0.step)⟩
 ·replace c2 := Bool.eq_false_iff.mpr c2
  subst c2
  have H1 : (some 0) = some r := by rw [if_neg (show ¬ (false = true) by decide)] at H; exact H
  clear H
  have H := H1
  clear H1
  obtain rfl := Option.some.inj H
  go_enter Try.func108, Try.ntmps108
  go_wp2
  go_ret
  exact ⟨by first | rfl | (simp; done) | (simp [*]; done), by repeat (first | exact Drawn0.refl _ | apply Drawn0.step)⟩
/-! ### impl_answer: function 78 -/
def impl_answer.l0 : Nat → Int → Int → List Int → Int → Int → Option (Int)
 | 0, _, _, _, _, _ => none
 | k + 1, x1, x2, x9, x10, x11 => if x11 < x10 then (if 0 ≤ x11 then (if x11 < (x9.length : Int) then (if 0 ≤ x2 then (if (Go.bits .and .i64 (shr .i64 (rd x9 x11) x2) 1) = 1 then ((impl_bit.f ((Go.bits .andNot .i64 (rd x9 x11) (Go.bits .or .i64 x1 (shl .i64 1 x2))) == 0)).bind fun t620 => (some (wrap64 (1 + t620)))) else (impl_answer.l0 k x1 x2 x9 x10 (wrap64 (x11 + 1)))) else (none)) else (none)) else (none)) else (some 0)
def impl_answer.f (k : Nat) (l0 : List Int) (a1 : Int) (a2 : Int) : Option (Int) := impl_answer.l0 k a1 a2 l0 (l0.length : Int) 0
set_option maxHeartbeats 8000000 in
set_option maxRecDepth 100000 in
theorem impl_answer.calls (k : Nat) (A0 : Option Addr) (c0 : Nat) (l0 : List Int) (a1 : Int) (a2 : Int) (r : Int) (w : World) (hr0 : Kd.C (Kd.int .i64) w A0 l0.length l0) (hc0 : l0.length ≤ c0) (h : impl_answer.f k l0 a1 a2 = some r) :
  Calls Try.prog 78 #[.slice A0 l0.length c0, .int .i64 a1, .int .i64 a2] w fun e w' => e = .returned (.int .i64 r) ∧ Drawn0 w w' := by
 have HR0 := Aside0.mk hr0
 have HC0 := Aside0.mk hc0
 clear hr0 hc0
 have H : (impl_answer.l0 k a1 a2 l0 (l0.length : Int) 0) = some r := h
 clear h
 have H' := Aside0.mk H
 clear H
 go_enter Try.func78, Try.ntmps78
 go_wp2
 go_loopg [11] k (fun kq v11 w' => ∃ (x11_1 : Int), v11 = .int .i64 x11_1 ∧ Aside0 (impl_answer.l0 kq a1 a2 l0 (l0.length : Int) x11_1 = some r) ∧ Aside0 (kq ≤ k) ∧ Drawn0 w w')
 case atStart => exact ⟨(0), (by first | rfl | (simp; done) | (simp [*]; done)), H', ⟨Nat.le_refl _⟩, by repeat (first | exact Drawn0.refl _ | apply Drawn0.step)⟩
 case round =>
  clear H'
  (try clear p2)
  obtain ⟨x11_1, rfl, HA, HK1, ⟨m1, rfl⟩⟩ := hrel
  cases gk with
  | zero => exact absurd HA.out (by simp [impl_answer.l0])
  | succ k1 =>
   have H := HA.out
   clear HA
   simp only [impl_answer.l0] at H
   by_cases c4 : x11_1 < (l0.length : Int)
   ·rw [if_pos c4] at H
    have c4b0 : decide (x11_1 < (l0.length : Int)) = true := decide_eq_true c4
    clear c4
    by_cases c5 : 0 ≤ x11_1
    ·rw [if_pos c5] at H
     have c5b0 : decide (0 ≤ x11_1) = true := decide_eq_true c5
     clear c5
     by_cases c6 : x11_1 < (l0.length : Int)
     ·rw [if_pos c6] at H
      have c6b0 : decide (x11_1 < (l0.length : Int)) = true := decide_eq_true c6
      clear c6
      by_cases c7 : 0 ≤ a2
      ·rw [if_pos c7] at H
       have c7b0 := eq_true c7
       have c7b1 : decide (0 ≤ a2) = true := decide_eq_true c7
       clear c7
       obtain ⟨ji8, hji8⟩ : ∃ j_ : Int, (shr .i64 (rd l0 x11_1) a2) = j_ := ⟨_, rfl⟩
       replace H : (if (Go.bits .and .i64 (ji8) 1) = 1 then ((impl_bit.f ((Go.bits .andNot .i64 (rd l0 x11_1) (Go.bits .or .i64 a1 (shl .i64 1 a2))) == 0)).bind fun t620 => (some (wrap64 (1 + t620)))) else (impl_answer.l0 k1 a1 a2 l0 (l0.length : Int) (wrap64 (x11_1 + 1)))) = some r := by first | (rw [hji8] at H; exact H) | (simp only [hji8] at H ⊢; exact H)
       have hji8_ : ((rd l0 x11_1) / 2 ^ min a2.toNat 64) = ji8 := hji8
       have hji8z : a2 ≤ 64 → ((rd l0 x11_1) / 2 ^ a2.toNat) = ji8 := shr_small hji8
       by_cases c9 : (Go.bits .and .i64 (ji8) 1) = 1
       ·rw [if_pos c9] at H
        have c9b0 : ((Go.bits .and .i64 (ji8) 1) == 1) = true := beq_iff_eq.mpr c9
        have c9b1 : ((Go.bits .and .i64 (ji8) 1) != 1) = false := bne_eq_false_iff_eq.mpr c9
        clear c9
        have c10b0 := eq_true (oda : 0 ≤ a2)
        obtain ⟨ji11, hji11⟩ : ∃ j_ : Int, (shl .i64 1 a2) = j_ := ⟨_, rfl⟩
        replace H : ((impl_bit.f ((Go.bits .andNot .i64 (rd l0 x11_1) (Go.bits .or .i64 a1 (ji11))) == 0)).bind fun t620 => (some (wrap64 (1 + t620)))) = some r := by first | (rw [hji11] at H; exact H) | (simp only [hji11] at H ⊢; exact H)
        have hji11_ : (IntKind.i64.wrap (1 * 2 ^ min a2.toNat 64)) = ji11 := hji11
        have hji11z : a2 ≤ 64 → (IntKind.i64.wrap (1 * 2 ^ a2.toNat)) = ji11 := shl_small hji11
        have hji11u : (IntKind.i64.wrap (2 ^ min a2.toNat 64)) = ji11 := by have h_ := hji11_; rw [Int.one_mul] at h_; exact h_
        have hji11v : a2 ≤ 64 → (IntKind.i64.wrap (2 ^ a2.toNat)) = ji11 := fun hle_ => by have h_ := hji11z hle_; rw [Int.one_mul] at h_; exact h_
        have hji11y : (wrap64 (1 * 2 ^ min a2.toNat 64)) = ji11 := (i64_w _).symm.trans hji11_
        have hji11x : a2 ≤ 64 → (wrap64 (1 * 2 ^ a2.toNat)) = ji11 := fun h_ => (i64_w _).symm.trans (hji11z h_)
        replace H := Option.bind_eq_some_iff.mp H
        obtain ⟨t620, A120, H⟩ := H
        replace H : (some (wrap64 (1 + t620))) = some r := H
        have A12 := Aside0.mk A120
        clear A120
        obtain rfl := Option.some.inj H
        have p619 : 0 ≤ (x11_1 : Int) := oda
        have q619 : x11_1 < (l0.length : Int) := oda
        obtain ⟨ad619, e619, hx619_0⟩ := Kd.at_int HR0.out x11_1 p619 q619
        cases e619
        replace p619 := eq_true p619
        replace q619 := eq_true q619
        go_wp2_with (first | ((with_reducible refine gate_callee (f := 108) rfl ?_); refine goesL_ (some 27) rfl rfl Try.func108 (by kernel_rfl) rfl #[.bool ((Go.bits .andNot .i64 (rd l0 x11_1) (Go.bits .or .i64 a1 (ji11))) == 0)] rfl (by (try simp only [List.map_toArray, List.map_cons, List.map_nil]); first | done | (simp only [hji11]; rfl) | rfl | (simp only [List.length_drop, List.length_take]; rfl)) ?_; (with_reducible refine (impl_bit.calls ((Go.bits .andNot .i64 (rd l0 x11_1) (Go.bits .or .i64 a1 (ji11))) == 0) t620 _ A12.out).mono ?_); rintro e w' ⟨rfl, ⟨nd, rfl⟩⟩; refine ⟨_, rfl, ?_⟩))
        go_ret
        exact ⟨by first | rfl | (simp; done) | (simp only [← hji8, ← hji11] <;> (first | rfl | simp)) | (simp [*]; done), by repeat (first | exact Drawn0.refl _ | apply Drawn0.step)⟩
       ·rw [if_neg c9] at H
        have c9b0 : ((Go.bits .and .i64 (ji8) 1) == 1) = false := beq_eq_false_iff_ne.mpr c9
        have c9b1 : ((Go.bits .and .i64 (ji8) 1) != 1) = true := bne_iff_ne.mpr c9
        have H' := Aside0.mk H
        clear H
        have p619 : 0 ≤ (x11_1 : Int) := oda
        have q619 : x11_1 < (l0.length : Int) := oda
        obtain ⟨ad619, e619, hx619_0⟩ := Kd.at_int HR0.out x11_1 p619 q619
        cases e619
        replace p619 := eq_true p619
        replace q619 := eq_true q619
        go_wp2
        go_roundg k1
        case measure => have := HK1.out; omega
        case rel => exact ⟨(wrap64 (x11_1 + 1)), (by first | rfl | (simp; done) | (simp [*]; done)), H', ⟨by have := HK1.out; omega⟩, by repeat (first | exact Drawn0.refl _ | apply Drawn0.step)⟩
      ·rw [if_neg c7] at H
       exact absurd H (by simp)
     ·rw [if_neg c6] at H
      exact absurd H (by simp)
    ·rw [if_neg c5] at H
     exact absurd H (by simp)
   ·rw [if_neg c4] at H
    have c4b0 : decide (x11_1 < (l0.length : Int)) = false := decide_eq_false c4
    clear c4
    obtain rfl := Option.some.inj H
    go_wp2
    go_ret
    exact ⟨by first | rfl | (simp; done) | (simp [*]; done), by repeat (first | exact Drawn0.refl _ | apply Drawn0.step)⟩
/-! ### spec_l09Shots: function 83 -/
def spec_l09Shots.l0 : Nat → List (S93) → List Int → Int → Int → Int → List Int → Option (Int)
 | 0, _, _, _, _, _, _ => none
 | k + 1, x1, x5, x6, x742000, x742001, x742002 => if x6 < (x1.length : Int) then (if 0 ≤ x6 then ((spec_l01In.f ((rd_T93 x1 x6).f1) 0 2).bind fun t747 => (if t747 = true then (if x5.length < 17592186044416 then (spec_l09Shots.l0 k x1 (x5 ++ [(rd_T93 x1 x6).f0]) (wrap64 (x6 + 1)) x742000 x742001 x742002) else (none)) else (some 2))) else (none)) else ((spec_l09Different.f k x742000 x742001 x742002 x5).bind fun t752 => (if t752 = true then (some 0) else (some 2)))
def spec_l09Shots.f (k : Nat) (a0_0 : Int) (a0_1 : Int) (l0_2 : List Int) (l1 : List (S93)) : Option (Int) := (spec_l09Is.f k a0_0 a0_1 l0_2).bind fun t742 => (if t742 = true then (spec_l09Shots.l0 k l1 (([] : List Int)) 0 a0_0 a0_1 l0_2) else (some 1))
set_option maxHeartbeats 8000000 in
set_option maxRecDepth 100000 in
theorem spec_l09Shots.calls (k : Nat) (a0_0 : Int) (a0_1 : Int) (A0_2 : Option Addr) (c0_2 : Nat) (l0_2 : List Int) (A1 : Option Addr) (c1 : Nat) (l1 : List (S93)) (r : Int) (w : World) (hr0_2 : Kd.C (Kd.int .i64) w A0_2 l0_2.length l0_2) (hc0_2 : l0_2.length ≤ c0_2) (hr1 : Kd.C k93 w A1 l1.length l1) (hc1 : l1.length ≤ c1) (h : spec_l09Shots.f k a0_0 a0_1 l0_2 l1 = some r) :
  Calls Try.prog 83 #[.agg #[.int .i64 a0_0, .int .i64 a0_1, .slice A0_2 l0_2.length c0_2], .slice A1 l1.length c1] w fun e w' => e = .returned (.int .i64 r) ∧ Below w.heap.size w w' := by
 have hu28 := Try.underlying28
 have HR0_2 := Aside0.mk hr0_2
 have HC0_2 := Aside0.mk hc0_2
 clear hr0_2 hc0_2
 have HR1 := Aside0.mk hr1
 have HC1 := Aside0.mk hc1
 clear hr1 hc1
 have HB := Aside0.mk (Below.refl w.heap.size w)
 have H : ((spec_l09Is.f k a0_0 a0_1 l0_2).bind fun t742 => (if t742 = true then (spec_l09Shots.l0 k l1 (([] : List Int)) 0 a0_0 a0_1 l0_2) else (some 1))) = some r := h
 clear h
 replace H := Option.bind_eq_some_iff.mp H
 obtain ⟨t742, A30, H⟩ := H
 replace H : (if t742 = true then (spec_l09Shots.l0 k l1 (([] : List Int)) 0 a0_0 a0_1 l0_2) else (some 1)) = some r := H
 have A3 := Aside0.mk A30
 clear A30
 by_cases c4 : t742 = true
 ·subst c4
  have H1 : (spec_l09Shots.l0 k l1 (([] : List Int)) 0 a0_0 a0_1 l0_2) = some r := by rw [if_pos rfl] at H; exact H
  clear H
  have H := H1
  clear H1
  obtain ⟨y743, hy743⟩ : ∃ y_ : List Int, y_ = (([] : List Int)) := ⟨_, rfl⟩
  replace H : (spec_l09Shots.l0 k l1 y743 0 a0_0 a0_1 l0_2) = some r := by first | (rw [hy743]; with_reducible exact H) | (have H2_ := (Option.bind_some _ _).symm.trans H; rw [hy743]; with_reducible exact H2_) | (have H2_ := (Option.bind_some _ _).symm.trans H; with_reducible exact H2_) | with_reducible exact H | (rw [hy743]; exact H) | exact H
  have Ny743 := Aside0.mk hy743
  clear hy743
  have H' := Aside0.mk H
  clear H
  go_enter Try.func83, Try.ntmps83
  go_wp2_with (first | ((with_reducible refine gate_dst (N := 2) rfl ?_); refine box_event ?hg (N := 2) ?hd (cs := #[.int .i64 a0_0, .int .i64 a0_1, .slice A0_2 l0_2.length c0_2]) (t := 28) ?hr ?_; (case hd => rfl); (case hg => rfl); (case hr => first | (go_simp; done) | (go_simp; rfl)); intro gb741 hg w5 hbox hb; have n0_ := Aside0.mk (below_step hb_ hb); have n1_ := Aside0.mk (hbox); have n2_ := Aside0.mk ((by rw [hg]; exact (below_size hb_) : w.heap.size ≤ gb741)); have n3_ := Aside0.mk ((by rw [hg]; exact (below_size hb_) : w.heap.size ≤ gb741)); clear HB; have HB := n0_; have BK741 := n1_; have GW741 := n2_; have GE741 := n3_; clear n0_ n1_ n2_ n3_; clear hb hbox hg; have hcz6_0 : w5.cell? ⟨gb741, 0, none⟩ = some (.int .i64 a0_0) := (blk_cell BK741.out 0).trans rfl; have hcz6_1 : w5.cell? ⟨gb741, 1, none⟩ = some (.int .i64 a0_1) := (blk_cell BK741.out 1).trans rfl; have hcz6_2 : w5.cell? ⟨gb741, 2, none⟩ = some (.slice A0_2 l0_2.length c0_2) := (blk_cell BK741.out 2).trans rfl; have hfz6_0 := blk_frozen BK741.out 0; have hfz6_1 := blk_frozen BK741.out 1; have hfz6_2 := blk_frozen BK741.out 2) | ((with_reducible refine gate_callee (f := 55) rfl ?_); refine goesA_ (some 8) rfl rfl Try.func55 (by kernel_rfl) rfl #[.agg #[.int .i64 a0_0, .int .i64 a0_1, .slice A0_2 l0_2.length c0_2]] rfl ?_; (with_reducible refine (spec_l09Is.calls k a0_0 a0_1 _ _ l0_2 true _ ?side1 ?side2 A3.out).mono ?_); (case side1 => repeat (first | exact (Kd.C_below HR0_2.out HB.out) | (with_reducible refine Kd.C_alloc ?_ _) | (with_reducible refine Kd.C_drewN ?_ _) | (with_reducible refine Kd.C_drew ?_))); (case side2 => exact HC0_2.out); rintro e w7 ⟨rfl, hb⟩; refine ⟨_, rfl, ?_⟩; have n0_ := Aside0.mk (blk_below (g := gb741) (o := .cells #[.int .i64 a0_0, .int .i64 a0_1, .slice A0_2 l0_2.length c0_2] 28 (0, 0)) (by (with_reducible repeat (first | refine blk_drewN ?_ _ | refine blk_drew ?_ | refine blk_alloc ?_ _)); exact BK741.out) hb); have n1_ := Aside0.mk (below_step (by repeat (first | (with_reducible first | exact HB.out | apply below_alloc | apply pw_below_drewN | apply below_drew1 | refine below_set ?_ GE741.out) | exact HB.out)) hb); clear BK741; clear HB; have BK741 := n0_; have HB := n1_; clear n0_ n1_; (try clear hb); (try clear hb2); (try clear hk); (try clear hi)) | ((with_reducible refine gate_dst (N := 10) rfl ?_); refine Kd.R_lit (Kd.int .i64) _ 2 ?hg (N := 10) ?hd (xs := ([] : List Int)) (inner := []) (ok := fun _ => True) (okp := fun _ => True) ?hr ?hp (fun _ hk => hk) trivial (Below.refl _ _) (Nat.le_refl _) (by simp) ?_; (case hd => rfl); (case hg => rfl); (case hr => first | (go_simp; done) | (go_simp; rfl)); (case hp => exact (Reps.none _ _)); intro v744 w8 ho9 hb hg_ hnew_; clear hg_ hnew_; (first | rw [← Ny743.out] at ho9 | (simp only [Int.reduceToNat] at ho9; rw [← Ny743.out] at ho9)); have n0_ := Aside0.mk (Kd.R_lower ho9 (below_size (by repeat (first | (with_reducible first | exact HB.out | apply below_alloc | apply pw_below_drewN | apply below_drew1 | refine below_set ?_ GE741.out) | exact HB.out)))); have n1_ := Aside0.mk (blk_below (g := gb741) (o := .cells #[.int .i64 a0_0, .int .i64 a0_1, .slice A0_2 l0_2.length c0_2] 28 (0, 0)) (by (with_reducible repeat (first | refine blk_drewN ?_ _ | refine blk_drew ?_ | refine blk_alloc ?_ _)); exact BK741.out) hb); have n2_ := Aside0.mk (below_step (by repeat (first | (with_reducible first | exact HB.out | apply below_alloc | apply pw_below_drewN | apply below_drew1 | refine below_set ?_ GE741.out) | exact HB.out)) hb); clear BK741; clear HB; have HO745 := n0_; have BK741 := n1_; have HB := n2_; clear n0_ n1_ n2_; clear hb ho9))
  go_loopg [5, 6] k (fun kq v5 v6 w' => ∃ (x5_1 : List Int) (x6_1 : Int), v6 = .int .i64 x6_1 ∧ Aside0 (spec_l09Shots.l0 kq l1 x5_1 x6_1 a0_0 a0_1 l0_2 = some r) ∧ Aside0 (kq ≤ k) ∧ Aside0 (Kd.R (Kd.int .i64) 2 w' w.heap.size (fun _ => True) v5 x5_1) ∧ Aside0 (w'.heap[gb741]? = some (.cells #[.int .i64 a0_0, .int .i64 a0_1, (.slice A0_2 l0_2.length c0_2)] 28 (0, 0))) ∧ Aside0 (Below w.heap.size w w'))
  case atStart => exact ⟨(y743), (0), (by first | rfl | (simp; done) | (simp [*]; done)), H', ⟨Nat.le_refl _⟩, ⟨by (with_reducible repeat (first | apply Kd.R_alloc | apply Kd.R_drewN | apply Kd.R_drew)); exact HO745.out⟩, ⟨by (with_reducible repeat (first | refine blk_drewN ?_ _ | refine blk_drew ?_ | refine blk_alloc ?_ _)); exact BK741.out⟩, ⟨by repeat (first | (with_reducible first | exact HB.out | apply below_alloc | apply pw_below_drewN | apply below_drew1 | refine below_set ?_ GE741.out) | exact HB.out)⟩⟩
  case round =>
   clear H'
   (try clear c1); (try clear p2); (try clear c4); (try clear c5); (try clear c8); (try clear hcz6_0); (try clear hcz6_1); (try clear hcz6_2); (try clear hfz6_0); (try clear hfz6_1); (try clear hfz6_2)
   obtain ⟨x5_1, x6_1, rfl, HA, HK1, HO_5, BK741, HB⟩ := hrel
   cases gk with
   | zero => exact absurd HA.out (by simp [spec_l09Shots.l0])
   | succ k1 =>
    have H := HA.out
    clear HA
    simp only [spec_l09Shots.l0] at H
    by_cases c10 : x6_1 < (l1.length : Int)
    ·rw [if_pos c10] at H
     have c10b0 : decide (x6_1 < (l1.length : Int)) = true := decide_eq_true c10
     clear c10
     by_cases c11 : 0 ≤ x6_1
     ·rw [if_pos c11] at H
      have c11b0 : decide (0 ≤ x6_1) = true := decide_eq_true c11
      clear c11
      replace H := Option.bind_eq_some_iff.mp H
      obtain ⟨t747, A120, H⟩ := H
      replace H : (if t747 = true then (if x5_1.length < 17592186044416 then (spec_l09Shots.l0 k1 l1 (x5_1 ++ [(rd_T93 l1 x6_1).f0]) (wrap64 (x6_1 + 1)) a0_0 a0_1 l0_2) else (none)) else (some 2)) = some r := H
      have A12 := Aside0.mk A120
      clear A120
      by_cases c13 : t747 = true
      ·subst c13
       have H1 : (if x5_1.length < 17592186044416 then (spec_l09Shots.l0 k1 l1 (x5_1 ++ [(rd_T93 l1 x6_1).f0]) (wrap64 (x6_1 + 1)) a0_0 a0_1 l0_2) else (none)) = some r := by rw [if_pos rfl] at H; exact H
       clear H
       have H := H1
       clear H1
       by_cases c14 : x5_1.length < 17592186044416
       ·rw [if_pos c14] at H
        have LMc14 := Aside0.mk c14
        clear c14
        obtain ⟨y749, hy749⟩ : ∃ y_ : List Int, y_ = (x5_1 ++ [(rd_T93 l1 x6_1).f0]) := ⟨_, rfl⟩
        replace H : (spec_l09Shots.l0 k1 l1 y749 (wrap64 (x6_1 + 1)) a0_0 a0_1 l0_2) = some r := by first | (rw [hy749]; with_reducible exact H) | (have H2_ := (Option.bind_some _ _).symm.trans H; rw [hy749]; with_reducible exact H2_) | (have H2_ := (Option.bind_some _ _).symm.trans H; with_reducible exact H2_) | with_reducible exact H | (rw [hy749]; exact H) | exact H
        have Ny749 := Aside0.mk hy749
        clear hy749
        have H' := Aside0.mk H
        clear H
        have p746 : 0 ≤ (x6_1 : Int) := oda
        have q746 : x6_1 < (l1.length : Int) := oda
        obtain ⟨ad746, e746, hx746_0, hx746_1⟩ := at_T93 HR1.out x6_1 p746 q746
        cases e746
        replace hx746_0 := (HB.out.cell (World.block_lt_of_cell? w _ hx746_0)).trans hx746_0
        replace hx746_1 := (HB.out.cell (World.block_lt_of_cell? w _ hx746_1)).trans hx746_1
        replace p746 := eq_true p746
        replace q746 := eq_true q746
        go_wp2_with (first | ((with_reducible refine gate_callee (f := 56) rfl ?_); refine goesA_ (some 22) rfl rfl Try.func56 (by kernel_rfl) rfl #[.int .i64 ((rd_T93 l1 x6_1).f1), .int .i64 0, .int .i64 2] rfl ?_; (with_reducible refine (spec_l01In.calls ((rd_T93 l1 x6_1).f1) 0 2 true _ A12.out).mono ?_); rintro e w' ⟨rfl, ⟨nd, rfl⟩⟩; refine ⟨_, rfl, ?_⟩; have p748 : 0 ≤ (x6_1 : Int) := oda; have q748 : x6_1 < (l1.length : Int) := oda; obtain ⟨ad748, e748, hx748_0, hx748_1⟩ := at_T93 HR1.out x6_1 p748 q748; obtain rfl : ad746 = ad748 := (by injection e748); replace hx748_0 := (HB.out.cell (World.block_lt_of_cell? w _ hx748_0)).trans hx748_0; replace hx748_1 := (HB.out.cell (World.block_lt_of_cell? w _ hx748_1)).trans hx748_1; replace p748 := eq_true p748; replace q748 := eq_true q748) | ((with_reducible refine gate_builtin (b := .append) (xs := #[.tmp 24, .tmp 30]) rfl ?_); at_builtin; refine Kd.R_append (Kd.int .i64) (w0 := w) w.heap.size rfl (.tmp 24) (.tmp 30) 22 2 (.int .i64 0) 8 rfl Try.underlying22 info2 rfl (by decide) (by omega) u5 x5_1 ((rd_T93 l1 x6_1).f0) [.int .i64 ((rd_T93 l1 x6_1).f0)] (fun _ => True) (fun _ => False) rfl rfl ?aP (fun _ hk => hk.elim) ?aF ?aO ?aB ?aS ?aL ?_; (case aP => exact rfl); (case aB => exact (by repeat (first | (with_reducible first | exact HB.out | apply below_alloc | apply pw_below_drewN | apply below_drew1 | refine below_set ?_ GE741.out) | exact HB.out))); (case aF => exact (fun _ _ => trivial)); (case aO => exact (by (with_reducible repeat (first | apply Kd.R_alloc | apply Kd.R_drewN | apply Kd.R_drew)); exact HO_5.out)); (case aS => exact (below_size (by repeat (first | (with_reducible first | exact HB.out | apply below_alloc | apply pw_below_drewN | apply below_drew1 | refine below_set ?_ GE741.out) | exact HB.out)))); (case aL => have := LMc14.out; omega); intro v750 w15 ho hb hg hat; rw [← Ny749.out] at ho; have n0_ := Aside0.mk (blk_grown (g := gb741) (o := .cells #[.int .i64 a0_0, .int .i64 a0_1, .slice A0_2 l0_2.length c0_2] 28 (0, 0)) (by (with_reducible repeat (first | refine blk_drewN ?_ _ | refine blk_drew ?_ | refine blk_alloc ?_ _)); exact BK741.out) hg (Kd.R_ne HO_5.out BK741.out (by decide))); have n1_ := Aside0.mk (hb); have n2_ := Aside0.mk (ho); clear BK741; clear HB; clear HO_5; have BK741 := n0_; have HB := n1_; have HO751 := n2_; clear n0_ n1_ n2_; clear ho hb hg hat))
        go_roundg k1
        case measure => have := HK1.out; omega
        case rel => exact ⟨(y749), (wrap64 (x6_1 + 1)), (by first | rfl | (simp; done) | (simp [*]; done)), H', ⟨by have := HK1.out; omega⟩, ⟨by (with_reducible repeat (first | apply Kd.R_alloc | apply Kd.R_drewN | apply Kd.R_drew)); exact HO751.out⟩, ⟨by (with_reducible repeat (first | refine blk_drewN ?_ _ | refine blk_drew ?_ | refine blk_alloc ?_ _)); exact BK741.out⟩, ⟨by repeat (first | (with_reducible first | exact HB.out | apply below_alloc | apply pw_below_drewN | apply below_drew1 | refine below_set ?_ GE741.out) | exact HB.out)⟩⟩
       ·rw [if_neg c14] at H
        exact absurd H (by simp)
      ·replace c13 := Bool.eq_false_iff.mpr c13
       subst c13
       have H1 : (some 2) = some r := by rw [if_neg (show ¬ (false = true) by decide)] at H; exact H
       clear H
       have H := H1
       clear H1
       obtain rfl := Option.some.inj H
       have p746 : 0 ≤ (x6_1 : Int) := oda
       have q746 : x6_1 < (l1.length : Int) := oda
       obtain ⟨ad746, e746, hx746_0, hx746_1⟩ := at_T93 HR1.out x6_1 p746 q746
       cases e746
       replace hx746_0 := (HB.out.cell (World.block_lt_of_cell? w _ hx746_0)).trans hx746_0
       replace hx746_1 := (HB.out.cell (World.block_lt_of_cell? w _ hx746_1)).trans hx746_1
       replace p746 := eq_true p746
       replace q746 := eq_true q746
       go_wp2_with (first | ((with_reducible refine gate_callee (f := 56) rfl ?_); refine goesA_ (some 22) rfl rfl Try.func56 (by kernel_rfl) rfl #[.int .i64 ((rd_T93 l1 x6_1).f1), .int .i64 0, .int .i64 2] rfl ?_; (with_reducible refine (spec_l01In.calls ((rd_T93 l1 x6_1).f1) 0 2 false _ A12.out).mono ?_); rintro e w' ⟨rfl, ⟨nd, rfl⟩⟩; refine ⟨_, rfl, ?_⟩))
       go_ret
       exact ⟨by first | rfl | (simp [errW_none, errW_some] <;> rfl) | (simp [*, errW_none, errW_some] <;> rfl), by repeat (first | (with_reducible first | exact HB.out | apply below_alloc | apply pw_below_drewN | apply below_drew1 | refine below_set ?_ GE741.out) | exact HB.out)⟩
     ·rw [if_neg c11] at H
      exact absurd H (by simp)
    ·rw [if_neg c10] at H
     have c10b0 : decide (x6_1 < (l1.length : Int)) = false := decide_eq_false c10
     clear c10
     replace H := Option.bind_eq_some_iff.mp H
     obtain ⟨t752, A160, H⟩ := H
     replace H : (if t752 = true then (some 0) else (some 2)) = some r := H
     have A16 := Aside0.mk A160
     clear A160
     by_cases c17 : t752 = true
     ·subst c17
      have H1 : (some 0) = some r := by rw [if_pos rfl] at H; exact H
      clear H
      have H := H1
      clear H1
      obtain rfl := Option.some.inj H
      have hcz18_0 : wr.cell? ⟨gb741, 0, none⟩ = some (.int .i64 a0_0) := (blk_cell BK741.out 0).trans rfl
      have hcz18_1 : wr.cell? ⟨gb741, 1, none⟩ = some (.int .i64 a0_1) := (blk_cell BK741.out 1).trans rfl
      have hcz18_2 : wr.cell? ⟨gb741, 2, none⟩ = some (.slice A0_2 l0_2.length c0_2) := (blk_cell BK741.out 2).trans rfl
      have hfz18_0 := blk_frozen BK741.out 0
      have hfz18_1 := blk_frozen BK741.out 1
      have hfz18_2 := blk_frozen BK741.out 2
      obtain ⟨Ao19, co19, eo19⟩ := Kd.R_slice HO_5.out
      subst eo19
      go_wp2_with (first | ((with_reducible refine gate_callee (f := 76) rfl ?_); refine goesA_ (some 34) rfl rfl Try.func76 (by kernel_rfl) rfl #[.agg #[.int .i64 a0_0, .int .i64 a0_1, .slice A0_2 l0_2.length c0_2], .slice Ao19 x5_1.length co19] rfl ?_; (with_reducible refine (spec_l09Different.calls k1 a0_0 a0_1 _ _ l0_2 _ _ x5_1 true _ ?side1 ?side2 ?side3 ?side4 A16.out).mono ?_); (case side1 => repeat (first | exact (Kd.C_below HR0_2.out HB.out) | (with_reducible refine Kd.C_alloc ?_ _) | (with_reducible refine Kd.C_drewN ?_ _) | (with_reducible refine Kd.C_drew ?_))); (case side2 => exact HC0_2.out); (case side3 => repeat (first | exact (Kd.R_reads' HO_5.out).2.2 | (with_reducible refine Kd.C_alloc ?_ _) | (with_reducible refine Kd.C_drewN ?_ _) | (with_reducible refine Kd.C_drew ?_))); (case side4 => exact (Kd.R_reads' HO_5.out).2.1); rintro e w20 ⟨rfl, hb⟩; refine ⟨_, rfl, ?_⟩; have n0_ := Aside0.mk (Kd.R_below (by (with_reducible repeat (first | apply Kd.R_alloc | apply Kd.R_drewN | apply Kd.R_drew)); exact HO_5.out) hb); have n1_ := Aside0.mk (blk_below (g := gb741) (o := .cells #[.int .i64 a0_0, .int .i64 a0_1, .slice A0_2 l0_2.length c0_2] 28 (0, 0)) (by (with_reducible repeat (first | refine blk_drewN ?_ _ | refine blk_drew ?_ | refine blk_alloc ?_ _)); exact BK741.out) hb); have n2_ := Aside0.mk (below_step (by repeat (first | (with_reducible first | exact HB.out | apply below_alloc | apply pw_below_drewN | apply below_drew1 | refine below_set ?_ GE741.out) | exact HB.out)) hb); clear HO_5; clear BK741; clear HB; have HO_5 := n0_; have BK741 := n1_; have HB := n2_; clear n0_ n1_ n2_; (try clear hb); (try clear hb2); (try clear hk); (try clear hi)))
      go_ret
      exact ⟨by first | rfl | (simp [errW_none, errW_some] <;> rfl) | (simp [*, errW_none, errW_some] <;> rfl), by repeat (first | (with_reducible first | exact HB.out | apply below_alloc | apply pw_below_drewN | apply below_drew1 | refine below_set ?_ GE741.out) | exact HB.out)⟩
     ·replace c17 := Bool.eq_false_iff.mpr c17
      subst c17
      have H1 : (some 2) = some r := by rw [if_neg (show ¬ (false = true) by decide)] at H; exact H
      clear H
      have H := H1
      clear H1
      obtain rfl := Option.some.inj H
      have hcz21_0 : wr.cell? ⟨gb741, 0, none⟩ = some (.int .i64 a0_0) := (blk_cell BK741.out 0).trans rfl
      have hcz21_1 : wr.cell? ⟨gb741, 1, none⟩ = some (.int .i64 a0_1) := (blk_cell BK741.out 1).trans rfl
      have hcz21_2 : wr.cell? ⟨gb741, 2, none⟩ = some (.slice A0_2 l0_2.length c0_2) := (blk_cell BK741.out 2).trans rfl
      have hfz21_0 := blk_frozen BK741.out 0
      have hfz21_1 := blk_frozen BK741.out 1
      have hfz21_2 := blk_frozen BK741.out 2
      obtain ⟨Ao22, co22, eo22⟩ := Kd.R_slice HO_5.out
      subst eo22
      go_wp2_with (first | ((with_reducible refine gate_callee (f := 76) rfl ?_); refine goesA_ (some 34) rfl rfl Try.func76 (by kernel_rfl) rfl #[.agg #[.int .i64 a0_0, .int .i64 a0_1, .slice A0_2 l0_2.length c0_2], .slice Ao22 x5_1.length co22] rfl ?_; (with_reducible refine (spec_l09Different.calls k1 a0_0 a0_1 _ _ l0_2 _ _ x5_1 false _ ?side1 ?side2 ?side3 ?side4 A16.out).mono ?_); (case side1 => repeat (first | exact (Kd.C_below HR0_2.out HB.out) | (with_reducible refine Kd.C_alloc ?_ _) | (with_reducible refine Kd.C_drewN ?_ _) | (with_reducible refine Kd.C_drew ?_))); (case side2 => exact HC0_2.out); (case side3 => repeat (first | exact (Kd.R_reads' HO_5.out).2.2 | (with_reducible refine Kd.C_alloc ?_ _) | (with_reducible refine Kd.C_drewN ?_ _) | (with_reducible refine Kd.C_drew ?_))); (case side4 => exact (Kd.R_reads' HO_5.out).2.1); rintro e w23 ⟨rfl, hb⟩; refine ⟨_, rfl, ?_⟩; have n0_ := Aside0.mk (Kd.R_below (by (with_reducible repeat (first | apply Kd.R_alloc | apply Kd.R_drewN | apply Kd.R_drew)); exact HO_5.out) hb); have n1_ := Aside0.mk (blk_below (g := gb741) (o := .cells #[.int .i64 a0_0, .int .i64 a0_1, .slice A0_2 l0_2.length c0_2] 28 (0, 0)) (by (with_reducible repeat (first | refine blk_drewN ?_ _ | refine blk_drew ?_ | refine blk_alloc ?_ _)); exact BK741.out) hb); have n2_ := Aside0.mk (below_step (by repeat (first | (with_reducible first | exact HB.out | apply below_alloc | apply pw_below_drewN | apply below_drew1 | refine below_set ?_ GE741.out) | exact HB.out)) hb); clear HO_5; clear BK741; clear HB; have HO_5 := n0_; have BK741 := n1_; have HB := n2_; clear n0_ n1_ n2_; (try clear hb); (try clear hb2); (try clear hk); (try clear hi)))
      go_ret
      exact ⟨by first | rfl | (simp [errW_none, errW_some] <;> rfl) | (simp [*, errW_none, errW_some] <;> rfl), by repeat (first | (with_reducible first | exact HB.out | apply below_alloc | apply pw_below_drewN | apply below_drew1 | refine below_set ?_ GE741.out) | exact HB.out)⟩
 ·replace c4 := Bool.eq_false_iff.mpr c4
  subst c4
  have H1 : (some 1) = some r := by rw [if_neg (show ¬ (false = true) by decide)] at H; exact H
  clear H
  have H := H1
  clear H1
  obtain rfl := Option.some.inj H
  go_enter Try.func83, Try.ntmps83
  go_wp2_with (first | ((with_reducible refine gate_dst (N := 2) rfl ?_); refine box_event ?hg (N := 2) ?hd (cs := #[.int .i64 a0_0, .int .i64 a0_1, .slice A0_2 l0_2.length c0_2]) (t := 28) ?hr ?_; (case hd => rfl); (case hg => rfl); (case hr => first | (go_simp; done) | (go_simp; rfl)); intro gb741 hg w24 hbox hb; have n0_ := Aside0.mk (below_step hb_ hb); have n1_ := Aside0.mk (hbox); have n2_ := Aside0.mk ((by rw [hg]; exact (below_size hb_) : w.heap.size ≤ gb741)); have n3_ := Aside0.mk ((by rw [hg]; exact (below_size hb_) : w.heap.size ≤ gb741)); clear HB; have HB := n0_; have BK741 := n1_; have GW741 := n2_; have GE741 := n3_; clear n0_ n1_ n2_ n3_; clear hb hbox hg; have hcz25_0 : w24.cell? ⟨gb741, 0, none⟩ = some (.int .i64 a0_0) := (blk_cell BK741.out 0).trans rfl; have hcz25_1 : w24.cell? ⟨gb741, 1, none⟩ = some (.int .i64 a0_1) := (blk_cell BK741.out 1).trans rfl; have hcz25_2 : w24.cell? ⟨gb741, 2, none⟩ = some (.slice A0_2 l0_2.length c0_2) := (blk_cell BK741.out 2).trans rfl; have hfz25_0 := blk_frozen BK741.out 0; have hfz25_1 := blk_frozen BK741.out 1; have hfz25_2 := blk_frozen BK741.out 2) | ((with_reducible refine gate_callee (f := 55) rfl ?_); refine goesA_ (some 8) rfl rfl Try.func55 (by kernel_rfl) rfl #[.agg #[.int .i64 a0_0, .int .i64 a0_1, .slice A0_2 l0_2.length c0_2]] rfl ?_; (with_reducible refine (spec_l09Is.calls k a0_0 a0_1 _ _ l0_2 false _ ?side1 ?side2 A3.out).mono ?_); (case side1 => repeat (first | exact (Kd.C_below HR0_2.out HB.out) | (with_reducible refine Kd.C_alloc ?_ _) | (with_reducible refine Kd.C_drewN ?_ _) | (with_reducible refine Kd.C_drew ?_))); (case side2 => exact HC0_2.out); rintro e w26 ⟨rfl, hb⟩; refine ⟨_, rfl, ?_⟩; have n0_ := Aside0.mk (blk_below (g := gb741) (o := .cells #[.int .i64 a0_0, .int .i64 a0_1, .slice A0_2 l0_2.length c0_2] 28 (0, 0)) (by (with_reducible repeat (first | refine blk_drewN ?_ _ | refine blk_drew ?_ | refine blk_alloc ?_ _)); exact BK741.out) hb); have n1_ := Aside0.mk (below_step (by repeat (first | (with_reducible first | exact HB.out | apply below_alloc | apply pw_below_drewN | apply below_drew1 | refine below_set ?_ GE741.out) | exact HB.out)) hb); clear BK741; clear HB; have BK741 := n0_; have HB := n1_; clear n0_ n1_; (try clear hb); (try clear hb2); (try clear hk); (try clear hi)))
  go_ret
  exact ⟨by first | rfl | (simp [errW_none, errW_some] <;> rfl) | (simp [*, errW_none, errW_some] <;> rfl), by repeat (first | (with_reducible first | exact HB.out | apply below_alloc | apply pw_below_drewN | apply below_drew1 | refine below_set ?_ GE741.out) | exact HB.out)⟩
/-! ### impl_Sea_areShots: function 86 -/
def impl_Sea_areShots.l0 : Nat → List Int → List (S93) → Int → Int → Int → Int → List Int → Option (Bool)
 | 0, _, _, _, _, _, _, _ => none
 | k + 1, x5, x9, x10, x11, x768000, x768001, x768002 => if x11 < x10 then (if 0 ≤ x11 then (if x11 < (x9.length : Int) then ((impl_within.f ((rd_T93 x9 x11).f1) 0 2).bind fun t773 => (if t773 = true then (if x5.length < 17592186044416 then (impl_Sea_areShots.l0 k (x5 ++ [(rd_T93 x9 x11).f0]) x9 x10 (wrap64 (x11 + 1)) x768000 x768001 x768002) else (none)) else (some false))) else (none)) else (none)) else ((impl_Sea_areCells.f x768000 x768001 x768002 x5).bind fun t777 => (some t777))
def impl_Sea_areShots.f (k : Nat) (a0_0 : Int) (a0_1 : Int) (l0_2 : List Int) (l1 : List (S93)) : Option (Bool) := impl_Sea_areShots.l0 k (([] : List Int)) l1 (l1.length : Int) 0 a0_0 a0_1 l0_2
set_option maxHeartbeats 8000000 in
set_option maxRecDepth 100000 in
theorem impl_Sea_areShots.calls (k : Nat) (a0_0 : Int) (a0_1 : Int) (A0_2 : Option Addr) (c0_2 : Nat) (l0_2 : List Int) (A1 : Option Addr) (c1 : Nat) (l1 : List (S93)) (r : Bool) (w : World) (hr0_2 : Kd.C (Kd.int .i64) w A0_2 l0_2.length l0_2) (hc0_2 : l0_2.length ≤ c0_2) (hr1 : Kd.C k93 w A1 l1.length l1) (hc1 : l1.length ≤ c1) (h : impl_Sea_areShots.f k a0_0 a0_1 l0_2 l1 = some r) :
  Calls Try.prog 86 #[.agg #[.int .i64 a0_0, .int .i64 a0_1, .slice A0_2 l0_2.length c0_2], .slice A1 l1.length c1] w fun e w' => e = .returned (.bool r) ∧ Below w.heap.size w w' := by
 have hu28 := Try.underlying28
 have hu93 := Try.underlying93
 have HR0_2 := Aside0.mk hr0_2
 have HC0_2 := Aside0.mk hc0_2
 clear hr0_2 hc0_2
 have HR1 := Aside0.mk hr1
 have HC1 := Aside0.mk hc1
 clear hr1 hc1
 have HB := Aside0.mk (Below.refl w.heap.size w)
 have H : (impl_Sea_areShots.l0 k (([] : List Int)) l1 (l1.length : Int) 0 a0_0 a0_1 l0_2) = some r := h
 clear h
 obtain ⟨y768, hy768⟩ : ∃ y_ : List Int, y_ = (([] : List Int)) := ⟨_, rfl⟩
 replace H : (impl_Sea_areShots.l0 k y768 l1 (l1.length : Int) 0 a0_0 a0_1 l0_2) = some r := by first | (rw [hy768]; with_reducible exact H) | (have H2_ := (Option.bind_some _ _).symm.trans H; rw [hy768]; with_reducible exact H2_) | (have H2_ := (Option.bind_some _ _).symm.trans H; with_reducible exact H2_) | with_reducible exact H | (rw [hy768]; exact H) | exact H
 have Ny768 := Aside0.mk hy768
 clear hy768
 have H' := Aside0.mk H
 clear H
 go_enter Try.func86, Try.ntmps86
 go_wp2_with (first | ((with_reducible refine gate_dst (N := 2) rfl ?_); refine box_event ?hg (N := 2) ?hd (cs := #[.int .i64 a0_0, .int .i64 a0_1, .slice A0_2 l0_2.length c0_2]) (t := 28) ?hr ?_; (case hd => rfl); (case hg => rfl); (case hr => first | (go_simp; done) | (go_simp; rfl)); intro gb767 hg w3 hbox hb; have n0_ := Aside0.mk (below_step hb_ hb); have n1_ := Aside0.mk (hbox); have n2_ := Aside0.mk ((by rw [hg]; exact (below_size hb_) : w.heap.size ≤ gb767)); have n3_ := Aside0.mk ((by rw [hg]; exact (below_size hb_) : w.heap.size ≤ gb767)); clear HB; have HB := n0_; have BK767 := n1_; have GW767 := n2_; have GE767 := n3_; clear n0_ n1_ n2_ n3_; clear hb hbox hg) | ((with_reducible refine gate_dst (N := 8) rfl ?_); refine Kd.R_lit (Kd.int .i64) _ 2 ?hg (N := 8) ?hd (xs := ([] : List Int)) (inner := []) (ok := fun _ => True) (okp := fun _ => True) ?hr ?hp (fun _ hk => hk) trivial (Below.refl _ _) (Nat.le_refl _) (by simp) ?_; (case hd => rfl); (case hg => rfl); (case hr => first | (go_simp; done) | (go_simp; rfl)); (case hp => exact (Reps.none _ _)); intro v769 w4 ho5 hb hg_ hnew_; clear hg_ hnew_; (first | rw [← Ny768.out] at ho5 | (simp only [Int.reduceToNat] at ho5; rw [← Ny768.out] at ho5)); have n0_ := Aside0.mk (Kd.R_lower ho5 (below_size (by repeat (first | (with_reducible first | exact HB.out | apply below_alloc | apply pw_below_drewN | apply below_drew1 | refine below_set ?_ GE767.out) | exact HB.out)))); have n1_ := Aside0.mk (blk_below (g := gb767) (o := .cells #[.int .i64 a0_0, .int .i64 a0_1, .slice A0_2 l0_2.length c0_2] 28 (0, 0)) (by (with_reducible repeat (first | refine blk_drewN ?_ _ | refine blk_drew ?_ | refine blk_alloc ?_ _)); exact BK767.out) hb); have n2_ := Aside0.mk (below_step (by repeat (first | (with_reducible first | exact HB.out | apply below_alloc | apply pw_below_drewN | apply below_drew1 | refine below_set ?_ GE767.out) | exact HB.out)) hb); clear BK767; clear HB; have HO770 := n0_; have BK767 := n1_; have HB := n2_; clear n0_ n1_ n2_; clear hb ho5))
 go_loopg [5, 11] k (fun kq v5 v11 w' => ∃ (x5_1 : List Int) (x11_1 : Int), v11 = .int .i64 x11_1 ∧ Aside0 (impl_Sea_areShots.l0 kq x5_1 l1 (l1.length : Int) x11_1 a0_0 a0_1 l0_2 = some r) ∧ Aside0 (kq ≤ k) ∧ Aside0 (Kd.R (Kd.int .i64) 2 w' w.heap.size (fun _ => True) v5 x5_1) ∧ Aside0 (w'.heap[gb767]? = some (.cells #[.int .i64 a0_0, .int .i64 a0_1, (.slice A0_2 l0_2.length c0_2)] 28 (0, 0))) ∧ Aside0 (Below w.heap.size w w'))
 case atStart => exact ⟨(y768), (0), (by first | rfl | (simp; done) | (simp [*]; done)), H', ⟨Nat.le_refl _⟩, ⟨by (with_reducible repeat (first | apply Kd.R_alloc | apply Kd.R_drewN | apply Kd.R_drew)); exact HO770.out⟩, ⟨by (with_reducible repeat (first | refine blk_drewN ?_ _ | refine blk_drew ?_ | refine blk_alloc ?_ _)); exact BK767.out⟩, ⟨by repeat (first | (with_reducible first | exact HB.out | apply below_alloc | apply pw_below_drewN | apply below_drew1 | refine below_set ?_ GE767.out) | exact HB.out)⟩⟩
 case round =>
  clear H'
  (try clear c1); (try clear p2)
  obtain ⟨x5_1, x11_1, rfl, HA, HK1, HO_5, BK767, HB⟩ := hrel
  cases gk with
  | zero => exact absurd HA.out (by simp [impl_Sea_areShots.l0])
  | succ k1 =>
   have H := HA.out
   clear HA
   simp only [impl_Sea_areShots.l0] at H
   by_cases c6 : x11_1 < (l1.length : Int)
   ·rw [if_pos c6] at H
    have c6b0 : decide (x11_1 < (l1.length : Int)) = true := decide_eq_true c6
    clear c6
    by_cases c7 : 0 ≤ x11_1
    ·rw [if_pos c7] at H
     have c7b0 : decide (0 ≤ x11_1) = true := decide_eq_true c7
     clear c7
     by_cases c8 : x11_1 < (l1.length : Int)
     ·rw [if_pos c8] at H
      have c8b0 : decide (x11_1 < (l1.length : Int)) = true := decide_eq_true c8
      clear c8
      replace H := Option.bind_eq_some_iff.mp H
      obtain ⟨t773, A90, H⟩ := H
      replace H : (if t773 = true then (if x5_1.length < 17592186044416 then (impl_Sea_areShots.l0 k1 (x5_1 ++ [(rd_T93 l1 x11_1).f0]) l1 (l1.length : Int) (wrap64 (x11_1 + 1)) a0_0 a0_1 l0_2) else (none)) else (some false)) = some r := H
      have A9 := Aside0.mk A90
      clear A90
      by_cases c10 : t773 = true
      ·subst c10
       have H1 : (if x5_1.length < 17592186044416 then (impl_Sea_areShots.l0 k1 (x5_1 ++ [(rd_T93 l1 x11_1).f0]) l1 (l1.length : Int) (wrap64 (x11_1 + 1)) a0_0 a0_1 l0_2) else (none)) = some r := by rw [if_pos rfl] at H; exact H
       clear H
       have H := H1
       clear H1
       by_cases c11 : x5_1.length < 17592186044416
       ·rw [if_pos c11] at H
        have LMc11 := Aside0.mk c11
        clear c11
        obtain ⟨y774, hy774⟩ : ∃ y_ : List Int, y_ = (x5_1 ++ [(rd_T93 l1 x11_1).f0]) := ⟨_, rfl⟩
        replace H : (impl_Sea_areShots.l0 k1 y774 l1 (l1.length : Int) (wrap64 (x11_1 + 1)) a0_0 a0_1 l0_2) = some r := by first | (rw [hy774]; with_reducible exact H) | (have H2_ := (Option.bind_some _ _).symm.trans H; rw [hy774]; with_reducible exact H2_) | (have H2_ := (Option.bind_some _ _).symm.trans H; with_reducible exact H2_) | with_reducible exact H | (rw [hy774]; exact H) | exact H
        have Ny774 := Aside0.mk hy774
        clear hy774
        have H' := Aside0.mk H
        clear H
        have p771 : 0 ≤ (x11_1 : Int) := oda
        have q771 : x11_1 < (l1.length : Int) := oda
        obtain ⟨ad771, e771, hx771_0, hx771_1⟩ := at_T93 HR1.out x11_1 p771 q771
        cases e771
        replace hx771_0 := (HB.out.cell (World.block_lt_of_cell? w _ hx771_0)).trans hx771_0
        replace hx771_1 := (HB.out.cell (World.block_lt_of_cell? w _ hx771_1)).trans hx771_1
        replace p771 := eq_true p771
        replace q771 := eq_true q771
        go_wp2_with (first | ((with_reducible refine gate_dst (N := 7) rfl ?_); refine box_event ?hg (N := 7) ?hd (cs := #[.int .i64 0, .int .i64 0]) (t := 93) ?hr ?_; (case hd => rfl); (case hg => rfl); (case hr => first | (go_simp; done) | (go_simp; rfl)); intro gb772 hg w12 hbox hb; have n0_ := Aside0.mk (Kd.R_below (by (with_reducible repeat (first | apply Kd.R_alloc | apply Kd.R_drewN | apply Kd.R_drew)); exact HO_5.out) hb); have n1_ := Aside0.mk (blk_below (g := gb767) (o := .cells #[.int .i64 a0_0, .int .i64 a0_1, .slice A0_2 l0_2.length c0_2] 28 (0, 0)) (by (with_reducible repeat (first | refine blk_drewN ?_ _ | refine blk_drew ?_ | refine blk_alloc ?_ _)); exact BK767.out) hb); have n2_ := Aside0.mk (below_step (by repeat (first | (with_reducible first | exact HB.out | apply below_alloc | apply pw_below_drewN | apply below_drew1 | refine below_set ?_ GE767.out) | exact HB.out)) hb); have n3_ := Aside0.mk (hbox); have n4_ := Aside0.mk ((by rw [hg]; exact (below_size (by repeat (first | (with_reducible first | exact HB.out | apply below_alloc | apply pw_below_drewN | apply below_drew1 | refine below_set ?_ GE767.out) | exact HB.out))) : w.heap.size ≤ gb772)); have n5_ := Aside0.mk ((by rw [hg]; exact (below_size (by repeat (first | (with_reducible first | exact HB.out | apply below_alloc | apply pw_below_drewN | apply below_drew1 | refine below_set ?_ GE767.out) | exact HB.out))) : w.heap.size ≤ gb772)); have n6_ := Aside0.mk ((by rw [hg]; exact Nat.ne_of_lt (blk_lt (g := gb767) (o := .cells #[.int .i64 a0_0, .int .i64 a0_1, .slice A0_2 l0_2.length c0_2] 28 (0, 0)) (by (with_reducible repeat (first | refine blk_drewN ?_ _ | refine blk_drew ?_ | refine blk_alloc ?_ _)); exact BK767.out)) : gb767 ≠ gb772)); have n7_ := Aside0.mk ((by rw [hg]; exact Nat.ne_of_gt (blk_lt (g := gb767) (o := .cells #[.int .i64 a0_0, .int .i64 a0_1, .slice A0_2 l0_2.length c0_2] 28 (0, 0)) (by (with_reducible repeat (first | refine blk_drewN ?_ _ | refine blk_drew ?_ | refine blk_alloc ?_ _)); exact BK767.out)) : gb772 ≠ gb767)); clear HO_5; clear BK767; clear HB; have HO_5 := n0_; have BK767 := n1_; have HB := n2_; have BK772 := n3_; have GW772 := n4_; have GE772 := n5_; have NB767_772 := n6_; have NB772_767 := n7_; clear n0_ n1_ n2_ n3_ n4_ n5_ n6_ n7_; clear hb hbox hg; have hnb13 := NB772_767.out; have hnc13 := NB767_772.out; have hcz14_0 : w12.cell? ⟨gb772, 0, none⟩ = some (.int .i64 0) := (blk_cell BK772.out 0).trans rfl; have hcz14_1 : w12.cell? ⟨gb772, 1, none⟩ = some (.int .i64 0) := (blk_cell BK772.out 1).trans rfl; have hfz14_0 := blk_frozen BK772.out 0; have hfz14_1 := blk_frozen BK772.out 1) | ((with_reducible refine gate_callee (f := 60) rfl ?_); refine goesA_ (some 17) rfl rfl Try.func60 (by kernel_rfl) rfl #[.int .i64 ((rd_T93 l1 x11_1).f1), .int .i64 0, .int .i64 2] rfl ?_; (with_reducible refine (impl_within.calls ((rd_T93 l1 x11_1).f1) 0 2 true _ A9.out).mono ?_); rintro e w' ⟨rfl, ⟨nd, rfl⟩⟩; refine ⟨_, rfl, ?_⟩) | ((with_reducible refine gate_builtin (b := .append) (xs := #[.tmp 19, .tmp 22]) rfl ?_); at_builtin; refine Kd.R_append (Kd.int .i64) (w0 := w) w.heap.size rfl (.tmp 19) (.tmp 22) 22 2 (.int .i64 0) 8 rfl Try.underlying22 info2 rfl (by decide) (by omega) u5 x5_1 ((rd_T93 l1 x11_1).f0) [.int .i64 ((rd_T93 l1 x11_1).f0)] (fun _ => True) (fun _ => False) rfl (by first | (go_simp; done) | (go_simp; rfl)) ?aP (fun _ hk => hk.elim) ?aF ?aO ?aB ?aS ?aL ?_; (case aP => exact rfl); (case aB => exact (by repeat (first | (with_reducible first | exact HB.out | apply below_alloc | apply pw_below_drewN | apply below_drew1 | refine below_set ?_ GE767.out | refine below_set ?_ GE772.out) | exact HB.out))); (case aF => exact (fun _ _ => trivial)); (case aO => exact (by (with_reducible repeat (first | apply Kd.R_alloc | apply Kd.R_drewN | apply Kd.R_drew)); exact Kd.R_mono (Kd.R_far (p := ⟨gb772, 1, none⟩) (Kd.R_far (p := ⟨gb772, 0, none⟩) (Kd.R_types HO_5.out BK772.out (by decide)) (fun _ hk => hk.2) (.int .i64 ((rd_T93 l1 x11_1).f0))) (fun _ hk => hk.2) (.int .i64 ((rd_T93 l1 x11_1).f1))) (fun _ hk => trivial))); (case aS => exact (below_size (by repeat (first | (with_reducible first | exact HB.out | apply below_alloc | apply pw_below_drewN | apply below_drew1 | refine below_set ?_ GE767.out | refine below_set ?_ GE772.out) | exact HB.out)))); (case aL => have := LMc11.out; omega); intro v775 w15 ho hb hg hat; rw [← Ny774.out] at ho; have n0_ := Aside0.mk (blk_grown (g := gb767) (o := .cells #[.int .i64 a0_0, .int .i64 a0_1, .slice A0_2 l0_2.length c0_2] 28 (0, 0)) (by (with_reducible repeat (first | refine blk_drewN ?_ _ | refine blk_drew ?_ | refine blk_alloc ?_ _)); refine blk_far ?_ NB767_772.out _; (with_reducible repeat (first | refine blk_drewN ?_ _ | refine blk_drew ?_ | refine blk_alloc ?_ _)); refine blk_far ?_ NB767_772.out _; (with_reducible repeat (first | refine blk_drewN ?_ _ | refine blk_drew ?_ | refine blk_alloc ?_ _)); exact BK767.out) hg (Kd.R_ne HO_5.out BK767.out (by decide))); have n1_ := Aside0.mk (blk_grown (g := gb772) (o := .cells #[.int .i64 ((rd_T93 l1 x11_1).f0), .int .i64 ((rd_T93 l1 x11_1).f1)] 93 (0, 0)) (by (with_reducible repeat (first | refine blk_drewN ?_ _ | refine blk_drew ?_ | refine blk_alloc ?_ _)); refine blk_put (cs := #[.int .i64 ((rd_T93 l1 x11_1).f0), .int .i64 0]) ?_ 1 _ rfl; (with_reducible repeat (first | refine blk_drewN ?_ _ | refine blk_drew ?_ | refine blk_alloc ?_ _)); refine blk_put (cs := #[.int .i64 0, .int .i64 0]) ?_ 0 _ rfl; (with_reducible repeat (first | refine blk_drewN ?_ _ | refine blk_drew ?_ | refine blk_alloc ?_ _)); exact BK772.out) hg (Kd.R_ne HO_5.out BK772.out (by decide))); have n2_ := Aside0.mk (hb); have n3_ := Aside0.mk (ho); clear BK767; clear BK772; clear HB; clear HO_5; have BK767 := n0_; have BK772 := n1_; have HB := n2_; have HO776 := n3_; clear n0_ n1_ n2_ n3_; clear ho hb hg hat))
        go_roundg k1
        case measure => have := HK1.out; omega
        case rel => exact ⟨(y774), (wrap64 (x11_1 + 1)), (by first | rfl | (simp; done) | (simp [*]; done)), H', ⟨by have := HK1.out; omega⟩, ⟨by (with_reducible repeat (first | apply Kd.R_alloc | apply Kd.R_drewN | apply Kd.R_drew)); exact HO776.out⟩, ⟨by (with_reducible repeat (first | refine blk_drewN ?_ _ | refine blk_drew ?_ | refine blk_alloc ?_ _)); exact BK767.out⟩, ⟨by repeat (first | (with_reducible first | exact HB.out | apply below_alloc | apply pw_below_drewN | apply below_drew1 | refine below_set ?_ GE767.out | refine below_set ?_ GE772.out) | exact HB.out)⟩⟩
       ·rw [if_neg c11] at H
        exact absurd H (by simp)
      ·replace c10 := Bool.eq_false_iff.mpr c10
       subst c10
       have H1 : (some false) = some r := by rw [if_neg (show ¬ (false = true) by decide)] at H; exact H
       clear H
       have H := H1
       clear H1
       obtain rfl := Option.some.inj H
       have p771 : 0 ≤ (x11_1 : Int) := oda
       have q771 : x11_1 < (l1.length : Int) := oda
       obtain ⟨ad771, e771, hx771_0, hx771_1⟩ := at_T93 HR1.out x11_1 p771 q771
       cases e771
       replace hx771_0 := (HB.out.cell (World.block_lt_of_cell? w _ hx771_0)).trans hx771_0
       replace hx771_1 := (HB.out.cell (World.block_lt_of_cell? w _ hx771_1)).trans hx771_1
       replace p771 := eq_true p771
       replace q771 := eq_true q771
       go_wp2_with (first | ((with_reducible refine gate_dst (N := 7) rfl ?_); refine box_event ?hg (N := 7) ?hd (cs := #[.int .i64 0, .int .i64 0]) (t := 93) ?hr ?_; (case hd => rfl); (case hg => rfl); (case hr => first | (go_simp; done) | (go_simp; rfl)); intro gb772 hg w16 hbox hb; have n0_ := Aside0.mk (Kd.R_below (by (with_reducible repeat (first | apply Kd.R_alloc | apply Kd.R_drewN | apply Kd.R_drew)); exact HO_5.out) hb); have n1_ := Aside0.mk (blk_below (g := gb767) (o := .cells #[.int .i64 a0_0, .int .i64 a0_1, .slice A0_2 l0_2.length c0_2] 28 (0, 0)) (by (with_reducible repeat (first | refine blk_drewN ?_ _ | refine blk_drew ?_ | refine blk_alloc ?_ _)); exact BK767.out) hb); have n2_ := Aside0.mk (below_step (by repeat (first | (with_reducible first | exact HB.out | apply below_alloc | apply pw_below_drewN | apply below_drew1 | refine below_set ?_ GE767.out) | exact HB.out)) hb); have n3_ := Aside0.mk (hbox); have n4_ := Aside0.mk ((by rw [hg]; exact (below_size (by repeat (first | (with_reducible first | exact HB.out | apply below_alloc | apply pw_below_drewN | apply below_drew1 | refine below_set ?_ GE767.out) | exact HB.out))) : w.heap.size ≤ gb772)); have n5_ := Aside0.mk ((by rw [hg]; exact (below_size (by repeat (first | (with_reducible first | exact HB.out | apply below_alloc | apply pw_below_drewN | apply below_drew1 | refine below_set ?_ GE767.out) | exact HB.out))) : w.heap.size ≤ gb772)); have n6_ := Aside0.mk ((by rw [hg]; exact Nat.ne_of_lt (blk_lt (g := gb767) (o := .cells #[.int .i64 a0_0, .int .i64 a0_1, .slice A0_2 l0_2.length c0_2] 28 (0, 0)) (by (with_reducible repeat (first | refine blk_drewN ?_ _ | refine blk_drew ?_ | refine blk_alloc ?_ _)); exact BK767.out)) : gb767 ≠ gb772)); have n7_ := Aside0.mk ((by rw [hg]; exact Nat.ne_of_gt (blk_lt (g := gb767) (o := .cells #[.int .i64 a0_0, .int .i64 a0_1, .slice A0_2 l0_2.length c0_2] 28 (0, 0)) (by (with_reducible repeat (first | refine blk_drewN ?_ _ | refine blk_drew ?_ | refine blk_alloc ?_ _)); exact BK767.out)) : gb772 ≠ gb767)); clear HO_5; clear BK767; clear HB; have HO_5 := n0_; have BK767 := n1_; have HB := n2_; have BK772 := n3_; have GW772 := n4_; have GE772 := n5_; have NB767_772 := n6_; have NB772_767 := n7_; clear n0_ n1_ n2_ n3_ n4_ n5_ n6_ n7_; clear hb hbox hg; have hnb17 := NB772_767.out; have hnc17 := NB767_772.out; have hcz18_0 : w16.cell? ⟨gb772, 0, none⟩ = some (.int .i64 0) := (blk_cell BK772.out 0).trans rfl; have hcz18_1 : w16.cell? ⟨gb772, 1, none⟩ = some (.int .i64 0) := (blk_cell BK772.out 1).trans rfl; have hfz18_0 := blk_frozen BK772.out 0; have hfz18_1 := blk_frozen BK772.out 1) | ((with_reducible refine gate_callee (f := 60) rfl ?_); refine goesA_ (some 17) rfl rfl Try.func60 (by kernel_rfl) rfl #[.int .i64 ((rd_T93 l1 x11_1).f1), .int .i64 0, .int .i64 2] rfl ?_; (with_reducible refine (impl_within.calls ((rd_T93 l1 x11_1).f1) 0 2 false _ A9.out).mono ?_); rintro e w' ⟨rfl, ⟨nd, rfl⟩⟩; refine ⟨_, rfl, ?_⟩))
       go_ret
       exact ⟨by first | rfl | (simp [errW_none, errW_some] <;> rfl) | (simp [*, errW_none, errW_some] <;> rfl), by repeat (first | (with_reducible first | exact HB.out | apply below_alloc | apply pw_below_drewN | apply below_drew1 | refine below_set ?_ GE767.out | refine below_set ?_ GE772.out) | exact HB.out)⟩
     ·rw [if_neg c8] at H
      exact absurd H (by simp)
    ·rw [if_neg c7] at H
     exact absurd H (by simp)
   ·rw [if_neg c6] at H
    have c6b0 : decide (x11_1 < (l1.length : Int)) = false := decide_eq_false c6
    clear c6
    replace H := Option.bind_eq_some_iff.mp H
    obtain ⟨t777, A190, H⟩ := H
    replace H : (some t777) = some r := H
    have A19 := Aside0.mk A190
    clear A190
    obtain rfl := Option.some.inj H
    have hcz20_0 : wr.cell? ⟨gb767, 0, none⟩ = some (.int .i64 a0_0) := (blk_cell BK767.out 0).trans rfl
    have hcz20_1 : wr.cell? ⟨gb767, 1, none⟩ = some (.int .i64 a0_1) := (blk_cell BK767.out 1).trans rfl
    have hcz20_2 : wr.cell? ⟨gb767, 2, none⟩ = some (.slice A0_2 l0_2.length c0_2) := (blk_cell BK767.out 2).trans rfl
    have hfz20_0 := blk_frozen BK767.out 0
    have hfz20_1 := blk_frozen BK767.out 1
    have hfz20_2 := blk_frozen BK767.out 2
    obtain ⟨Ao21, co21, eo21⟩ := Kd.R_slice HO_5.out
    subst eo21
    go_wp2_with (first | ((with_reducible refine gate_callee (f := 107) rfl ?_); refine goesA_ (some 27) rfl rfl Try.func107 (by kernel_rfl) rfl #[.agg #[.int .i64 a0_0, .int .i64 a0_1, .slice A0_2 l0_2.length c0_2], .slice Ao21 x5_1.length co21] rfl ?_; (with_reducible refine (impl_Sea_areCells.calls a0_0 a0_1 _ _ l0_2 _ _ x5_1 t777 _ ?side1 ?side2 ?side3 ?side4 A19.out).mono ?_); (case side1 => repeat (first | exact (Kd.C_below HR0_2.out HB.out) | (with_reducible refine Kd.C_alloc ?_ _) | (with_reducible refine Kd.C_drewN ?_ _) | (with_reducible refine Kd.C_drew ?_))); (case side2 => exact HC0_2.out); (case side3 => repeat (first | exact (Kd.R_reads' HO_5.out).2.2 | (with_reducible refine Kd.C_alloc ?_ _) | (with_reducible refine Kd.C_drewN ?_ _) | (with_reducible refine Kd.C_drew ?_))); (case side4 => exact (Kd.R_reads' HO_5.out).2.1); rintro e w22 ⟨rfl, hb⟩; refine ⟨_, rfl, ?_⟩; have n0_ := Aside0.mk (Kd.R_below (by (with_reducible repeat (first | apply Kd.R_alloc | apply Kd.R_drewN | apply Kd.R_drew)); exact HO_5.out) hb); have n1_ := Aside0.mk (blk_below (g := gb767) (o := .cells #[.int .i64 a0_0, .int .i64 a0_1, .slice A0_2 l0_2.length c0_2] 28 (0, 0)) (by (with_reducible repeat (first | refine blk_drewN ?_ _ | refine blk_drew ?_ | refine blk_alloc ?_ _)); exact BK767.out) hb); have n2_ := Aside0.mk (below_step (by repeat (first | (with_reducible first | exact HB.out | apply below_alloc | apply pw_below_drewN | apply below_drew1 | refine below_set ?_ GE767.out) | exact HB.out)) hb); clear HO_5; clear BK767; clear HB; have HO_5 := n0_; have BK767 := n1_; have HB := n2_; clear n0_ n1_ n2_; (try clear hb); (try clear hb2); (try clear hk); (try clear hi)))
    go_ret
    exact ⟨by first | rfl | (simp [errW_none, errW_some] <;> rfl) | (simp [*, errW_none, errW_some] <;> rfl), by repeat (first | (with_reducible first | exact HB.out | apply below_alloc | apply pw_below_drewN | apply below_drew1 | refine below_set ?_ GE767.out) | exact HB.out)⟩
/-! ### impl_agrees: function 87 -/
def impl_agrees.l0 : Nat → List Int → Int → List (S93) → Int → Int → Option (Bool)
 | 0, _, _, _, _, _ => none
 | k + 1, x0, x5, x8, x9, x10 => if x10 < x9 then (if 0 ≤ x10 then (if x10 < (x8.length : Int) then ((impl_answer.f k x0 x5 ((rd_T93 x8 x10).f0)).bind fun t780 => (if t780 = ((rd_T93 x8 x10).f1) then (if 0 ≤ ((rd_T93 x8 x10).f0) then (impl_agrees.l0 k x0 (Go.bits .or .i64 x5 (shl .i64 1 ((rd_T93 x8 x10).f0))) x8 x9 (wrap64 (x10 + 1))) else (none)) else (some false))) else (none)) else (none)) else (some true)
def impl_agrees.f (k : Nat) (l0 : List Int) (l1 : List (S93)) : Option (Bool) := impl_agrees.l0 k l0 0 l1 (l1.length : Int) 0
set_option maxHeartbeats 8000000 in
set_option maxRecDepth 100000 in
theorem impl_agrees.calls (k : Nat) (A0 : Option Addr) (c0 : Nat) (l0 : List Int) (A1 : Option Addr) (c1 : Nat) (l1 : List (S93)) (r : Bool) (w : World) (hr0 : Kd.C (Kd.int .i64) w A0 l0.length l0) (hc0 : l0.length ≤ c0) (hr1 : Kd.C k93 w A1 l1.length l1) (hc1 : l1.length ≤ c1) (h : impl_agrees.f k l0 l1 = some r) :
  Calls Try.prog 87 #[.slice A0 l0.length c0, .slice A1 l1.length c1] w fun e w' => e = .returned (.bool r) ∧ Below w.heap.size w w' := by
 have hu93 := Try.underlying93
 have HR0 := Aside0.mk hr0
 have HC0 := Aside0.mk hc0
 clear hr0 hc0
 have HR1 := Aside0.mk hr1
 have HC1 := Aside0.mk hc1
 clear hr1 hc1
 have HB := Aside0.mk (Below.refl w.heap.size w)
 have H : (impl_agrees.l0 k l0 0 l1 (l1.length : Int) 0) = some r := h
 clear h
 have H' := Aside0.mk H
 clear H
 go_enter Try.func87, Try.ntmps87
 go_wp2
 repeat (go_quiet (fail); try go_wp2)
 go_loopg [5, 10] k (fun kq v5 v10 w' => ∃ (x5_1 : Int) (x10_1 : Int), v5 = .int .i64 x5_1 ∧ v10 = .int .i64 x10_1 ∧ Aside0 (impl_agrees.l0 kq l0 x5_1 l1 (l1.length : Int) x10_1 = some r) ∧ Aside0 (kq ≤ k) ∧ Aside0 (Below w.heap.size w w'))
 case atStart => exact ⟨(0), (0), (by first | rfl | (simp; done) | (simp [*]; done)), (by first | rfl | (simp; done) | (simp [*]; done)), H', ⟨Nat.le_refl _⟩, ⟨by repeat (first | (with_reducible first | exact HB.out | apply below_alloc | apply pw_below_drewN | apply below_drew1) | exact HB.out)⟩⟩
 case round =>
  clear H'
  (try clear c1); (try clear p2)
  obtain ⟨x5_1, x10_1, rfl, rfl, HA, HK1, HB⟩ := hrel
  cases gk with
  | zero => exact absurd HA.out (by simp [impl_agrees.l0])
  | succ k1 =>
   have H := HA.out
   clear HA
   simp only [impl_agrees.l0] at H
   by_cases c3 : x10_1 < (l1.length : Int)
   ·rw [if_pos c3] at H
    have c3b0 : decide (x10_1 < (l1.length : Int)) = true := decide_eq_true c3
    clear c3
    by_cases c4 : 0 ≤ x10_1
    ·rw [if_pos c4] at H
     have c4b0 : decide (0 ≤ x10_1) = true := decide_eq_true c4
     clear c4
     by_cases c5 : x10_1 < (l1.length : Int)
     ·rw [if_pos c5] at H
      have c5b0 : decide (x10_1 < (l1.length : Int)) = true := decide_eq_true c5
      clear c5
      replace H := Option.bind_eq_some_iff.mp H
      obtain ⟨t780, A60, H⟩ := H
      replace H : (if t780 = ((rd_T93 l1 x10_1).f1) then (if 0 ≤ ((rd_T93 l1 x10_1).f0) then (impl_agrees.l0 k1 l0 (Go.bits .or .i64 x5_1 (shl .i64 1 ((rd_T93 l1 x10_1).f0))) l1 (l1.length : Int) (wrap64 (x10_1 + 1))) else (none)) else (some false)) = some r := H
      have A6 := Aside0.mk A60
      clear A60
      by_cases c7 : t780 = ((rd_T93 l1 x10_1).f1)
      ·rw [if_pos c7] at H
       have c7b0 : (t780 == ((rd_T93 l1 x10_1).f1)) = true := beq_iff_eq.mpr c7
       have c7b1 : (t780 != ((rd_T93 l1 x10_1).f1)) = false := bne_eq_false_iff_eq.mpr c7
       clear c7
       by_cases c8 : 0 ≤ ((rd_T93 l1 x10_1).f0)
       ·rw [if_pos c8] at H
        have c8b0 := eq_true c8
        have c8b1 : decide (0 ≤ ((rd_T93 l1 x10_1).f0)) = true := decide_eq_true c8
        clear c8
        obtain ⟨ji9, hji9⟩ : ∃ j_ : Int, (shl .i64 1 ((rd_T93 l1 x10_1).f0)) = j_ := ⟨_, rfl⟩
        replace H : (impl_agrees.l0 k1 l0 (Go.bits .or .i64 x5_1 (ji9)) l1 (l1.length : Int) (wrap64 (x10_1 + 1))) = some r := by first | (rw [hji9] at H; exact H) | (simp only [hji9] at H ⊢; exact H)
        (try rw [hji9] at A6)
        have hji9_ : (IntKind.i64.wrap (1 * 2 ^ min ((rd_T93 l1 x10_1).f0).toNat 64)) = ji9 := hji9
        have hji9z : ((rd_T93 l1 x10_1).f0) ≤ 64 → (IntKind.i64.wrap (1 * 2 ^ ((rd_T93 l1 x10_1).f0).toNat)) = ji9 := shl_small hji9
        have hji9u : (IntKind.i64.wrap (2 ^ min ((rd_T93 l1 x10_1).f0).toNat 64)) = ji9 := by have h_ := hji9_; rw [Int.one_mul] at h_; exact h_
        have hji9v : ((rd_T93 l1 x10_1).f0) ≤ 64 → (IntKind.i64.wrap (2 ^ ((rd_T93 l1 x10_1).f0).toNat)) = ji9 := fun hle_ => by have h_ := hji9z hle_; rw [Int.one_mul] at h_; exact h_
        have hji9y : (wrap64 (1 * 2 ^ min ((rd_T93 l1 x10_1).f0).toNat 64)) = ji9 := (i64_w _).symm.trans hji9_
        have hji9x : ((rd_T93 l1 x10_1).f0) ≤ 64 → (wrap64 (1 * 2 ^ ((rd_T93 l1 x10_1).f0).toNat)) = ji9 := fun h_ => (i64_w _).symm.trans (hji9z h_)
        have H' := Aside0.mk H
        clear H
        have p778 : 0 ≤ (x10_1 : Int) := oda
        have q778 : x10_1 < (l1.length : Int) := oda
        obtain ⟨ad778, e778, hx778_0, hx778_1⟩ := at_T93 HR1.out x10_1 p778 q778
        cases e778
        replace hx778_0 := (HB.out.cell (World.block_lt_of_cell? w _ hx778_0)).trans hx778_0
        replace hx778_1 := (HB.out.cell (World.block_lt_of_cell? w _ hx778_1)).trans hx778_1
        replace p778 := eq_true p778
        replace q778 := eq_true q778
        go_wp2_with (first | ((with_reducible refine gate_dst (N := 7) rfl ?_); refine box_event ?hg (N := 7) ?hd (cs := #[.int .i64 0, .int .i64 0]) (t := 93) ?hr ?_; (case hd => rfl); (case hg => rfl); (case hr => first | (go_simp; done) | (go_simp; rfl)); intro gb779 hg w10 hbox hb; have n0_ := Aside0.mk (below_step hb_ hb); have n1_ := Aside0.mk (hbox); have n2_ := Aside0.mk ((by rw [hg]; exact (below_size hb_) : w.heap.size ≤ gb779)); have n3_ := Aside0.mk ((by rw [hg]; exact (below_size hb_) : w.heap.size ≤ gb779)); clear HB; have HB := n0_; have BK779 := n1_; have GW779 := n2_; have GE779 := n3_; clear n0_ n1_ n2_ n3_; clear hb hbox hg; have hcz11_0 : w10.cell? ⟨gb779, 0, none⟩ = some (.int .i64 0) := (blk_cell BK779.out 0).trans rfl; have hcz11_1 : w10.cell? ⟨gb779, 1, none⟩ = some (.int .i64 0) := (blk_cell BK779.out 1).trans rfl; have hfz11_0 := blk_frozen BK779.out 0; have hfz11_1 := blk_frozen BK779.out 1) | (go_at_call 78; (with_reducible refine (impl_answer.calls k1 _ _ l0 x5_1 ((rd_T93 l1 x10_1).f0) t780 _ ?side1 ?side2 A6.out).mono ?_); (case side1 => exact Kd.C_below HR0.out (by repeat (first | (with_reducible first | exact HB.out | apply below_alloc | apply pw_below_drewN | apply below_drew1 | refine below_set ?_ GE779.out) | exact HB.out))); (case side2 => exact HC0.out); rintro e w' ⟨rfl, ⟨nd, rfl⟩⟩; (try first | exact ⟨rfl, _, World.drewN_drewN _ _ _⟩ | exact ⟨rfl, _, Eq.trans (World.drewN_drewN _ _ _) (congrArg (World.drewN _) (Nat.add_assoc _ _ _))⟩)))
        repeat (go_quiet (first | ((with_reducible refine gate_dst (N := 7) rfl ?_); refine box_event ?hg (N := 7) ?hd (cs := #[.int .i64 0, .int .i64 0]) (t := 93) ?hr ?_; (case hd => rfl); (case hg => rfl); (case hr => first | (go_simp; done) | (go_simp; rfl)); intro gb779 hg w10 hbox hb; have n0_ := Aside0.mk (below_step hb_ hb); have n1_ := Aside0.mk (hbox); have n2_ := Aside0.mk ((by rw [hg]; exact (below_size hb_) : w.heap.size ≤ gb779)); have n3_ := Aside0.mk ((by rw [hg]; exact (below_size hb_) : w.heap.size ≤ gb779)); clear HB; have HB := n0_; have BK779 := n1_; have GW779 := n2_; have GE779 := n3_; clear n0_ n1_ n2_ n3_; clear hb hbox hg; have hcz11_0 : w10.cell? ⟨gb779, 0, none⟩ = some (.int .i64 0) := (blk_cell BK779.out 0).trans rfl; have hcz11_1 : w10.cell? ⟨gb779, 1, none⟩ = some (.int .i64 0) := (blk_cell BK779.out 1).trans rfl; have hfz11_0 := blk_frozen BK779.out 0; have hfz11_1 := blk_frozen BK779.out 1) | (go_at_call 78; (with_reducible refine (impl_answer.calls k1 _ _ l0 x5_1 ((rd_T93 l1 x10_1).f0) t780 _ ?side1 ?side2 A6.out).mono ?_); (case side1 => exact Kd.C_below HR0.out (by repeat (first | (with_reducible first | exact HB.out | apply below_alloc | apply pw_below_drewN | apply below_drew1 | refine below_set ?_ GE779.out) | exact HB.out))); (case side2 => exact HC0.out); rintro e w' ⟨rfl, ⟨nd, rfl⟩⟩; (try first | exact ⟨rfl, _, World.drewN_drewN _ _ _⟩ | exact ⟨rfl, _, Eq.trans (World.drewN_drewN _ _ _) (congrArg (World.drewN _) (Nat.add_assoc _ _ _))⟩))); try go_wp2_with (first | ((with_reducible refine gate_dst (N := 7) rfl ?_); refine box_event ?hg (N := 7) ?hd (cs := #[.int .i64 0, .int .i64 0]) (t := 93) ?hr ?_; (case hd => rfl); (case hg => rfl); (case hr => first | (go_simp; done) | (go_simp; rfl)); intro gb779 hg w10 hbox hb; have n0_ := Aside0.mk (below_step hb_ hb); have n1_ := Aside0.mk (hbox); have n2_ := Aside0.mk ((by rw [hg]; exact (below_size hb_) : w.heap.size ≤ gb779)); have n3_ := Aside0.mk ((by rw [hg]; exact (below_size hb_) : w.heap.size ≤ gb779)); clear HB; have HB := n0_; have BK779 := n1_; have GW779 := n2_; have GE779 := n3_; clear n0_ n1_ n2_ n3_; clear hb hbox hg; have hcz11_0 : w10.cell? ⟨gb779, 0, none⟩ = some (.int .i64 0) := (blk_cell BK779.out 0).trans rfl; have hcz11_1 : w10.cell? ⟨gb779, 1, none⟩ = some (.int .i64 0) := (blk_cell BK779.out 1).trans rfl; have hfz11_0 := blk_frozen BK779.out 0; have hfz11_1 := blk_frozen BK779.out 1) | (go_at_call 78; (with_reducible refine (impl_answer.calls k1 _ _ l0 x5_1 ((rd_T93 l1 x10_1).f0) t780 _ ?side1 ?side2 A6.out).mono ?_); (case side1 => exact Kd.C_below HR0.out (by repeat (first | (with_reducible first | exact HB.out | apply below_alloc | apply pw_below_drewN | apply below_drew1 | refine below_set ?_ GE779.out) | exact HB.out))); (case side2 => exact HC0.out); rintro e w' ⟨rfl, ⟨nd, rfl⟩⟩; (try first | exact ⟨rfl, _, World.drewN_drewN _ _ _⟩ | exact ⟨rfl, _, Eq.trans (World.drewN_drewN _ _ _) (congrArg (World.drewN _) (Nat.add_assoc _ _ _))⟩))))
        go_roundg k1
        case measure => have := HK1.out; omega
        case rel => exact ⟨(Go.bits .or .i64 x5_1 (ji9)), (wrap64 (x10_1 + 1)), (by first | rfl | (simp; done) | (simp only [← hji9] <;> (first | rfl | simp)) | (simp [*]; done)), (by first | rfl | (simp; done) | (simp [*]; done)), H', ⟨by have := HK1.out; omega⟩, ⟨by repeat (first | (with_reducible first | exact HB.out | apply below_alloc | apply pw_below_drewN | apply below_drew1 | refine below_set ?_ GE779.out) | exact HB.out)⟩⟩
       ·rw [if_neg c8] at H
        exact absurd H (by simp)
      ·rw [if_neg c7] at H
       have c7b0 : (t780 == ((rd_T93 l1 x10_1).f1)) = false := beq_eq_false_iff_ne.mpr c7
       have c7b1 : (t780 != ((rd_T93 l1 x10_1).f1)) = true := bne_iff_ne.mpr c7
       obtain rfl := Option.some.inj H
       have p778 : 0 ≤ (x10_1 : Int) := oda
       have q778 : x10_1 < (l1.length : Int) := oda
       obtain ⟨ad778, e778, hx778_0, hx778_1⟩ := at_T93 HR1.out x10_1 p778 q778
       cases e778
       replace hx778_0 := (HB.out.cell (World.block_lt_of_cell? w _ hx778_0)).trans hx778_0
       replace hx778_1 := (HB.out.cell (World.block_lt_of_cell? w _ hx778_1)).trans hx778_1
       replace p778 := eq_true p778
       replace q778 := eq_true q778
       go_wp2_with (first | ((with_reducible refine gate_dst (N := 7) rfl ?_); refine box_event ?hg (N := 7) ?hd (cs := #[.int .i64 0, .int .i64 0]) (t := 93) ?hr ?_; (case hd => rfl); (case hg => rfl); (case hr => first | (go_simp; done) | (go_simp; rfl)); intro gb779 hg w12 hbox hb; have n0_ := Aside0.mk (below_step hb_ hb); have n1_ := Aside0.mk (hbox); have n2_ := Aside0.mk ((by rw [hg]; exact (below_size hb_) : w.heap.size ≤ gb779)); have n3_ := Aside0.mk ((by rw [hg]; exact (below_size hb_) : w.heap.size ≤ gb779)); clear HB; have HB := n0_; have BK779 := n1_; have GW779 := n2_; have GE779 := n3_; clear n0_ n1_ n2_ n3_; clear hb hbox hg; have hcz13_0 : w12.cell? ⟨gb779, 0, none⟩ = some (.int .i64 0) := (blk_cell BK779.out 0).trans rfl; have hcz13_1 : w12.cell? ⟨gb779, 1, none⟩ = some (.int .i64 0) := (blk_cell BK779.out 1).trans rfl; have hfz13_0 := blk_frozen BK779.out 0; have hfz13_1 := blk_frozen BK779.out 1) | (go_at_call 78; (with_reducible refine (impl_answer.calls k1 _ _ l0 x5_1 ((rd_T93 l1 x10_1).f0) t780 _ ?side1 ?side2 A6.out).mono ?_); (case side1 => exact Kd.C_below HR0.out (by repeat (first | (with_reducible first | exact HB.out | apply below_alloc | apply pw_below_drewN | apply below_drew1 | refine below_set ?_ GE779.out) | exact HB.out))); (case side2 => exact HC0.out); rintro e w' ⟨rfl, ⟨nd, rfl⟩⟩; (try first | exact ⟨rfl, _, World.drewN_drewN _ _ _⟩ | exact ⟨rfl, _, Eq.trans (World.drewN_drewN _ _ _) (congrArg (World.drewN _) (Nat.add_assoc _ _ _))⟩)))
       repeat (go_quiet (first | ((with_reducible refine gate_dst (N := 7) rfl ?_); refine box_event ?hg (N := 7) ?hd (cs := #[.int .i64 0, .int .i64 0]) (t := 93) ?hr ?_; (case hd => rfl); (case hg => rfl); (case hr => first | (go_simp; done) | (go_simp; rfl)); intro gb779 hg w12 hbox hb; have n0_ := Aside0.mk (below_step hb_ hb); have n1_ := Aside0.mk (hbox); have n2_ := Aside0.mk ((by rw [hg]; exact (below_size hb_) : w.heap.size ≤ gb779)); have n3_ := Aside0.mk ((by rw [hg]; exact (below_size hb_) : w.heap.size ≤ gb779)); clear HB; have HB := n0_; have BK779 := n1_; have GW779 := n2_; have GE779 := n3_; clear n0_ n1_ n2_ n3_; clear hb hbox hg; have hcz13_0 : w12.cell? ⟨gb779, 0, none⟩ = some (.int .i64 0) := (blk_cell BK779.out 0).trans rfl; have hcz13_1 : w12.cell? ⟨gb779, 1, none⟩ = some (.int .i64 0) := (blk_cell BK779.out 1).trans rfl; have hfz13_0 := blk_frozen BK779.out 0; have hfz13_1 := blk_frozen BK779.out 1) | (go_at_call 78; (with_reducible refine (impl_answer.calls k1 _ _ l0 x5_1 ((rd_T93 l1 x10_1).f0) t780 _ ?side1 ?side2 A6.out).mono ?_); (case side1 => exact Kd.C_below HR0.out (by repeat (first | (with_reducible first | exact HB.out | apply below_alloc | apply pw_below_drewN | apply below_drew1 | refine below_set ?_ GE779.out) | exact HB.out))); (case side2 => exact HC0.out); rintro e w' ⟨rfl, ⟨nd, rfl⟩⟩; (try first | exact ⟨rfl, _, World.drewN_drewN _ _ _⟩ | exact ⟨rfl, _, Eq.trans (World.drewN_drewN _ _ _) (congrArg (World.drewN _) (Nat.add_assoc _ _ _))⟩))); try go_wp2_with (first | ((with_reducible refine gate_dst (N := 7) rfl ?_); refine box_event ?hg (N := 7) ?hd (cs := #[.int .i64 0, .int .i64 0]) (t := 93) ?hr ?_; (case hd => rfl); (case hg => rfl); (case hr => first | (go_simp; done) | (go_simp; rfl)); intro gb779 hg w12 hbox hb; have n0_ := Aside0.mk (below_step hb_ hb); have n1_ := Aside0.mk (hbox); have n2_ := Aside0.mk ((by rw [hg]; exact (below_size hb_) : w.heap.size ≤ gb779)); have n3_ := Aside0.mk ((by rw [hg]; exact (below_size hb_) : w.heap.size ≤ gb779)); clear HB; have HB := n0_; have BK779 := n1_; have GW779 := n2_; have GE779 := n3_; clear n0_ n1_ n2_ n3_; clear hb hbox hg; have hcz13_0 : w12.cell? ⟨gb779, 0, none⟩ = some (.int .i64 0) := (blk_cell BK779.out 0).trans rfl; have hcz13_1 : w12.cell? ⟨gb779, 1, none⟩ = some (.int .i64 0) := (blk_cell BK779.out 1).trans rfl; have hfz13_0 := blk_frozen BK779.out 0; have hfz13_1 := blk_frozen BK779.out 1) | (go_at_call 78; (with_reducible refine (impl_answer.calls k1 _ _ l0 x5_1 ((rd_T93 l1 x10_1).f0) t780 _ ?side1 ?side2 A6.out).mono ?_); (case side1 => exact Kd.C_below HR0.out (by repeat (first | (with_reducible first | exact HB.out | apply below_alloc | apply pw_below_drewN | apply below_drew1 | refine below_set ?_ GE779.out) | exact HB.out))); (case side2 => exact HC0.out); rintro e w' ⟨rfl, ⟨nd, rfl⟩⟩; (try first | exact ⟨rfl, _, World.drewN_drewN _ _ _⟩ | exact ⟨rfl, _, Eq.trans (World.drewN_drewN _ _ _) (congrArg (World.drewN _) (Nat.add_assoc _ _ _))⟩))))
       go_ret
       exact ⟨by first | rfl | (simp [errW_none, errW_some] <;> rfl) | (simp [*, errW_none, errW_some] <;> rfl), by repeat (first | (with_reducible first | exact HB.out | apply below_alloc | apply pw_below_drewN | apply below_drew1 | refine below_set ?_ GE779.out) | exact HB.out)⟩
     ·rw [if_neg c5] at H
      exact absurd H (by simp)
    ·rw [if_neg c4] at H
     exact absurd H (by simp)
   ·rw [if_neg c3] at H
    have c3b0 : decide (x10_1 < (l1.length : Int)) = false := decide_eq_false c3
    clear c3
    obtain rfl := Option.some.inj H
    go_wp2
    repeat (go_quiet (fail); try go_wp2)
    go_ret
    exact ⟨by first | rfl | (simp [errW_none, errW_some] <;> rfl) | (simp [*, errW_none, errW_some] <;> rfl), by repeat (first | (with_reducible first | exact HB.out | apply below_alloc | apply pw_below_drewN | apply below_drew1) | exact HB.out)⟩


/-! ### impl_first: function 58 -/
def impl_first.l0 : Nat → List (S70) → Int → Int → Option (Int)
 | 0, _, _, _ => none
 | k + 1, x5, x6, x7 => if x7 < x6 then (if 0 ≤ x7 then (if x7 < (x5.length : Int) then (if ((rd_T70 x5 x7).f0 = true) then (impl_first.l0 k x5 x6 (wrap64 (x7 + 1))) else (some ((rd_T70 x5 x7).f1))) else (none)) else (none)) else (some 0)
def impl_first.f (k : Nat) (l0 : List (S70)) : Option (Int) := impl_first.l0 k l0 (l0.length : Int) 0
set_option maxHeartbeats 8000000 in
set_option maxRecDepth 100000 in
theorem impl_first.calls (k : Nat) (A0 : Option Addr) (c0 : Nat) (l0 : List (S70)) (r : Int) (w : World) (hr0 : Kd.C k70 w A0 l0.length l0) (hc0 : l0.length ≤ c0) (h : impl_first.f k l0 = some r) :
  Calls Try.prog 58 #[.slice A0 l0.length c0] w fun e w' => e = .returned (.int .i64 r) ∧ Below w.heap.size w w' := by
 have hu70 := Try.underlying70
 have HR0 := Aside0.mk hr0
 have HC0 := Aside0.mk hc0
 clear hr0 hc0
 have HB := Aside0.mk (Below.refl w.heap.size w)
 have H : (impl_first.l0 k l0 (l0.length : Int) 0) = some r := h
 clear h
 have H' := Aside0.mk H
 clear H
 go_enter Try.func58, Try.ntmps58
 go_wp2
 go_loopg [7] k (fun kq v7 w' => ∃ (x7_1 : Int), v7 = .int .i64 x7_1 ∧ Aside0 (impl_first.l0 kq l0 (l0.length : Int) x7_1 = some r) ∧ Aside0 (kq ≤ k) ∧ Aside0 (Below w.heap.size w w'))
 case atStart => exact ⟨(0), (by first | rfl | (simp; done) | (simp [*]; done)), H', ⟨Nat.le_refl _⟩, ⟨by repeat (first | (with_reducible first | exact HB.out | apply below_alloc | apply pw_below_drewN | apply below_drew1) | exact HB.out)⟩⟩
 case round =>
  clear H'
  obtain ⟨x7_1, rfl, HA, HK1, HB⟩ := hrel
  cases gk with
  | zero => exact absurd HA.out (by simp [impl_first.l0])
  | succ k1 =>
   have H := HA.out
   clear HA
   simp only [impl_first.l0] at H
   by_cases c2 : x7_1 < (l0.length : Int)
   ·rw [if_pos c2] at H
    have c2b0 : decide (x7_1 < (l0.length : Int)) = true := decide_eq_true c2
    clear c2
    by_cases c3 : 0 ≤ x7_1
    ·rw [if_pos c3] at H
     have c3b0 : decide (0 ≤ x7_1) = true := decide_eq_true c3
     clear c3
     by_cases c4 : x7_1 < (l0.length : Int)
     ·rw [if_pos c4] at H
      have c4b0 : decide (x7_1 < (l0.length : Int)) = true := decide_eq_true c4
      clear c4
      obtain ⟨bq5, hbq5⟩ : ∃ b_ : Bool, b_ = ((rd_T70 l0 x7_1).f0) := ⟨_, rfl⟩
      replace H : (if (bq5 = true) then (impl_first.l0 k1 l0 (l0.length : Int) (wrap64 (x7_1 + 1))) else (some ((rd_T70 l0 x7_1).f1))) = some r := by rw [← hbq5] at H; exact H
      have Nbq5 := Aside0.mk hbq5
      clear hbq5
      by_cases c6 : (bq5 = true)
      ·subst c6
       have H1 : (impl_first.l0 k1 l0 (l0.length : Int) (wrap64 (x7_1 + 1))) = some r := by rw [if_pos rfl] at H; exact H
       clear H
       have H := H1
       clear H1
       have H' := Aside0.mk H
       clear H
       have p183 : 0 ≤ (x7_1 : Int) := oda
       have q183 : x7_1 < (l0.length : Int) := oda
       obtain ⟨ad183, e183, hx183_0, hx183_1⟩ := at_T70 HR0.out x7_1 p183 q183
       (try rw [← Nbq5.out] at hx183_0)
       cases e183
       replace hx183_0 := (HB.out.cell (World.block_lt_of_cell? w _ hx183_0)).trans hx183_0
       replace hx183_1 := (HB.out.cell (World.block_lt_of_cell? w _ hx183_1)).trans hx183_1
       replace p183 := eq_true p183
       replace q183 := eq_true q183
       go_wp2_with (first | ((with_reducible refine gate_dst (N := 4) rfl ?_); refine box_event ?hg (N := 4) ?hd (cs := #[.bool false, .int .i64 0]) (t := 70) ?hr ?_; (case hd => rfl); (case hg => rfl); (case hr => first | (go_simp; done) | (go_simp; rfl)); intro gb184 hg w7 hbox hb; have n0_ := Aside0.mk (below_step hb_ hb); have n1_ := Aside0.mk (hbox); have n2_ := Aside0.mk ((by rw [hg]; exact (below_size hb_) : w.heap.size ≤ gb184)); have n3_ := Aside0.mk ((by rw [hg]; exact (below_size hb_) : w.heap.size ≤ gb184)); clear HB; have HB := n0_; have BK184 := n1_; have GW184 := n2_; have GE184 := n3_; clear n0_ n1_ n2_ n3_; clear hb hbox hg; have hcz8_0 : w7.cell? ⟨gb184, 0, none⟩ = some (.bool false) := (blk_cell BK184.out 0).trans rfl; have hcz8_1 : w7.cell? ⟨gb184, 1, none⟩ = some (.int .i64 0) := (blk_cell BK184.out 1).trans rfl; have hfz8_0 := blk_frozen BK184.out 0; have hfz8_1 := blk_frozen BK184.out 1))
       go_roundg k1
       case measure => have := HK1.out; omega
       case rel => exact ⟨(wrap64 (x7_1 + 1)), (by first | rfl | (simp; done) | (simp [*]; done)), H', ⟨by have := HK1.out; omega⟩, ⟨by repeat (first | (with_reducible first | exact HB.out | apply below_alloc | apply pw_below_drewN | apply below_drew1 | refine below_set ?_ GE184.out) | exact HB.out)⟩⟩
      ·replace c6 := Bool.eq_false_iff.mpr c6
       subst c6
       have H1 : (some ((rd_T70 l0 x7_1).f1)) = some r := by rw [if_neg (show ¬ (false = true) by decide)] at H; exact H
       clear H
       have H := H1
       clear H1
       obtain rfl := Option.some.inj H
       have p183 : 0 ≤ (x7_1 : Int) := oda
       have q183 : x7_1 < (l0.length : Int) := oda
       obtain ⟨ad183, e183, hx183_0, hx183_1⟩ := at_T70 HR0.out x7_1 p183 q183
       (try rw [← Nbq5.out] at hx183_0)
       cases e183
       replace hx183_0 := (HB.out.cell (World.block_lt_of_cell? w _ hx183_0)).trans hx183_0
       replace hx183_1 := (HB.out.cell (World.block_lt_of_cell? w _ hx183_1)).trans hx183_1
       replace p183 := eq_true p183
       replace q183 := eq_true q183
       go_wp2_with (first | ((with_reducible refine gate_dst (N := 4) rfl ?_); refine box_event ?hg (N := 4) ?hd (cs := #[.bool false, .int .i64 0]) (t := 70) ?hr ?_; (case hd => rfl); (case hg => rfl); (case hr => first | (go_simp; done) | (go_simp; rfl)); intro gb184 hg w9 hbox hb; have n0_ := Aside0.mk (below_step hb_ hb); have n1_ := Aside0.mk (hbox); have n2_ := Aside0.mk ((by rw [hg]; exact (below_size hb_) : w.heap.size ≤ gb184)); have n3_ := Aside0.mk ((by rw [hg]; exact (below_size hb_) : w.heap.size ≤ gb184)); clear HB; have HB := n0_; have BK184 := n1_; have GW184 := n2_; have GE184 := n3_; clear n0_ n1_ n2_ n3_; clear hb hbox hg; have hcz10_0 : w9.cell? ⟨gb184, 0, none⟩ = some (.bool false) := (blk_cell BK184.out 0).trans rfl; have hcz10_1 : w9.cell? ⟨gb184, 1, none⟩ = some (.int .i64 0) := (blk_cell BK184.out 1).trans rfl; have hfz10_0 := blk_frozen BK184.out 0; have hfz10_1 := blk_frozen BK184.out 1))
       go_ret
       exact ⟨by first | rfl | (simp [errW_none, errW_some] <;> rfl) | (simp [*, errW_none, errW_some] <;> rfl), by repeat (first | (with_reducible first | exact HB.out | apply below_alloc | apply pw_below_drewN | apply below_drew1 | refine below_set ?_ GE184.out) | exact HB.out)⟩
     ·rw [if_neg c4] at H
      exact absurd H (by simp)
    ·rw [if_neg c3] at H
     exact absurd H (by simp)
   ·rw [if_neg c2] at H
    have c2b0 : decide (x7_1 < (l0.length : Int)) = false := decide_eq_false c2
    clear c2
    obtain rfl := Option.some.inj H
    go_wp2
    go_ret
    exact ⟨by first | rfl | (simp [errW_none, errW_some] <;> rfl) | (simp [*, errW_none, errW_some] <;> rfl), by repeat (first | (with_reducible first | exact HB.out | apply below_alloc | apply pw_below_drewN | apply below_drew1) | exact HB.out)⟩


-- Answers of a fleet to shots.
def ansFrom (fl : List Int) (c set : Int) : Nat → Nat → Int
  | _, 0 => 0
  | i, d + 1 => if Go.bits .and .i64 (shr .i64 (rd fl (i : Int)) c) 1 = 1 then (if Go.bits .andNot .i64 (rd fl (i : Int)) set = 0 then 2 else 1) else ansFrom fl c set (i + 1) d
def NumFleet (fl : List Int) : Prop := ∀ x ∈ fl, ∃ m : Nat, x = (m : Int) ∧ m < 33554432
theorem and_dich {fl : List Int} (hf : NumFleet fl) (q i : Nat) (hq : q < 25) (hi : i < fl.length) : Go.bits .and .i64 (shr .i64 (rd fl (i : Int)) (q : Int)) 1 = 1 ∨ Go.bits .and .i64 (shr .i64 (rd fl (i : Int)) (q : Int)) 1 = 0 := by
  obtain ⟨m, e, hm⟩ := hf _ (List.getElem_mem hi)
  rw [rd_get fl i hi, e, bit_nat m q (Nat.lt_of_lt_of_le hm pow25_le) (by omega)]
  split
  · exact .inl rfl
  · exact .inr rfl
theorem specAns_ev {fl : List Int} (hf : NumFleet fl) (hl : fl.length ≤ 1000) (q : Nat) (hq : q < 25) (set : Int) : Ev (fun k => spec_l09Answer.f k fl (q : Int) set) (ansFrom fl (q : Int) set 0 fl.length) := by
  unfold spec_l09Answer.f
  have hu := u64_nat q (by omega)
  have c3 : (0 : Int) ≤ (q : Int) := by omega
  have key : ∀ (d i : Nat), i + d = fl.length → Ev (fun k => spec_l09Answer.l0 k fl (q : Int) set i) (ansFrom fl (q : Int) set i d) := by
    intro d
    induction d with
    | zero =>
      intro i hi
      refine Ev.step (f := fun _ => some 0) (fun k => ?_) (Ev.now _)
      simp only [spec_l09Answer.l0]
      rw [if_neg (by omega)]
    | succ d ih =>
      intro i hi
      have c1 : (i : Int) < (fl.length : Int) := by omega
      have c2 : (0 : Int) ≤ (i : Int) := by omega
      have hw := Aside0.mk (wrap_one (a := i) (by omega))
      have ih1 := ih (i + 1) (by omega)
      rcases and_dich hf q i hq (by omega) with hb | hb
      · have he : ansFrom fl (q : Int) set i (d + 1) = if Go.bits .andNot .i64 (rd fl (i : Int)) set = 0 then 2 else 1 := by unfold ansFrom; rw [if_pos hb]
        rw [he]
        refine Ev.step (f := fun _ => some (if Go.bits .andNot .i64 (rd fl (i : Int)) set = 0 then 2 else 1)) (fun k => ?_) (Ev.now _)
        simp only [spec_l09Answer.l0]
        rw [if_pos c1, if_pos c2, hu, if_pos c3, hb, if_neg (by decide)]
        split <;> rfl
      · have he : ansFrom fl (q : Int) set i (d + 1) = ansFrom fl (q : Int) set (i + 1) d := by show (if _ then _ else _) = _; rw [if_neg (by rw [hb]; decide)]
        rw [he]
        refine Ev.step (fun k => ?_) ih1
        simp only [spec_l09Answer.l0]
        rw [if_pos c1, if_pos c2, hu, if_pos c3, hb, if_pos rfl, hw.out]
  exact key fl.length 0 (by omega)
theorem implAns_ev {fl : List Int} (hf : NumFleet fl) (hl : fl.length ≤ 1000) (q : Nat) (hq : q < 25) (shot : Int) : Ev (fun k => impl_answer.f k fl shot (q : Int)) (ansFrom fl (q : Int) (Go.bits .or .i64 shot (shl .i64 1 (q : Int))) 0 fl.length) := by
  unfold impl_answer.f
  have c3 : (0 : Int) ≤ (q : Int) := by omega
  have key : ∀ (d i : Nat), i + d = fl.length → Ev (fun k => impl_answer.l0 k shot (q : Int) fl fl.length i) (ansFrom fl (q : Int) (Go.bits .or .i64 shot (shl .i64 1 (q : Int))) i d) := by
    intro d
    induction d with
    | zero =>
      intro i hi
      refine Ev.step (f := fun _ => some 0) (fun k => ?_) (Ev.now _)
      simp only [impl_answer.l0]
      rw [if_neg (by omega)]
    | succ d ih =>
      intro i hi
      have c1 : (i : Int) < (fl.length : Int) := by omega
      have c2 : (0 : Int) ≤ (i : Int) := by omega
      have hw := Aside0.mk (wrap_one (a := i) (by omega))
      have ih1 := ih (i + 1) (by omega)
      have w2 : wrap64 (1 + 1) = 2 := wrap_small (z := 2) (by omega) (by omega)
      have w1 : wrap64 (1 + 0) = 1 := wrap_small (z := 1) (by omega) (by omega)
      rcases and_dich hf q i hq (by omega) with hb | hb
      · have he : ansFrom fl (q : Int) (Go.bits .or .i64 shot (shl .i64 1 (q : Int))) i (d + 1) = if Go.bits .andNot .i64 (rd fl (i : Int)) (Go.bits .or .i64 shot (shl .i64 1 (q : Int))) = 0 then 2 else 1 := by show (if _ then _ else _) = _; rw [if_pos hb]
        rw [he]
        refine Ev.step (f := fun _ => some (if Go.bits .andNot .i64 (rd fl (i : Int)) (Go.bits .or .i64 shot (shl .i64 1 (q : Int))) = 0 then 2 else 1)) (fun k => ?_) (Ev.now _)
        simp only [impl_answer.l0]
        rw [if_pos c1, if_pos c2, if_pos c1, if_pos c3, hb, if_pos rfl]
        by_cases hz : Go.bits .andNot .i64 (rd fl (i : Int)) (Go.bits .or .i64 shot (shl .i64 1 (q : Int))) = 0
        · rw [if_pos hz, beq_iff_eq.2 hz]
          unfold impl_bit.f
          rw [if_pos rfl, Option.bind_some, w2]
        · rw [if_neg hz, beq_eq_false_iff_ne.2 hz]
          unfold impl_bit.f
          rw [if_neg (by simp), Option.bind_some, w1]
      · have he : ansFrom fl (q : Int) (Go.bits .or .i64 shot (shl .i64 1 (q : Int))) i (d + 1) = ansFrom fl (q : Int) (Go.bits .or .i64 shot (shl .i64 1 (q : Int))) (i + 1) d := by show (if _ then _ else _) = _; rw [if_neg (by rw [hb]; decide)]
        rw [he]
        refine Ev.step (fun k => ?_) ih1
        simp only [impl_answer.l0]
        rw [if_pos c1, if_pos c2, if_pos c1, if_pos c3, hb, if_neg (by decide), hw.out]
  exact key fl.length 0 (by omega)
def SeaCells (cells : List Int) : Prop := ∀ x ∈ cells, 0 ≤ x ∧ x ≤ 24
-- Different cells of a sea: the program sorts them, the reference keeps a set.
def fromOk (a : Int) : Option Int → Bool
  | none => true
  | some q => !decide (a ≤ q)
theorem risingFrom_cons (lo hi a : Int) (r : List Int) (p : Option Int) : risingFrom lo hi p (a :: r) = (inW a lo hi && fromOk a p && risingFrom lo hi (some a) r) := by
  cases p <;> simp [risingFrom, fromOk]
theorem risingFrom_iff (lo hi : Int) : ∀ (l : List Int) (p : Option Int), risingFrom lo hi p l = true ↔ (∀ x ∈ l, lo ≤ x ∧ x ≤ hi) ∧ l.Pairwise (· < ·) ∧ ∀ q, p = some q → ∀ x ∈ l.head?, q < x := by
  intro l
  induction l with
  | nil => intro p; simp [risingFrom]
  | cons a r ih =>
    intro p
    rw [risingFrom_cons]
    have hw : inW a lo hi = true ↔ lo ≤ a ∧ a ≤ hi := by unfold inW; simp
    rw [Bool.and_eq_true, Bool.and_eq_true, hw, ih]
    constructor
    · rintro ⟨⟨h1, h2⟩, h3, h4, h5⟩
      have hall : ∀ x ∈ r, a < x := by
        cases r with
        | nil => intro x hx; cases hx
        | cons b t =>
          have hab : a < b := h5 a rfl b (by simp)
          intro x hx
          rcases List.mem_cons.1 hx with rfl | hx
          · exact hab
          · have := (List.pairwise_cons.1 h4).1 x hx
            omega
      refine ⟨fun x hx => ?_, List.pairwise_cons.2 ⟨hall, h4⟩, fun q hq x hx => ?_⟩
      · rcases List.mem_cons.1 hx with rfl | hx
        · exact h1
        · exact h3 x hx
      · subst hq
        simp at hx
        subst hx
        simpa [fromOk] using h2
    · rintro ⟨h1, h2, h3⟩
      refine ⟨⟨h1 a (List.mem_cons_self ..), ?_⟩, fun x hx => h1 x (List.mem_cons_of_mem _ hx), (List.pairwise_cons.1 h2).2, fun q hq x hx => ?_⟩
      · cases p with
        | none => rfl
        | some q => have := h3 q rfl a (by simp); simpa [fromOk] using this
      · cases hq
        exact (List.pairwise_cons.1 h2).1 x (List.mem_of_mem_head? hx)
theorem rising_sorted (l : List Int) (lo hi : Int) : rising (l.mergeSort fun x y => decide (x ≤ y)) lo hi = true ↔ (∀ x ∈ l, lo ≤ x ∧ x ≤ hi) ∧ l.Nodup := by
  have hp : (l.mergeSort fun x y => decide (x ≤ y)).Perm l := List.mergeSort_perm _ _
  have hs : (l.mergeSort fun x y => decide (x ≤ y)).Pairwise (fun a b => decide (a ≤ b) = true) := List.pairwise_mergeSort (fun a b c h1 h2 => by simp at *; omega) (fun a b => by simp; omega) l
  unfold rising
  rw [risingFrom_iff]
  generalize l.mergeSort (fun x y => decide (x ≤ y)) = z at hp hs
  constructor
  · rintro ⟨h1, h2, _⟩
    exact ⟨fun x hx => h1 x (hp.mem_iff.2 hx), hp.nodup_iff.1 (h2.imp fun h => by omega)⟩
  · rintro ⟨h1, h2⟩
    refine ⟨fun x hx => h1 x (hp.mem_iff.1 hx), ?_, fun q hq => by cases hq⟩
    have hn := hp.nodup_iff.2 h2
    exact (hs.and hn).imp fun ⟨ha, hb⟩ => by
      have := of_decide_eq_true ha
      omega
/-- The reference's test. -/
def diffL (N : Nat) : Nat → List Int → Bool
  | _, [] => true
  | s, x :: r => inW x 0 ((N : Int) - 1) && (!(s.testBit x.toNat) && diffL N (s ||| 2 ^ x.toNat) r)
theorem diffL_iff (N : Nat) : ∀ (l : List Int) (s : Nat), diffL N s l = true ↔ (∀ x ∈ l, 0 ≤ x ∧ x ≤ (N : Int) - 1) ∧ l.Nodup ∧ ∀ x ∈ l, s.testBit x.toNat = false := by
  intro l
  induction l with
  | nil => intro s; simp [diffL]
  | cons a r ih =>
    intro s
    have hw : inW a 0 ((N : Int) - 1) = true ↔ 0 ≤ a ∧ a ≤ (N : Int) - 1 := by unfold inW; simp
    unfold diffL
    rw [Bool.and_eq_true, Bool.and_eq_true, hw, ih, Bool.not_eq_true']
    have hbit : ∀ x : Int, (s ||| 2 ^ a.toNat).testBit x.toNat = false ↔ s.testBit x.toNat = false ∧ ¬ a.toNat = x.toNat := by
      intro x
      rw [Nat.testBit_or, Bool.or_eq_false_iff, Nat.testBit_two_pow]
      simp
    constructor
    · rintro ⟨h1, h2, h3, h4, h5⟩
      refine ⟨fun x hx => ?_, List.nodup_cons.2 ⟨fun hm => ?_, h4⟩, fun x hx => ?_⟩
      · rcases List.mem_cons.1 hx with rfl | hx
        · exact h1
        · exact h3 x hx
      · exact ((hbit a).1 (h5 a hm)).2 rfl
      · rcases List.mem_cons.1 hx with rfl | hx
        · exact h2
        · exact ((hbit x).1 (h5 x hx)).1
    · rintro ⟨h1, h2, h3⟩
      have h2' := List.nodup_cons.1 h2
      have ha := h1 a (List.mem_cons_self ..)
      refine ⟨ha, h3 a (List.mem_cons_self ..), fun x hx => h1 x (List.mem_cons_of_mem _ hx), h2'.2, fun x hx => (hbit x).2 ⟨h3 x (List.mem_cons_of_mem _ hx), fun e => h2'.1 ?_⟩⟩
      have hx' := h1 x (List.mem_cons_of_mem _ hx)
      have : a = x := by omega
      rw [this]; exact hx
theorem diff_rising (N : Nat) (l : List Int) : diffL N 0 l = rising (l.mergeSort fun x y => decide (x ≤ y)) 0 ((N : Int) - 1) := by
  have h1 := diffL_iff N l 0
  have h2 := rising_sorted l 0 ((N : Int) - 1)
  rw [Bool.eq_iff_iff, h1, h2]
  constructor
  · rintro ⟨a, b, _⟩; exact ⟨a, b⟩
  · rintro ⟨a, b⟩; exact ⟨a, b, fun x _ => Nat.zero_testBit _⟩
theorem specDiff_ev {W H N : Nat} (hN : W * H = N) (hN25 : N ≤ 25) (ships l : List Int) (hl : l.length ≤ 1048576) : Ev (fun k => spec_l09Different.f k W H ships l) (diffL N 0 l) := by
  unfold spec_l09Different.f
  have hw : wrap64 (wrap64 ((W : Int) * (H : Int)) - 1) = (N : Int) - 1 := by
    rw [wrap_mul hN (by omega)]
    exact wrap_small (by omega) (by omega)
  have key : ∀ (d i s : Nat), i + d = l.length → s < 33554432 → Ev (fun k => spec_l09Different.l0 k l (s : Int) i W H ships) (diffL N s (l.drop i)) := by
    intro d
    induction d with
    | zero =>
      intro i s hi _
      rw [List.drop_eq_nil_of_le (by omega)]
      refine Ev.step (f := fun _ => some true) (fun k => ?_) (Ev.now _)
      simp only [spec_l09Different.l0]
      rw [if_neg (by omega)]
    | succ d ih =>
      intro i s hi hs
      have hil : i < l.length := by omega
      have c1 : (i : Int) < (l.length : Int) := by omega
      have c2 : (0 : Int) ≤ (i : Int) := by omega
      have hrd := rd_get l i hil
      have hwi := Aside0.mk (show wrap64 ((i : Int) + 1) = ((i + 1 : Nat) : Int) by rw [show (i : Int) + 1 = ((i + 1 : Nat) : Int) by omega]; exact wrap_num (by omega))
      rw [List.drop_eq_getElem_cons hil]
      generalize l[i] = x at hrd
      unfold diffL
      cases hx : inW x 0 ((N : Int) - 1) with
      | false =>
        rw [Bool.false_and]
        refine Ev.step (f := fun _ => some false) (fun k => ?_) (Ev.now _)
        simp only [spec_l09Different.l0]
        rw [if_pos c1, if_pos c2, in_inW, hw, hrd, hx, Option.bind_some, if_neg (by simp)]
      | true =>
        rw [Bool.true_and]
        obtain ⟨q, rfl, hq⟩ : ∃ q : Nat, x = (q : Int) ∧ q < N := by
          unfold inW at hx
          simp only [Bool.and_eq_true, decide_eq_true_eq] at hx
          exact ⟨x.toNat, by omega, by omega⟩
        rw [Int.toNat_natCast]
        have hu := u64_nat q (by omega)
        have c3 : (0 : Int) ≤ (q : Int) := by omega
        have hb := bit_nat s q (Nat.lt_of_lt_of_le hs pow25_le) (by omega)
        have hsh := shl_nat q (by omega)
        have hpq : 2 ^ q < 33554432 := Nat.lt_of_lt_of_le (Nat.pow_lt_pow_right (by omega) (show q < 25 by omega)) (by simp)
        have hor := bits_or_nat s (2 ^ q) (Nat.lt_of_lt_of_le hs pow25_le) (Nat.lt_of_lt_of_le hpq pow25_le)
        cases ht : s.testBit q with
        | true =>
          rw [ht, if_pos rfl] at hb
          refine Ev.step (f := fun _ => some false) (fun k => ?_) (Ev.now _)
          simp only [spec_l09Different.l0]
          rw [if_pos c1, if_pos c2, in_inW, hw, hrd, hx, Option.bind_some, if_pos rfl, hu, if_pos c3, hb, if_pos rfl]
        | false =>
          rw [ht, if_neg (by simp)] at hb
          rw [Bool.not_false, Bool.true_and]
          refine Ev.step (fun k => ?_) (ih (i + 1) (s ||| 2 ^ q) (by omega) (Nat.or_lt_two_pow (n := 25) hs hpq))
          simp only [spec_l09Different.l0]
          rw [if_pos c1, if_pos c2, in_inW, hw, hrd, hx, Option.bind_some, if_pos rfl, hu, if_pos c3, hb, if_neg (by decide), hsh, hor, hwi.out]
  have := key l.length 0 0 (by omega) (by omega)
  rw [List.drop_zero] at this
  exact this
-- Shots: copies, right shots, agreement. (for 43)
theorem rd93_get (l : List S93) (i : Nat) (h : i < l.length) : rd_T93 l (i : Int) = l[i] := by
  show l.getD (i : Int).toNat _ = _
  rw [Int.toNat_natCast, List.getD_eq_getElem?_getD, List.getElem?_eq_getElem h]; rfl
theorem rd95_get (l : List S95) (i : Nat) (h : i < l.length) : rd_T95 l (i : Int) = l[i] := by
  show l.getD (i : Int).toNat _ = _
  rw [Int.toNat_natCast, List.getD_eq_getElem?_getD, List.getElem?_eq_getElem h]; rfl
def shotOf (x : S95) : S93 := ⟨x.f0, x.f1⟩
theorem wrap_nat1 {i n : Nat} (h : i < n) (hn : n ≤ 1048576) : wrap64 ((i : Int) + 1) = ((i + 1 : Nat) : Int) := by
  rw [show (i : Int) + 1 = ((i + 1 : Nat) : Int) by omega]; exact wrap_num (by omega)
theorem take_set_gen {α : Type} (x y : List α) (i : Nat) (h : i < x.length) (hl : y.length = x.length) (ht : y.take i = x.take i) : (y.set i x[i]).take (i + 1) = x.take (i + 1) := take_set_next x y i h hl ht
theorem toShotS_ev (x : List S95) (hx : x.length ≤ 1048576) : Ev (fun k => laws_toShotS.f k x) (x.map shotOf) := by
  have hml : (x.map shotOf).length = x.length := List.length_map ..
  have key : ∀ (d i : Nat) (y : List S93), i + d = x.length → y.length = (x.map shotOf).length → y.take i = (x.map shotOf).take i → Ev (fun k => laws_toShotS.l0 k x y i) (x.map shotOf) := by
    intro d
    induction d with
    | zero =>
      intro i y hi hl ht
      refine Ev.step (f := fun _ => some (x.map shotOf)) (fun k => ?_) (Ev.now _)
      simp only [laws_toShotS.l0]
      rw [if_neg (by omega)]
      have : i = x.length := by omega
      rw [this, List.take_of_length_le (by omega), List.take_of_length_le (by omega)] at ht
      rw [ht]
    | succ d ih =>
      intro i y hi hl ht
      have hlt : i < x.length := by omega
      have c1 : (i : Int) < (x.length : Int) := by omega
      have c2 : (0 : Int) ≤ (i : Int) := by omega
      have c3 : (i : Int) < (y.length : Int) := by omega
      have hw := wrap_nat1 hlt hx
      have hg : (x.map shotOf)[i]'(by omega) = shotOf x[i] := List.getElem_map ..
      have ih1 := ih (i + 1) (y.set i (shotOf x[i])) (by omega) (by simpa using hl) (by rw [← hg]; exact take_set_gen (x.map shotOf) y i (by omega) hl ht)
      refine Ev.step (fun k => ?_) ih1
      simp only [laws_toShotS.l0]
      rw [if_pos c1, if_pos c2, rd95_get x i hlt]
      show (some (x[i].f0, x[i].f1)).bind _ = _
      rw [Option.bind_some, if_pos c3, Int.toNat_natCast, hw]
      rfl
  refine Ev.congr (f := fun k => laws_toShotS.l0 k x (List.replicate x.length (⟨0, 0⟩ : S93)) ((0 : Nat) : Int)) (fun k => ?_) (key x.length 0 _ (by omega) (by simp) (by simp))
  unfold laws_toShotS.f
  rw [if_pos (by omega), if_pos (by omega), Int.toNat_natCast]; rfl
theorem eqShotS_self (x : List S93) (hx : x.length ≤ 1048576) : Ev (fun k => laws_eqShotS.f k x x) true := by
  unfold laws_eqShotS.f
  have key : ∀ (d i : Nat), i + d = x.length → Ev (fun k => laws_eqShotS.l0 k x x i) true := by
    intro d
    induction d with
    | zero =>
      intro i hi
      refine Ev.step (f := fun _ => some true) (fun k => ?_) (Ev.now _)
      simp only [laws_eqShotS.l0]
      rw [if_neg (by omega)]
    | succ d ih =>
      intro i hi
      have hlt : i < x.length := by omega
      have c1 : (i : Int) < (x.length : Int) := by omega
      have c2 : (0 : Int) ≤ (i : Int) := by omega
      have hw := wrap_nat1 hlt hx
      refine Ev.step (fun k => ?_) (ih (i + 1) (by omega))
      simp only [laws_eqShotS.l0]
      rw [if_pos c1, if_pos c2, if_pos c1]
      unfold laws_eqShot.f
      rw [if_pos rfl, if_pos rfl, Option.bind_some, if_pos rfl, hw]
  exact Ev.congr (fun k => by rw [if_pos rfl]; rfl) (key x.length 0 (by omega))
/-- Whether shots are right: the answers, then the cells. -/
def ansOk : List S93 → Bool
  | [] => true
  | x :: r => inW x.f1 0 2 && ansOk r
def shotsOk (N : Nat) (T : List S93) : Bool := ansOk T && diffL N 0 (T.map fun x => x.f0)
theorem specShots_ev {W H N : Nat} (hN : W * H = N) (hN25 : N ≤ 25) (ships : List Int) (T : List S93) (hT : T.length ≤ 1048576) : Ev (fun k => spec_l09Shots.l0 k T [] 0 W H ships) (if shotsOk N T = true then 0 else 2) := by
  have key : ∀ (d i : Nat), i + d = T.length → Ev (fun k => spec_l09Shots.l0 k T ((T.take i).map fun x => x.f0) i W H ships) (if (ansOk (T.drop i) && diffL N 0 (T.map fun x => x.f0)) = true then 0 else 2) := by
    intro d
    induction d with
    | zero =>
      intro i hi
      have e : i = T.length := by omega
      subst e
      rw [List.take_length, List.drop_length]
      show Ev _ (if (true && diffL N 0 (T.map fun x => x.f0)) = true then 0 else 2)
      rw [Bool.true_and]
      have hd := specDiff_ev hN hN25 ships (T.map fun x => x.f0) (by rw [List.length_map]; exact hT)
      refine Ev.step (f := fun k => (spec_l09Different.f k W H ships (T.map fun x => x.f0)).bind fun t792 => (if t792 = true then (some 0) else (some 2))) (fun k => ?_) (Ev.bind hd ?_)
      · simp only [spec_l09Shots.l0]
        rw [if_neg (by omega)]
      · by_cases hv : diffL N 0 (T.map fun x => x.f0) = true
        · simp only [hv, if_true]; exact Ev.now _
        · simp only [hv, if_false, Bool.false_eq_true]; exact Ev.now _
    | succ d ih =>
      intro i hi
      have hlt : i < T.length := by omega
      have c1 : (i : Int) < (T.length : Int) := by omega
      have c2 : (0 : Int) ≤ (i : Int) := by omega
      have hw := wrap_nat1 hlt hT
      have ih1 := ih (i + 1) (by omega)
      have hs : (T.take (i + 1)).map (fun x => x.f0) = (T.take i).map (fun x => x.f0) ++ [T[i].f0] := by rw [List.take_succ_eq_append_getElem hlt, List.map_append]; rfl
      have hlen : ((T.take i).map (fun x => x.f0)).length < 17592186044416 := by rw [List.length_map, List.length_take]; omega
      rw [List.drop_eq_getElem_cons hlt]
      have hrd := rd93_get T i hlt
      show Ev _ (if (inW T[i].f1 0 2 && ansOk (T.drop (i + 1)) && diffL N 0 (T.map fun x => x.f0)) = true then 0 else 2)
      cases ha : inW T[i].f1 0 2 with
      | false =>
        rw [Bool.false_and, Bool.false_and]
        refine Ev.step (f := fun _ => some 2) (fun k => ?_) (Ev.now _)
        simp only [spec_l09Shots.l0]
        rw [if_pos c1, if_pos c2, hrd, in_inW, ha, Option.bind_some, if_neg (by simp)]
      | true =>
        rw [Bool.true_and]
        refine Ev.step (fun k => ?_) ih1
        simp only [spec_l09Shots.l0]
        rw [if_pos c1, if_pos c2, hrd, in_inW, ha, Option.bind_some, if_pos rfl, if_pos hlen, hw, hs]
  have := key T.length 0 (by omega)
  rw [List.drop_zero, List.take_zero] at this
  exact this
theorem implShots_ev {W H N : Nat} (hN : W * H = N) (hN25 : N ≤ 25) (ships : List Int) (T : List S93) (hT : T.length ≤ 1048576) : Ev (fun k => impl_Sea_areShots.f k W H ships T) (shotsOk N T) := by
  unfold impl_Sea_areShots.f
  have hcv : impl_Sea_areCells.f (W : Int) (H : Int) ships (T.map fun x => x.f0) = some (diffL N 0 (T.map fun x => x.f0)) := by
    unfold impl_Sea_areCells.f
    rw [if_pos (by rw [List.length_map]; exact hT), diff_rising, wrap_mul hN (by omega), wrap_small (z := (N : Int) - 1) (by omega) (by omega)]
  have key : ∀ (d i : Nat), i + d = T.length → Ev (fun k => impl_Sea_areShots.l0 k ((T.take i).map fun x => x.f0) T T.length i W H ships) (ansOk (T.drop i) && diffL N 0 (T.map fun x => x.f0)) := by
    intro d
    induction d with
    | zero =>
      intro i hi
      have e : i = T.length := by omega
      subst e
      rw [List.take_length, List.drop_length]
      show Ev _ (true && diffL N 0 (T.map fun x => x.f0))
      rw [Bool.true_and]
      refine Ev.step (f := fun _ => some (diffL N 0 (T.map fun x => x.f0))) (fun k => ?_) (Ev.now _)
      simp only [impl_Sea_areShots.l0]
      rw [if_neg (by omega), hcv, Option.bind_some]
    | succ d ih =>
      intro i hi
      have hlt : i < T.length := by omega
      have c1 : (i : Int) < (T.length : Int) := by omega
      have c2 : (0 : Int) ≤ (i : Int) := by omega
      have hw := wrap_nat1 hlt hT
      have ih1 := ih (i + 1) (by omega)
      have hs : (T.take (i + 1)).map (fun x => x.f0) = (T.take i).map (fun x => x.f0) ++ [T[i].f0] := by rw [List.take_succ_eq_append_getElem hlt, List.map_append]; rfl
      have hlen : ((T.take i).map (fun x => x.f0)).length < 17592186044416 := by rw [List.length_map, List.length_take]; omega
      rw [List.drop_eq_getElem_cons hlt]
      have hrd := rd93_get T i hlt
      show Ev _ (inW T[i].f1 0 2 && ansOk (T.drop (i + 1)) && diffL N 0 (T.map fun x => x.f0))
      cases ha : inW T[i].f1 0 2 with
      | false =>
        rw [Bool.false_and, Bool.false_and]
        refine Ev.step (f := fun _ => some false) (fun k => ?_) (Ev.now _)
        simp only [impl_Sea_areShots.l0]
        rw [if_pos c1, if_pos c2, if_pos c1, hrd, within_inW, ha, Option.bind_some, if_neg (by simp)]
      | true =>
        rw [Bool.true_and]
        refine Ev.step (fun k => ?_) ih1
        simp only [impl_Sea_areShots.l0]
        rw [if_pos c1, if_pos c2, if_pos c1, hrd, within_inW, ha, Option.bind_some, if_pos rfl, if_pos hlen, hw, hs]
  have := key T.length 0 (by omega)
  rw [List.drop_zero, List.take_zero] at this
  exact this
/-- Whether a fleet agrees with shots. -/
def agFrom (fl : List Int) : Int → List S93 → Bool
  | _, [] => true
  | set, x :: r => decide (ansFrom fl x.f0 (Go.bits .or .i64 set (shl .i64 1 x.f0)) 0 fl.length = x.f1) && agFrom fl (Go.bits .or .i64 set (shl .i64 1 x.f0)) r
theorem specAgrees_ev {fl : List Int} (hf : NumFleet fl) (hl : fl.length ≤ 1000) (T : List S93) (hT : T.length ≤ 1048576) (hc : SeaCells (T.map fun x => x.f0)) : Ev (fun k => spec_l09Agrees.f k fl T) (agFrom fl 0 T) := by
  unfold spec_l09Agrees.f
  have key : ∀ (d i : Nat) (set : Int), i + d = T.length → Ev (fun k => spec_l09Agrees.l0 k fl T set i) (agFrom fl set (T.drop i)) := by
    intro d
    induction d with
    | zero =>
      intro i set hi
      rw [List.drop_eq_nil_of_le (by omega)]
      refine Ev.step (f := fun _ => some true) (fun k => ?_) (Ev.now _)
      simp only [spec_l09Agrees.l0]
      rw [if_neg (by omega)]
    | succ d ih =>
      intro i set hi
      have hlt : i < T.length := by omega
      have c1 : (i : Int) < (T.length : Int) := by omega
      have c2 : (0 : Int) ≤ (i : Int) := by omega
      have hw := wrap_nat1 hlt hT
      have hrd := rd93_get T i hlt
      have hx := hc T[i].f0 (List.mem_map.2 ⟨T[i], List.getElem_mem _, rfl⟩)
      obtain ⟨q, hq, hq25⟩ : ∃ q : Nat, T[i].f0 = (q : Int) ∧ q < 25 := ⟨T[i].f0.toNat, by omega, by omega⟩
      have hu := u64_nat q (by omega)
      have c3 : (0 : Int) ≤ (q : Int) := by omega
      rw [List.drop_eq_getElem_cons hlt]
      unfold agFrom
      rw [hq]
      have ih1 := ih (i + 1) (Go.bits .or .i64 set (shl .i64 1 (q : Int))) (by omega)
      have ha := specAns_ev hf hl q hq25 (Go.bits .or .i64 set (shl .i64 1 (q : Int)))
      refine Ev.step (f := fun k => (spec_l09Answer.f k fl (q : Int) (Go.bits .or .i64 set (shl .i64 1 (q : Int)))).bind fun t462 => (if t462 = T[i].f1 then (spec_l09Agrees.l0 k fl T (Go.bits .or .i64 set (shl .i64 1 (q : Int))) ((i + 1 : Nat) : Int)) else (some false))) (fun k => ?_) (Ev.bind ha ?_)
      · simp only [spec_l09Agrees.l0]
        rw [if_pos c1, if_pos c2, hrd, hq, hu, if_pos c3, hw]
      · by_cases he : ansFrom fl (q : Int) (Go.bits .or .i64 set (shl .i64 1 (q : Int))) 0 fl.length = T[i].f1
        · rw [decide_eq_true he, Bool.true_and]
          exact Ev.congr (fun k => by rw [if_pos he]) ih1
        · rw [decide_eq_false he, Bool.false_and]
          exact Ev.congr (f := fun _ => some false) (fun k => by rw [if_neg he]) (Ev.now _)
  have := key T.length 0 0 (by omega)
  rw [List.drop_zero] at this
  exact this
theorem implAgrees_ev {fl : List Int} (hf : NumFleet fl) (hl : fl.length ≤ 1000) (T : List S93) (hT : T.length ≤ 1048576) (hc : SeaCells (T.map fun x => x.f0)) : Ev (fun k => impl_agrees.f k fl T) (agFrom fl 0 T) := by
  unfold impl_agrees.f
  have key : ∀ (d i : Nat) (set : Int), i + d = T.length → Ev (fun k => impl_agrees.l0 k fl set T T.length i) (agFrom fl set (T.drop i)) := by
    intro d
    induction d with
    | zero =>
      intro i set hi
      rw [List.drop_eq_nil_of_le (by omega)]
      refine Ev.step (f := fun _ => some true) (fun k => ?_) (Ev.now _)
      simp only [impl_agrees.l0]
      rw [if_neg (by omega)]
    | succ d ih =>
      intro i set hi
      have hlt : i < T.length := by omega
      have c1 : (i : Int) < (T.length : Int) := by omega
      have c2 : (0 : Int) ≤ (i : Int) := by omega
      have hw := wrap_nat1 hlt hT
      have hrd := rd93_get T i hlt
      have hx := hc T[i].f0 (List.mem_map.2 ⟨T[i], List.getElem_mem _, rfl⟩)
      obtain ⟨q, hq, hq25⟩ : ∃ q : Nat, T[i].f0 = (q : Int) ∧ q < 25 := ⟨T[i].f0.toNat, by omega, by omega⟩
      have c3 : (0 : Int) ≤ (q : Int) := by omega
      rw [List.drop_eq_getElem_cons hlt]
      unfold agFrom
      rw [hq]
      have ih1 := ih (i + 1) (Go.bits .or .i64 set (shl .i64 1 (q : Int))) (by omega)
      have ha := implAns_ev hf hl q hq25 set
      refine Ev.step (f := fun k => (impl_answer.f k fl set (q : Int)).bind fun t820 => (if t820 = T[i].f1 then (impl_agrees.l0 k fl (Go.bits .or .i64 set (shl .i64 1 (q : Int))) T T.length ((i + 1 : Nat) : Int)) else (some false))) (fun k => ?_) (Ev.bind ha ?_)
      · simp only [impl_agrees.l0]
        rw [if_pos c1, if_pos c2, if_pos c1, hrd, hq, if_pos c3, hw]
      · by_cases he : ansFrom fl (q : Int) (Go.bits .or .i64 set (shl .i64 1 (q : Int))) 0 fl.length = T[i].f1
        · rw [decide_eq_true he, Bool.true_and]
          exact Ev.congr (fun k => by rw [if_pos he]) ih1
        · rw [decide_eq_false he, Bool.false_and]
          exact Ev.congr (f := fun _ => some false) (fun k => by rw [if_neg he]) (Ev.now _)
  have := key T.length 0 0 (by omega)
  rw [List.drop_zero] at this
  exact this
-- The reference's list of fleets, as a plain function. (for 64)
/-- The reference's test of the next ship: the list so far, the cells used. -/
def goOk (ships list : List Int) (own used : Int) : Bool := decide (Go.bits .and .i64 own used = 0) && !(decide (0 < list.length) && (decide (rd ships (list.length : Int) = rd ships ((list.length : Int) - 1)) && decide (own < rd list ((list.length : Int) - 1))))
def goStep (most : Int) (ok : Int → Bool) (F : Int → Int → List (List Int)) (out : List (List Int)) (own : Int) : List (List Int) :=
  if most < 0 ∨ (out.length : Int) < most then (if ok own = true then out ++ F own (if most < 0 then most else most - (out.length : Int)) else out) else out
def goV (W H : Nat) (ships : List Int) (T : List S93) : Nat → List Int → Int → Int → List (List Int)
  | 0, list, _, _ => if agFrom list 0 T = true then [list] else []
  | d + 1, list, used, most => (placeOf W H ships list.length).foldl (goStep most (fun own => goOk ships list own used) (fun own rest => goV W H ships T d (list ++ [own]) (Go.bits .or .i64 used own) rest)) []
theorem foldl_all (ok : Int → Bool) (F : Int → Int → List (List Int)) (most : Int) (hm : most < 0) : ∀ (P : List Int) (out : List (List Int)), P.foldl (goStep most ok F) out = out ++ P.flatMap fun own => if ok own = true then F own most else []
  | [], out => by simp
  | x :: P, out => by
    rw [List.foldl_cons, foldl_all ok F most hm P, List.flatMap_cons]
    unfold goStep
    rw [if_pos (.inl hm), if_pos hm]
    split <;> simp
theorem flat_congr {α β : Type} (F G : α → List β) : ∀ P : List α, (∀ x ∈ P, F x = G x) → P.flatMap F = P.flatMap G
  | [], _ => rfl
  | x :: P, h => by
    rw [List.flatMap_cons, List.flatMap_cons, h x (List.mem_cons_self ..), flat_congr F G P (fun y hy => h y (List.mem_cons_of_mem _ hy))]
/-- With no bound all fleets come that agree. -/
theorem goV_all {W H : Nat} (hW : 1 ≤ W ∧ W ≤ 5) (hH : 1 ≤ H ∧ H ≤ 5) (ships : List Int) (hs : ∀ j : Nat, j < ships.length → inW (rd ships (j : Int)) 1 5 = true) (T : List S93) (most : Int) (hm : most < 0) :
    ∀ (d : Nat) (list : List Int) (used : Nat), list.length + d = ships.length → UsedBy list list.length used → goV W H ships T d list (used : Int) most = (fleetsFrom W H ships d list).filter fun fl => agFrom fl 0 T
  | 0, list, used, _, _ => by
    unfold goV fleetsFrom
    by_cases h : agFrom list 0 T = true <;> simp [h]
  | d + 1, list, used, hd, hu => by
    unfold goV fleetsFrom
    rw [foldl_all _ _ most hm, List.nil_append, List.filter_flatMap]
    have hP : ∀ own ∈ placeOf W H ships list.length, ∃ m : Nat, own = (m : Int) ∧ 0 < m ∧ m < 33554432 := by
      obtain ⟨n, hn, hn1, hn5⟩ := inW_five (hs list.length (by omega))
      unfold placeOf
      rw [hn, Int.toNat_natCast]
      exact placesOf_num hW.1 hW.2 hH.2 hn1
    have key : ∀ own ∈ placeOf W H ships list.length, (if goOk ships list own (used : Int) = true then goV W H ships T d (list ++ [own]) (Go.bits .or .i64 (used : Int) own) most else []) = (if goesV ships list own = true then fleetsFrom W H ships d (list ++ [own]) else []).filter fun fl => agFrom fl 0 T := by
      intro own ho
      obtain ⟨m, rfl, h0, h1⟩ := hP own ho
      have hlen : list.length < (list ++ [(m : Int)]).length := by simp
      have hrd : rd (list ++ [(m : Int)]) (list.length : Int) = (m : Int) := by rw [rd_get _ _ hlen]; simp
      have hpre : ∀ j : Nat, j < list.length → rd (list ++ [(m : Int)]) (j : Int) = rd list (j : Int) := fun j hj => by
        rw [rd_get _ _ (by simp; omega), rd_get _ _ hj, List.getElem_append_left hj]
      have hu' : UsedBy (list ++ [(m : Int)]) list.length used := by
        obtain ⟨u1, u2, u3⟩ := hu
        refine ⟨u1, fun j hj => by rw [hpre j hj]; exact u2 j hj, fun q => ?_⟩
        rw [u3]
        constructor
        · intro h j hj; unfold numAt; rw [hpre j hj]; exact h j hj
        · intro h j hj; have := h j hj; unfold numAt at this; rw [hpre j hj] at this; exact this
      have hgo := next_goes (ships := ships) hu' hlen hrd h0 h1
      rw [hrd, List.take_left' rfl] at hgo
      have hok : goOk ships list (m : Int) (used : Int) = goesV ships list (m : Int) := by
        rw [hgo]
        unfold goOk nextOk
        have hna : numAt (list ++ [(m : Int)]) list.length = m := by unfold numAt; rw [hrd, Int.toNat_natCast]
        rw [hna, hrd, bits_and_nat m used (Nat.lt_of_lt_of_le h1 pow25_le) (Nat.lt_of_lt_of_le hu.1 pow25_le)]
        have hz : decide (((m &&& used : Nat) : Int) = 0) = decide (m &&& used = 0) := decide_eq_decide.2 (by omega)
        rw [hz]
        by_cases hl : 0 < list.length
        · obtain ⟨p, hp⟩ : ∃ p, list.length = p + 1 := ⟨list.length - 1, by omega⟩
          have e : (list.length : Int) - 1 = (p : Int) := by omega
          rw [e, hpre p (by omega)]
        · rw [decide_eq_false hl]; rfl
      rw [hok]
      by_cases hg : goesV ships list (m : Int) = true
      · rw [if_pos hg, if_pos hg, bits_or_nat used m (Nat.lt_of_lt_of_le hu.1 pow25_le) (Nat.lt_of_lt_of_le h1 pow25_le)]
        refine goV_all hW hH ships hs T most hm d (list ++ [(m : Int)]) (used ||| m) (by simp; omega) ?_
        rw [show (list ++ [(m : Int)]).length = list.length + 1 by simp]
        exact used_step hu' hrd h0 h1
      · rw [if_neg hg, if_neg hg]; rfl
    exact flat_congr _ _ _ key

/-- Every ship of the list lies where its placements say. -/
def InPl (W H : Nat) (ships list : List Int) : Prop := ∀ (j : Nat) (h : j < list.length), list[j] ∈ placeOf W H ships j
theorem InPl.nil {W H : Nat} {ships : List Int} : InPl W H ships [] := fun j h => absurd h (by simp)
theorem InPl.snoc {W H : Nat} {ships list : List Int} {own : Int} (h : InPl W H ships list) (ho : own ∈ placeOf W H ships list.length) : InPl W H ships (list ++ [own]) := fun j hj => by
  rw [List.length_append, List.length_singleton] at hj
  by_cases hl : j < list.length
  · rw [List.getElem_append_left hl]; exact h j hl
  · have e : j = list.length := by omega
    subst e
    rw [List.getElem_append_right (Nat.le_refl _)]
    simpa using ho
theorem step_len (most : Int) (ok : Int → Bool) (F : Int → Int → List (List Int)) (n : Nat) (hF : ∀ own rest, (F own rest).length ≤ n) (out : List (List Int)) (own : Int) : (goStep most ok F out own).length ≤ out.length + n := by
  unfold goStep
  split
  · split
    · rw [List.length_append]; have := hF own (if most < 0 then most else most - (out.length : Int)); omega
    · omega
  · omega
theorem fold_len (most : Int) (ok : Int → Bool) (F : Int → Int → List (List Int)) (n : Nat) (hF : ∀ own rest, (F own rest).length ≤ n) : ∀ (P : List Int) (out : List (List Int)), (P.foldl (goStep most ok F) out).length ≤ out.length + P.length * n
  | [], out => by simp
  | x :: P, out => by
    rw [List.foldl_cons, List.length_cons, Nat.succ_mul]
    have h1 := fold_len most ok F n hF P (goStep most ok F out x)
    have h2 := step_len most ok F n hF out x
    omega
theorem goV_len (W H : Nat) (ships : List Int) (T : List S93) (hpl : ∀ j, (placeOf W H ships j).length ≤ 100) : ∀ (d : Nat) (list : List Int) (used most : Int), (goV W H ships T d list used most).length ≤ 100 ^ d
  | 0, list, used, most => by unfold goV; split <;> simp
  | d + 1, list, used, most => by
    unfold goV
    refine Nat.le_trans (fold_len most _ _ (100 ^ d) (fun own rest => goV_len W H ships T hpl d _ _ _) _ _) ?_
    have := Nat.mul_le_mul_right (100 ^ d) (hpl list.length)
    rw [Nat.pow_succ, Nat.mul_comm (100 ^ d)]
    simp only [List.length_nil]
    omega
theorem fold_stuck (most : Int) (ok : Int → Bool) (F : Int → Int → List (List Int)) (hm : ¬ most < 0) : ∀ (P : List Int) (out : List (List Int)), most ≤ (out.length : Int) → P.foldl (goStep most ok F) out = out
  | [], out, _ => rfl
  | x :: P, out, h => by
    have e : goStep most ok F out x = out := by unfold goStep; rw [if_neg (by omega)]
    rw [List.foldl_cons, e]
    exact fold_stuck most ok F hm P out h
/-- What the reference's loop has behind its rounds. -/
theorem go_rows (most : Int) (ok : Int → Bool) (F : Int → Int → List (List Int)) (n : Nat) (hF : ∀ own rest, (F own rest).length ≤ n) (P : List Int) : ∃ O : Nat → List (List Int), O 0 = [] ∧ (∀ (j : Nat) (h : j < P.length), O (j + 1) = goStep most ok F (O j) P[j]) ∧ P.foldl (goStep most ok F) [] = O P.length ∧ (∀ j, j ≤ P.length → ¬ most < 0 → most ≤ ((O j).length : Int) → O P.length = O j) ∧ ∀ j, j ≤ P.length → (O j).length ≤ P.length * n := by
  refine ⟨fun j => (P.take j).foldl (goStep most ok F) [], rfl, fun j h => ?_, by show _ = (P.take P.length).foldl _ []; rw [List.take_length], fun j hj hm hl => ?_, fun j hj => ?_⟩
  · show (P.take (j + 1)).foldl _ [] = _
    rw [List.take_succ_eq_append_getElem h, List.foldl_append]
    rfl
  · show (P.take P.length).foldl _ [] = (P.take j).foldl _ []
    rw [List.take_length]
    conv => lhs; rw [← List.take_append_drop j P]
    rw [List.foldl_append]
    exact fold_stuck most ok F hm _ _ hl
  · refine Nat.le_trans (fold_len most ok F n hF (P.take j) []) ?_
    have h1 : (P.take j).length ≤ P.length := by rw [List.length_take]; omega
    have := Nat.mul_le_mul_right n h1
    simp only [List.length_nil]
    omega
/-- The ways the test of the next ship can go. -/
theorem goOk_cases (ships list : List Int) (own used : Int) : (Go.bits .and .i64 own used ≠ 0 ∧ goOk ships list own used = false) ∨ (Go.bits .and .i64 own used = 0 ∧ list.length = 0 ∧ goOk ships list own used = true) ∨ ∃ m : Nat, list.length = m + 1 ∧ Go.bits .and .i64 own used = 0 ∧
    ((rd ships (list.length : Int) ≠ rd ships (m : Int) ∧ goOk ships list own used = true) ∨ (rd ships (list.length : Int) = rd ships (m : Int) ∧ own < rd list (m : Int) ∧ goOk ships list own used = false) ∨ (rd ships (list.length : Int) = rd ships (m : Int) ∧ ¬ own < rd list (m : Int) ∧ goOk ships list own used = true)) := by
  unfold goOk
  by_cases hb : Go.bits .and .i64 own used = 0
  · rw [decide_eq_true hb, Bool.true_and]
    by_cases hl : 0 < list.length
    · obtain ⟨m, hm⟩ : ∃ m, list.length = m + 1 := ⟨list.length - 1, by omega⟩
      have e : (list.length : Int) - 1 = (m : Int) := by omega
      refine .inr (.inr ⟨m, hm, hb, ?_⟩)
      rw [decide_eq_true hl, Bool.true_and, e]
      by_cases h1 : rd ships (list.length : Int) = rd ships (m : Int)
      · rw [decide_eq_true h1, Bool.true_and]
        by_cases h2 : own < rd list (m : Int)
        · exact .inr (.inl ⟨h1, h2, by rw [decide_eq_true h2]; rfl⟩)
        · exact .inr (.inr ⟨h1, h2, by rw [decide_eq_false h2]; rfl⟩)
      · exact .inl ⟨h1, by rw [decide_eq_false h1]; rfl⟩
    · exact .inr (.inl ⟨hb, by omega, by rw [decide_eq_false hl]; rfl⟩)
  · exact .inl ⟨hb, by rw [decide_eq_false hb]; rfl⟩

end Go.Proofs.Ytiancdhpdjmacaa.F
