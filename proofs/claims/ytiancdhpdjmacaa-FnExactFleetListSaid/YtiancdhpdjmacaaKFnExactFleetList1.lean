-- written by the session's program xp.py over the kit's print program, and by hand; texts joined by pack.py
import Derived.Test.YtiancdhpdjmacaaKWFnExactFleetList1
import Derived.Test.YtiancdhpdjmacaaProg
import Derived.Below
import Derived.Deep.Draws
import Derived.Deep.AppendLies
import Derived.Maps.AppendAt
import Derived.OwnWalk
import Derived.Laws.BytesArg
import Derived.Laws.MakeOwn
import Derived.Laws.OwnMore
import Derived.Deep.OwnRows
import Derived.Tactics
import Derived.Lib.ConvBytes
import Derived.Laws.Slices
import Derived.WalkKit
import Derived.KernelRfl
import Derived.RowKit3
import Derived.Deep.LoopGhost
import Derived.Deep.QuietTactic
import Derived.BigQuiet
import Derived.WideLaws
import Derived.Deep.DeepCutAuto
import Derived.Deep.CutBlock
import Derived.Deep.RegionHeld3
import Derived.Laws.Rows
import Derived.Lib.AppendStr
import Derived.ArgAppend
import Derived.Laws.IdiomCopy
import Derived.OrdersHeld
import Derived.Laws.BitsLemmas
import Derived.RowKit
import Derived.Shelf.Abstract
import Derived.Lib.SlicesCompact
import Derived.Shelf.SlGeneric
import Derived.Ground.SlgnProg
import Derived.Shelf.SlicesG.CompactI
import Derived.Shelf.SortG.Plain
import Derived.Ground.SlgnProg
import Derived.Shelf.SortG.SortNone
import Derived.Lib.OwnBridge
import Derived.Sort.OwnSortedInts
import Derived.Lib.SliceRun
import Derived.Maps.RangeWalk
import Derived.Maps.OwnSet
import Derived.Maps.OwnOps
import Derived.DeepKeys4
import Derived.Ground.GgzProg
import Derived.Shelf.SlIterI.Sorted
import Derived.Lib.RowBridge
import Derived.ProofKit
import Derived.ChangeSlices
import Derived.WideShapes
namespace Go.Proofs.Ytiancdhpdjmacaa.F
open Go.RowKit Go.Proofs.YtiancdhpdjmacaaW.PrintWords Go.Proofs.YtiancdhpdjmacaaW.PrintLast Go.Proofs.YtiancdhpdjmacaaW.PrintMore
attribute [local go_sem] max2_int min2_int max_two min_two max_three min_three max_four min_four   -- for this text's walks alone
set_option linter.unusedVariables false
set_option linter.unusedSimpArgs false

theorem oda {p : Prop} [Decidable p] (h : decide p = true := by first | (with_reducible assumption) | assumption) : p := of_decide_eq_true h
theorem hb_ {B : Nat} {w W : World} (h : Below B w W := by repeat (first | (with_reducible first | exact HB.out | apply below_alloc | apply pw_below_drewN | apply below_drew1) | exact HB.out)) : Below B w W := h
theorem goesA_ {P : Program} {ops : Array Oper} {Q : Exit → Act → World → Prop} {rest : List Oper} {oi : Oper} {a : Act} {w : World} (N : Option Tmp) (hd : oi.dst = N) (hg : oi.guard = none) {f : FuncId} {fn : Func} {as_ : Array Operand} {ts : Array TypeId} (hf : P.funcs[f]? = some fn) (hname : (fn.name == "runtime.NumGoroutine") = false) (hb : fn.body.isSome = true) (args : Array Value) (hop : oi.op = .call { callee := .value (.func f), args := as_, argTypes := ts }) (h : Calls P f args w fun e w' => ∃ v, e = .returned v ∧ wpList P ops Q rest (a.put N v) w') (hargs : as_.map a.eval = args := by (try simp only [List.map_toArray, List.map_cons, List.map_nil]); first | done | rfl | (simp only [List.length_drop, List.length_take]; rfl)) : wpList P ops Q (oi :: rest) a w := goesL_ N hd hg hf hname hb args hop hargs h
def flg_ (n m : Nat) : Array Bool := ((List.range n).map fun i => m.testBit i).toArray
theorem sz_ {α : Type} {l : List α} {i : Nat} {a : α} : l.toArray.setIfInBounds i a = (l.set i a).toArray := List.setIfInBounds_toArray ..
theorem s0_ {α : Type} {a b : α} {l : List α} : (a :: l).set 0 b = b :: l := List.set_cons_zero ..
theorem s1_ {α : Type} {a b : α} {l : List α} {n : Nat} : (a :: l).set (n + 1) b = a :: l.set n b := List.set_cons_succ ..
def errW : Option Int → Value
  | none => .nilIface
  | some c => .iface 0 (.int .i64 c)
theorem errW_none : errW none = .nilIface := rfl
theorem errW_some (c : Int) : errW (some c) = .iface 0 (.int .i64 c) := rfl

theorem info2 : (Try.prog.info? 2).map (fun i => (i.zero, i.size, i.bytes)) = some (some (.int .i64 0), 1, 8) := by kernel_rfl
theorem info22 : (Try.prog.info? 22).map (fun i => (i.zero, i.size, i.bytes)) = some (some (.slice none 0 0), 1, 24) := by kernel_rfl
-- the values' own types
/-! #### struct type 70 -/
structure S70 where
  f0 : Bool
  f1 : Int
def rd_L3 (xs : List (List Int)) (i : Int) : (List Int) := xs.getD i.toNat ([] : List Int)
theorem at_L3 {w : World} {A : Option Addr} {n : Nat} {xs : List (List Int)} (h : Kd.C (Kd.slice 2 (Kd.int .i64)) w A n xs) (i : Int) (h0 : 0 ≤ i) (h1 : i < n) : ∃ ad A0 c0, A = some ad ∧ w.cell? (ad.add i.toNat) = some (.slice A0 (rd_L3 xs i).length c0) ∧ (rd_L3 xs i).length ≤ c0 ∧ (Kd.int .i64).C w A0 (rd_L3 xs i).length (rd_L3 xs i) := by
  obtain ⟨ad, c, e, _, hK, hc0⟩ := Kd.C_get h ([] : List Int) i h0 h1
  have hc : ∀ j u, c[j]? = some u → w.cell? (ad.add (i.toNat * 1 + j)) = some u := hc0
  obtain ⟨A0, c0, rfl, l0, g0⟩ := hK
  exact ⟨ad, A0, c0, e, by have hq := hc 0 _ rfl; rwa [Nat.mul_one, Nat.add_zero] at hq, l0, g0⟩

/-! #### struct type 28 -/
structure S28 where
  f0 : Int
  f1 : Int
  f2 : (List Int)
/-! #### struct type 93 -/
structure S93 where
  f0 : Int
  f1 : Int
def z93 : S93 := ⟨(0 : Int), (0 : Int)⟩
def k93 : Kd S93 := Kd.iso (Kd.pair (Kd.int .i64) (Kd.int .i64)) (fun x : S93 => (x.f0, x.f1))
theorem k93_open {w : World} {x : S93} {cs : List Value} (h : k93.K w x cs) : cs = [.int .i64 x.f0, .int .i64 x.f1] := by
  obtain ⟨_, _, rfl, rfl, rfl⟩ := h
  exact rfl
def rd_T93 (xs : List S93) (i : Int) : S93 := xs.getD i.toNat z93
theorem at_T93 {w : World} {A : Option Addr} {n : Nat} {xs : List S93} (h : Kd.C k93 w A n xs) (i : Int) (h0 : 0 ≤ i) (h1 : i < n) : ∃ ad , A = some ad ∧ w.cell? (ad.add (i.toNat * 2)) = some (.int .i64 (rd_T93 xs i).f0) ∧ w.cell? ⟨(ad.add (i.toNat * 2)).block, (ad.add (i.toNat * 2)).off + 1, none⟩ = some (.int .i64 (rd_T93 xs i).f1) := by
  obtain ⟨ad, c, e, _, hK, hc0⟩ := Kd.C_get h z93 i h0 h1
  have hc : ∀ j u, c[j]? = some u → w.cell? (ad.add (i.toNat * 2 + j)) = some u := hc0
  obtain rfl := k93_open hK
  exact ⟨ad, e, hc 0 _ rfl, by rw [← add_field _ _ 1 (by omega)]; exact hc 1 _ rfl⟩

/-! #### struct type 95 -/
structure S95 where
  f0 : Int
  f1 : Int
/-! ### laws_toInt64S: function 25 -/
def laws_toInt64S.l0 : Nat → List Int → List Int → Int → Option (List Int)
 | 0, _, _, _ => none
 | k + 1, x0, x3, x4 => if x4 < (x0.length : Int) then (if 0 ≤ x4 then (if x4 < (x3.length : Int) then (laws_toInt64S.l0 k x0 (x3.set (x4 : Int).toNat (rd x0 x4)) (wrap64 (x4 + 1))) else (none)) else (none)) else (some x3)
def laws_toInt64S.f (k : Nat) (l0 : List Int) : Option (List Int) := if 0 ≤ (l0.length : Int) then (if ((l0.length : Int) : Int).toNat ≤ 35184372088832 then (laws_toInt64S.l0 k l0 (List.replicate ((l0.length : Int) : Int).toNat 0) 0) else (none)) else (none)
set_option maxHeartbeats 8000000 in
set_option maxRecDepth 100000 in
theorem laws_toInt64S.calls (k : Nat) (A0 : Option Addr) (c0 : Nat) (l0 : List Int) (r : List Int) (w : World) (hr0 : Kd.C (Kd.int .i64) w A0 l0.length l0) (hc0 : l0.length ≤ c0) (h : laws_toInt64S.f k l0 = some r) :
  Calls Try.prog 25 #[.slice A0 l0.length c0] w fun e w' => ∃ v0_ : Value, e = .returned (v0_) ∧ Kd.R (Kd.int .i64) 2 w' w.heap.size (fun _ => True) v0_ r ∧ Below w.heap.size w w' := by
 have HR0 := Aside0.mk hr0
 have HC0 := Aside0.mk hc0
 clear hr0 hc0
 have HB := Aside0.mk (Below.refl w.heap.size w)
 have H : (if 0 ≤ (l0.length : Int) then (if ((l0.length : Int) : Int).toNat ≤ 35184372088832 then (laws_toInt64S.l0 k l0 (List.replicate ((l0.length : Int) : Int).toNat 0) 0) else (none)) else (none)) = some r := h
 clear h
 by_cases c2 : 0 ≤ (l0.length : Int)
 ·rw [if_pos c2] at H
  have c2b0 := eq_true c2
  have c2b1 : decide (0 ≤ (l0.length : Int)) = true := decide_eq_true c2
  clear c2
  by_cases c3 : ((l0.length : Int) : Int).toNat ≤ 35184372088832
  ·rw [if_pos c3] at H
   have c3b0 := eq_true c3
   have c3b1 : decide (((l0.length : Int) : Int).toNat ≤ 35184372088832) = true := decide_eq_true c3
   clear c3
   obtain ⟨y172, hy172⟩ : ∃ y_ : List Int, y_ = (List.replicate ((l0.length : Int) : Int).toNat 0) := ⟨_, rfl⟩
   replace H : (laws_toInt64S.l0 k l0 y172 0) = some r := by first | (rw [hy172]; with_reducible exact H) | (have H2_ := (Option.bind_some _ _).symm.trans H; rw [hy172]; with_reducible exact H2_) | (have H2_ := (Option.bind_some _ _).symm.trans H; with_reducible exact H2_) | with_reducible exact H | (rw [hy172]; exact H) | exact H
   have Ny172 := Aside0.mk hy172
   clear hy172
   have H' := Aside0.mk H
   clear H
   go_enter Try.func25, Try.ntmps25
   go_wp2_with (first | ((with_reducible refine gate_dst (N := 7) rfl ?_); refine Kd.R_make (Kd.int .i64) _ 2 rfl (N := 7) rfl 22 _ _ rfl (l0.length : Int) rfl rfl Try.underlying22 (.int .i64 0) 8 info2 rfl (by decide) (by omega) 0 (ok := fun _ => True) (okp := fun _ => True) rfl (fun _ hk => hk) trivial (oda) (Nat.le_trans (Nat.mul_le_mul_right _ (oda : (l0.length : Int).toNat ≤ 35184372088832)) (by omega)) (Below.refl _ _) (Nat.le_refl _) ?_; intro v173 w4 ho5 hb hg_ hnew_; clear hg_ hnew_; (first | rw [← Ny172.out] at ho5 | (simp only [Int.reduceToNat] at ho5; rw [← Ny172.out] at ho5)); have n0_ := Aside0.mk (Kd.R_lower ho5 (below_size hb_)); have n1_ := Aside0.mk (below_step hb_ hb); clear HB; have HO174 := n0_; have HB := n1_; clear n0_ n1_; clear hb ho5))
   go_loopg [4] k (fun kq v4 w' => ∃ (x3_1 : List Int) (x4_1 : Int), v4 = .int .i64 x4_1 ∧ Aside0 (laws_toInt64S.l0 kq l0 x3_1 x4_1 = some r) ∧ Aside0 (kq ≤ k) ∧ Aside0 (Kd.R (Kd.int .i64) 2 w' w.heap.size (fun _ => True) v173 x3_1) ∧ Aside0 (Below w.heap.size w w'))
   case atStart => exact ⟨(y172), (0), (by first | rfl | (simp; done) | (simp [*]; done)), H', ⟨Nat.le_refl _⟩, ⟨by (with_reducible repeat (first | apply Kd.R_alloc | apply Kd.R_drewN | apply Kd.R_drew)); exact HO174.out⟩, ⟨by repeat (first | (with_reducible first | exact HB.out | apply below_alloc | apply pw_below_drewN | apply below_drew1) | exact HB.out)⟩⟩
   case round =>
    clear H'
    (try clear c2); (try clear c2b0); (try clear c2b1); (try clear p2); (try clear c3); (try clear c3b0); (try clear c3b1)
    obtain ⟨x3_1, x4_1, rfl, HA, HK1, HO_3, HB⟩ := hrel
    cases gk with
    | zero => exact absurd HA.out (by simp [laws_toInt64S.l0])
    | succ k1 =>
     have H := HA.out
     clear HA
     simp only [laws_toInt64S.l0] at H
     by_cases c6 : x4_1 < (l0.length : Int)
     ·rw [if_pos c6] at H
      have c6b0 : decide (x4_1 < (l0.length : Int)) = true := decide_eq_true c6
      clear c6
      by_cases c7 : 0 ≤ x4_1
      ·rw [if_pos c7] at H
       have c7b0 : decide (0 ≤ x4_1) = true := decide_eq_true c7
       clear c7
       by_cases c8 : x4_1 < (x3_1.length : Int)
       ·rw [if_pos c8] at H
        have c8b0 : decide (x4_1 < (x3_1.length : Int)) = true := decide_eq_true c8
        clear c8
        obtain ⟨y176, hy176⟩ : ∃ y_ : List Int, y_ = (x3_1.set (x4_1 : Int).toNat (rd l0 x4_1)) := ⟨_, rfl⟩
        replace H : (laws_toInt64S.l0 k1 l0 y176 (wrap64 (x4_1 + 1))) = some r := by first | (rw [hy176]; with_reducible exact H) | (have H2_ := (Option.bind_some _ _).symm.trans H; rw [hy176]; with_reducible exact H2_) | (have H2_ := (Option.bind_some _ _).symm.trans H; with_reducible exact H2_) | with_reducible exact H | (rw [hy176]; exact H) | exact H
        have Ny176 := Aside0.mk hy176
        clear hy176
        have H' := Aside0.mk H
        clear H
        have p175 : 0 ≤ (x4_1 : Int) := oda
        have q175 : x4_1 < (l0.length : Int) := oda
        obtain ⟨ad175, e175, hx175_0⟩ := Kd.at_int HR0.out x4_1 p175 q175
        cases e175
        replace hx175_0 := (HB.out.cell (World.block_lt_of_cell? w _ hx175_0)).trans hx175_0
        replace p175 := eq_true p175
        replace q175 := eq_true q175
        have p9 : 0 ≤ (x4_1 : Int) := oda
        have q9 : (x4_1 : Int) < ((x3_1.length : Int) : Int) := oda
        obtain ⟨go9, co9, eo9, gb9, gl9, cl9, HG9⟩ := Kd.R_form HO_3.out (by omega)
        (first | cases eo9 | (injection eo9 with ea_ en_ ec_; (first | subst ea_ | (injection ea_ with ea_; subst ea_)); subst ec_; clear en_))
        have GB9 := Aside0.mk gb9
        have GG9 := Aside0.mk HG9
        clear gb9 gl9 HG9
        obtain ⟨hx9_0, hf9_0⟩ := Kd.R_celln 0 HO_3.out (x4_1 : Int) p9 q9
        replace p9 := eq_true p9
        replace q9 := eq_true q9
        have HP10 := Kd.R_putg HO_3.out (x4_1 : Int) (rd l0 x4_1)
        go_wp2_with (first | ((with_reducible refine gate_store (t := 2) (p := 20) rfl ?_); refine store_event (t := 2) (p := 20) (v := ?vo_w11) (w1 := (wr.setCell ⟨go9, (x4_1 : Int).toNat, none⟩ (.int .i64 (rd l0 x4_1)))) ?hg ?ho ?hn ?hr ?_; (case ho => rfl); (case hg => rfl); (case hn => rfl); (case hr => first | (go_simp; done) | (go_simp; rfl)); intro w11 hw; have hg : wr.grownBy w11 (some go9) := (by rw [hw]; exact HP10.2); have hp_ : Kd.R (Kd.int .i64) 2 w11 w.heap.size (fun _ => True) (.slice (some ⟨go9, 0, none⟩) x3_1.length co9) y176 := (by rw [hw, Ny176.out]; exact HP10.1); clear HP10; have n0_ := Aside0.mk (hp_); have n1_ := Aside0.mk ((by rw [hw]; exact below_set (HB.out) GB9.out : Below w.heap.size w w11)); clear HO_3; clear HB; have HO_3 := n0_; have HB := n1_; clear n0_ n1_; clear hg hw hp_))
        go_roundg k1
        case measure => have := HK1.out; omega
        case rel => exact ⟨(y176), (wrap64 (x4_1 + 1)), (by first | rfl | (simp; done) | (simp [*]; done)), H', ⟨by have := HK1.out; omega⟩, ⟨by (with_reducible repeat (first | apply Kd.R_alloc | apply Kd.R_drewN | apply Kd.R_drew)); exact HO_3.out⟩, ⟨by repeat (first | (with_reducible first | exact HB.out | apply below_alloc | apply pw_below_drewN | apply below_drew1) | exact HB.out)⟩⟩
       ·rw [if_neg c8] at H
        exact absurd H (by simp)
      ·rw [if_neg c7] at H
       exact absurd H (by simp)
     ·rw [if_neg c6] at H
      have c6b0 : decide (x4_1 < (l0.length : Int)) = false := decide_eq_false c6
      clear c6
      obtain rfl := Option.some.inj H
      go_wp2
      go_ret
      exact ⟨_, by first | rfl | (simp [errW_none, errW_some] <;> rfl) | (simp [*, errW_none, errW_some] <;> rfl), by (with_reducible repeat (first | apply Kd.R_alloc | apply Kd.R_drewN | apply Kd.R_drew)); exact HO_3.out, by repeat (first | (with_reducible first | exact HB.out | apply below_alloc | apply pw_below_drewN | apply below_drew1) | exact HB.out)⟩
  ·rw [if_neg c3] at H
   exact absurd H (by simp)
 ·rw [if_neg c2] at H
  exact absurd H (by simp)
/-! ### laws_toSea: function 17 -/
def laws_toSea.f (k : Nat) (a0_0 : Int) (a0_1 : Int) (l0_2 : List Int) : Option (Int × Int × List Int) := (laws_toInt64S.f k l0_2).bind fun t180 => (some (a0_0, a0_1, t180))
set_option maxHeartbeats 8000000 in
set_option maxRecDepth 100000 in
theorem laws_toSea.calls (k : Nat) (a0_0 : Int) (a0_1 : Int) (A0_2 : Option Addr) (c0_2 : Nat) (l0_2 : List Int) (r1 : Int) (r2 : Int) (r3 : List Int) (w : World) (hr0_2 : Kd.C (Kd.int .i64) w A0_2 l0_2.length l0_2) (hc0_2 : l0_2.length ≤ c0_2) (h : laws_toSea.f k a0_0 a0_1 l0_2 = some (r1, r2, r3)) :
  Calls Try.prog 17 #[.agg #[.int .i64 a0_0, .int .i64 a0_1, .slice A0_2 l0_2.length c0_2]] w fun e w' => ∃ v2_ : Value, e = .returned (.agg #[.int .i64 r1, .int .i64 r2, v2_]) ∧ Kd.R (Kd.int .i64) 2 w' w.heap.size (fun _ => True) v2_ r3 ∧ Below w.heap.size w w' := by
 have hu24 := Try.underlying24
 have hu28 := Try.underlying28
 have HR0_2 := Aside0.mk hr0_2
 have HC0_2 := Aside0.mk hc0_2
 clear hr0_2 hc0_2
 have HB := Aside0.mk (Below.refl w.heap.size w)
 have H : ((laws_toInt64S.f k l0_2).bind fun t180 => (some (a0_0, a0_1, t180))) = some (r1, r2, r3) := h
 clear h
 replace H := Option.bind_eq_some_iff.mp H
 obtain ⟨t180, A20, H⟩ := H
 replace H : (some (a0_0, a0_1, t180)) = some (r1, r2, r3) := H
 have A2 := Aside0.mk A20
 clear A20
 simp only [Option.some.injEq, Prod.mk.injEq] at H
 obtain ⟨rfl, rfl, rfl⟩ := H
 go_enter Try.func17, Try.ntmps17
 go_wp2_with (first | ((with_reducible refine gate_dst (N := 1) rfl ?_); refine box_event ?hg (N := 1) ?hd (cs := #[.int .i64 a0_0, .int .i64 a0_1, .slice A0_2 l0_2.length c0_2]) (t := 24) ?hr ?_; (case hd => rfl); (case hg => rfl); (case hr => first | (go_simp; done) | (go_simp; rfl)); intro gb177 hg w3 hbox hb; have n0_ := Aside0.mk (below_step hb_ hb); have n1_ := Aside0.mk (hbox); have n2_ := Aside0.mk ((by rw [hg]; exact (below_size hb_) : w.heap.size ≤ gb177)); have n3_ := Aside0.mk ((by rw [hg]; exact (below_size hb_) : w.heap.size ≤ gb177)); clear HB; have HB := n0_; have BK177 := n1_; have GW177 := n2_; have GE177 := n3_; clear n0_ n1_ n2_ n3_; clear hb hbox hg) | ((with_reducible refine gate_dst (N := 2) rfl ?_); refine box_event ?hg (N := 2) ?hd (cs := #[.int .i64 0, .int .i64 0, .slice none 0 0]) (t := 28) ?hr ?_; (case hd => rfl); (case hg => rfl); (case hr => first | (go_simp; done) | (go_simp; rfl)); intro gb178 hg w4 hbox hb; have n0_ := Aside0.mk (blk_below (g := gb177) (o := .cells #[.int .i64 a0_0, .int .i64 a0_1, .slice A0_2 l0_2.length c0_2] 24 (0, 0)) (by (with_reducible repeat (first | refine blk_drewN ?_ _ | refine blk_drew ?_ | refine blk_alloc ?_ _)); exact BK177.out) hb); have n1_ := Aside0.mk (below_step (by repeat (first | (with_reducible first | exact HB.out | apply below_alloc | apply pw_below_drewN | apply below_drew1 | refine below_set ?_ GE177.out) | exact HB.out)) hb); have n2_ := Aside0.mk (hbox); have n3_ := Aside0.mk ((by rw [hg]; exact (below_size (by repeat (first | (with_reducible first | exact HB.out | apply below_alloc | apply pw_below_drewN | apply below_drew1 | refine below_set ?_ GE177.out) | exact HB.out))) : w.heap.size ≤ gb178)); have n4_ := Aside0.mk ((by rw [hg]; exact (below_size (by repeat (first | (with_reducible first | exact HB.out | apply below_alloc | apply pw_below_drewN | apply below_drew1 | refine below_set ?_ GE177.out) | exact HB.out))) : w.heap.size ≤ gb178)); have n5_ := Aside0.mk ((by rw [hg]; exact Nat.ne_of_lt (blk_lt (g := gb177) (o := .cells #[.int .i64 a0_0, .int .i64 a0_1, .slice A0_2 l0_2.length c0_2] 24 (0, 0)) (by (with_reducible repeat (first | refine blk_drewN ?_ _ | refine blk_drew ?_ | refine blk_alloc ?_ _)); exact BK177.out)) : gb177 ≠ gb178)); have n6_ := Aside0.mk ((by rw [hg]; exact Nat.ne_of_gt (blk_lt (g := gb177) (o := .cells #[.int .i64 a0_0, .int .i64 a0_1, .slice A0_2 l0_2.length c0_2] 24 (0, 0)) (by (with_reducible repeat (first | refine blk_drewN ?_ _ | refine blk_drew ?_ | refine blk_alloc ?_ _)); exact BK177.out)) : gb178 ≠ gb177)); clear BK177; clear HB; have BK177 := n0_; have HB := n1_; have BK178 := n2_; have GW178 := n3_; have GE178 := n4_; have NB177_178 := n5_; have NB178_177 := n6_; clear n0_ n1_ n2_ n3_ n4_ n5_ n6_; clear hb hbox hg) | ((with_reducible refine gate_dst (N := 3) rfl ?_); refine box_event ?hg (N := 3) ?hd (cs := #[.int .i64 0, .int .i64 0, .slice none 0 0]) (t := 28) ?hr ?_; (case hd => rfl); (case hg => rfl); (case hr => first | (go_simp; done) | (go_simp; rfl)); intro gb179 hg w5 hbox hb; have n0_ := Aside0.mk (blk_below (g := gb177) (o := .cells #[.int .i64 a0_0, .int .i64 a0_1, .slice A0_2 l0_2.length c0_2] 24 (0, 0)) (by (with_reducible repeat (first | refine blk_drewN ?_ _ | refine blk_drew ?_ | refine blk_alloc ?_ _)); exact BK177.out) hb); have n1_ := Aside0.mk (blk_below (g := gb178) (o := .cells #[.int .i64 0, .int .i64 0, .slice none 0 0] 28 (0, 0)) (by (with_reducible repeat (first | refine blk_drewN ?_ _ | refine blk_drew ?_ | refine blk_alloc ?_ _)); exact BK178.out) hb); have n2_ := Aside0.mk (below_step (by repeat (first | (with_reducible first | exact HB.out | apply below_alloc | apply pw_below_drewN | apply below_drew1 | refine below_set ?_ GE177.out | refine below_set ?_ GE178.out) | exact HB.out)) hb); have n3_ := Aside0.mk (hbox); have n4_ := Aside0.mk ((by rw [hg]; exact (below_size (by repeat (first | (with_reducible first | exact HB.out | apply below_alloc | apply pw_below_drewN | apply below_drew1 | refine below_set ?_ GE177.out | refine below_set ?_ GE178.out) | exact HB.out))) : w.heap.size ≤ gb179)); have n5_ := Aside0.mk ((by rw [hg]; exact (below_size (by repeat (first | (with_reducible first | exact HB.out | apply below_alloc | apply pw_below_drewN | apply below_drew1 | refine below_set ?_ GE177.out | refine below_set ?_ GE178.out) | exact HB.out))) : w.heap.size ≤ gb179)); have n6_ := Aside0.mk ((by rw [hg]; exact Nat.ne_of_lt (blk_lt (g := gb177) (o := .cells #[.int .i64 a0_0, .int .i64 a0_1, .slice A0_2 l0_2.length c0_2] 24 (0, 0)) (by (with_reducible repeat (first | refine blk_drewN ?_ _ | refine blk_drew ?_ | refine blk_alloc ?_ _)); exact BK177.out)) : gb177 ≠ gb179)); have n7_ := Aside0.mk ((by rw [hg]; exact Nat.ne_of_gt (blk_lt (g := gb177) (o := .cells #[.int .i64 a0_0, .int .i64 a0_1, .slice A0_2 l0_2.length c0_2] 24 (0, 0)) (by (with_reducible repeat (first | refine blk_drewN ?_ _ | refine blk_drew ?_ | refine blk_alloc ?_ _)); exact BK177.out)) : gb179 ≠ gb177)); have n8_ := Aside0.mk ((by rw [hg]; exact Nat.ne_of_lt (blk_lt (g := gb178) (o := .cells #[.int .i64 0, .int .i64 0, .slice none 0 0] 28 (0, 0)) (by (with_reducible repeat (first | refine blk_drewN ?_ _ | refine blk_drew ?_ | refine blk_alloc ?_ _)); exact BK178.out)) : gb178 ≠ gb179)); have n9_ := Aside0.mk ((by rw [hg]; exact Nat.ne_of_gt (blk_lt (g := gb178) (o := .cells #[.int .i64 0, .int .i64 0, .slice none 0 0] 28 (0, 0)) (by (with_reducible repeat (first | refine blk_drewN ?_ _ | refine blk_drew ?_ | refine blk_alloc ?_ _)); exact BK178.out)) : gb179 ≠ gb178)); clear BK177; clear BK178; clear HB; have BK177 := n0_; have BK178 := n1_; have HB := n2_; have BK179 := n3_; have GW179 := n4_; have GE179 := n5_; have NB177_179 := n6_; have NB179_177 := n7_; have NB178_179 := n8_; have NB179_178 := n9_; clear n0_ n1_ n2_ n3_ n4_ n5_ n6_ n7_ n8_ n9_; clear hb hbox hg; have hnb6 := NB177_178.out; have hnc6 := NB178_177.out; have hnb7 := NB177_179.out; have hnc7 := NB179_177.out; have hcz8_0 : w5.cell? ⟨gb177, 0, none⟩ = some (.int .i64 a0_0) := (blk_cell BK177.out 0).trans rfl; have hcz8_1 : w5.cell? ⟨gb177, 1, none⟩ = some (.int .i64 a0_1) := (blk_cell BK177.out 1).trans rfl; have hcz8_2 : w5.cell? ⟨gb177, 2, none⟩ = some (.slice A0_2 l0_2.length c0_2) := (blk_cell BK177.out 2).trans rfl; have hfz8_0 := blk_frozen BK177.out 0; have hfz8_1 := blk_frozen BK177.out 1; have hfz8_2 := blk_frozen BK177.out 2; have hnb9 := NB179_178.out; have hnc9 := NB178_179.out; have hcz10_0 : w5.cell? ⟨gb179, 0, none⟩ = some (.int .i64 0) := (blk_cell BK179.out 0).trans rfl; have hcz10_1 : w5.cell? ⟨gb179, 1, none⟩ = some (.int .i64 0) := (blk_cell BK179.out 1).trans rfl; have hcz10_2 : w5.cell? ⟨gb179, 2, none⟩ = some (.slice none 0 0) := (blk_cell BK179.out 2).trans rfl; have hfz10_0 := blk_frozen BK179.out 0; have hfz10_1 := blk_frozen BK179.out 1; have hfz10_2 := blk_frozen BK179.out 2) | ((with_reducible refine gate_callee (f := 25) rfl ?_); refine goesA_ (some 12) rfl rfl Try.func25 (by kernel_rfl) rfl #[.slice A0_2 l0_2.length c0_2] rfl ?_; (with_reducible refine (laws_toInt64S.calls k _ _ l0_2 t180 _ ?side1 ?side2 A2.out).mono ?_); (case side1 => exact Kd.C_below HR0_2.out (by repeat (first | (with_reducible first | exact HB.out | apply below_alloc | apply pw_below_drewN | apply below_drew1 | refine below_set ?_ GE177.out | refine below_set ?_ GE178.out | refine below_set ?_ GE179.out) | exact HB.out))); (case side2 => exact HC0_2.out); rintro e w11 ⟨v181, rfl, ho0, hb⟩; refine ⟨_, rfl, ?_⟩; have n0_ := Aside0.mk (Kd.R_lower ho0 (below_size (by repeat (first | (with_reducible first | exact HB.out | apply below_alloc | apply pw_below_drewN | apply below_drew1 | refine below_set ?_ GE177.out | refine below_set ?_ GE178.out | refine below_set ?_ GE179.out) | exact HB.out)))); have n1_ := Aside0.mk (blk_below (g := gb177) (o := .cells #[.int .i64 a0_0, .int .i64 a0_1, .slice A0_2 l0_2.length c0_2] 24 (0, 0)) (by (with_reducible repeat (first | refine blk_drewN ?_ _ | refine blk_drew ?_ | refine blk_alloc ?_ _)); refine blk_far ?_ NB177_179.out _; (with_reducible repeat (first | refine blk_drewN ?_ _ | refine blk_drew ?_ | refine blk_alloc ?_ _)); refine blk_far ?_ NB177_179.out _; (with_reducible repeat (first | refine blk_drewN ?_ _ | refine blk_drew ?_ | refine blk_alloc ?_ _)); exact BK177.out) hb); have n2_ := Aside0.mk (blk_below (g := gb178) (o := .cells #[.int .i64 0, .int .i64 0, .slice none 0 0] 28 (0, 0)) (by (with_reducible repeat (first | refine blk_drewN ?_ _ | refine blk_drew ?_ | refine blk_alloc ?_ _)); refine blk_far ?_ NB178_179.out _; (with_reducible repeat (first | refine blk_drewN ?_ _ | refine blk_drew ?_ | refine blk_alloc ?_ _)); refine blk_far ?_ NB178_179.out _; (with_reducible repeat (first | refine blk_drewN ?_ _ | refine blk_drew ?_ | refine blk_alloc ?_ _)); exact BK178.out) hb); have n3_ := Aside0.mk (blk_below (g := gb179) (o := .cells #[.int .i64 a0_0, .int .i64 a0_1, .slice none 0 0] 28 (0, 0)) (by (with_reducible repeat (first | refine blk_drewN ?_ _ | refine blk_drew ?_ | refine blk_alloc ?_ _)); refine blk_put (cs := #[.int .i64 a0_0, .int .i64 0, .slice none 0 0]) ?_ 1 _ rfl; (with_reducible repeat (first | refine blk_drewN ?_ _ | refine blk_drew ?_ | refine blk_alloc ?_ _)); refine blk_put (cs := #[.int .i64 0, .int .i64 0, .slice none 0 0]) ?_ 0 _ rfl; (with_reducible repeat (first | refine blk_drewN ?_ _ | refine blk_drew ?_ | refine blk_alloc ?_ _)); exact BK179.out) hb); have n4_ := Aside0.mk (below_step (by repeat (first | (with_reducible first | exact HB.out | apply below_alloc | apply pw_below_drewN | apply below_drew1 | refine below_set ?_ GE177.out | refine below_set ?_ GE178.out | refine below_set ?_ GE179.out) | exact HB.out)) hb); clear BK177; clear BK178; clear BK179; clear HB; have HO182 := n0_; have BK177 := n1_; have BK178 := n2_; have BK179 := n3_; have HB := n4_; clear n0_ n1_ n2_ n3_ n4_; (try clear hb); (try clear hb2); (try clear hk); (try clear hi); (try clear ho0); obtain ⟨Ao12, co12, eo12⟩ := Kd.R_slice HO182.out; subst eo12; have hcz13_0 : w11.cell? ⟨gb179, 0, none⟩ = some (.int .i64 a0_0) := (blk_cell BK179.out 0).trans rfl; have hcz13_1 : w11.cell? ⟨gb179, 1, none⟩ = some (.int .i64 a0_1) := (blk_cell BK179.out 1).trans rfl; have hcz13_2 : w11.cell? ⟨gb179, 2, none⟩ = some (.slice none 0 0) := (blk_cell BK179.out 2).trans rfl; have hfz13_0 := blk_frozen BK179.out 0; have hfz13_1 := blk_frozen BK179.out 1; have hfz13_2 := blk_frozen BK179.out 2; have hcz14_0 : w11.cell? ⟨gb178, 0, none⟩ = some (.int .i64 0) := (blk_cell BK178.out 0).trans rfl; have hcz14_1 : w11.cell? ⟨gb178, 1, none⟩ = some (.int .i64 0) := (blk_cell BK178.out 1).trans rfl; have hcz14_2 : w11.cell? ⟨gb178, 2, none⟩ = some (.slice none 0 0) := (blk_cell BK178.out 2).trans rfl; have hfz14_0 := blk_frozen BK178.out 0; have hfz14_1 := blk_frozen BK178.out 1; have hfz14_2 := blk_frozen BK178.out 2))
 refine bodyPost_ret (results_cell_row rfl _ _ gb178 28 #[.int .i64 a0_0, .int .i64 a0_1, .slice Ao12 t180.length co12] (0, 0) _ rfl (by (with_reducible repeat (first | refine blk_drewN ?_ _ | refine blk_drew ?_ | refine blk_alloc ?_ _)); refine blk_put (cs := #[.int .i64 a0_0, .int .i64 a0_1, .slice none 0 0]) ?_ 2 _ rfl; (with_reducible repeat (first | refine blk_drewN ?_ _ | refine blk_drew ?_ | refine blk_alloc ?_ _)); refine blk_put (cs := #[.int .i64 a0_0, .int .i64 0, .slice none 0 0]) ?_ 1 _ rfl; (with_reducible repeat (first | refine blk_drewN ?_ _ | refine blk_drew ?_ | refine blk_alloc ?_ _)); refine blk_put (cs := #[.int .i64 0, .int .i64 0, .slice none 0 0]) ?_ 0 _ rfl; (with_reducible repeat (first | refine blk_drewN ?_ _ | refine blk_drew ?_ | refine blk_alloc ?_ _)); refine blk_far ?_ NB178_179.out _; (with_reducible repeat (first | refine blk_drewN ?_ _ | refine blk_drew ?_ | refine blk_alloc ?_ _)); exact BK178.out) Try.underlying28 rfl (by kernel_rfl)) rfl ?_
 exact ⟨_, by first | rfl | (simp [errW_none, errW_some] <;> rfl) | (simp [*, errW_none, errW_some] <;> rfl), by (with_reducible repeat (first | apply Kd.R_alloc | apply Kd.R_drewN | apply Kd.R_drew)); exact Kd.R_mono (Kd.R_far (p := ⟨gb178, 2, none⟩) (Kd.R_far (p := ⟨gb178, 1, none⟩) (Kd.R_far (p := ⟨gb178, 0, none⟩) (Kd.R_far (p := ⟨gb179, 2, none⟩) (Kd.R_types (Kd.R_types HO182.out BK179.out (by decide)) BK178.out (by decide)) (fun _ hk => hk.1.2) (.slice Ao12 t180.length co12)) (fun _ hk => hk.2) (.int .i64 a0_0)) (fun _ hk => hk.2) (.int .i64 a0_1)) (fun _ hk => hk.2) (.slice Ao12 t180.length co12)) (fun _ hk => trivial), by repeat (first | (with_reducible first | exact HB.out | apply below_alloc | apply pw_below_drewN | apply below_drew1 | refine below_set ?_ GE177.out | refine below_set ?_ GE178.out | refine below_set ?_ GE179.out) | exact HB.out)⟩
/-! ### laws_eqInt64S: function 19 -/
def laws_eqInt64S.l0 : Nat → List Int → List Int → Int → Option (Bool)
 | 0, _, _, _ => none
 | k + 1, x0, x1, x5 => if x5 < (x0.length : Int) then (if 0 ≤ x5 then (if x5 < (x1.length : Int) then (if (rd x0 x5) = (rd x1 x5) then (laws_eqInt64S.l0 k x0 x1 (wrap64 (x5 + 1))) else (some false)) else (none)) else (none)) else (some true)
def laws_eqInt64S.f (k : Nat) (l0 : List Int) (l1 : List Int) : Option (Bool) := if (l0.length : Int) = (l1.length : Int) then (laws_eqInt64S.l0 k l0 l1 0) else (some false)
set_option maxHeartbeats 8000000 in
set_option maxRecDepth 100000 in
theorem laws_eqInt64S.calls (k : Nat) (A0 : Option Addr) (c0 : Nat) (l0 : List Int) (A1 : Option Addr) (c1 : Nat) (l1 : List Int) (r : Bool) (w : World) (hr0 : Kd.C (Kd.int .i64) w A0 l0.length l0) (hc0 : l0.length ≤ c0) (hr1 : Kd.C (Kd.int .i64) w A1 l1.length l1) (hc1 : l1.length ≤ c1) (h : laws_eqInt64S.f k l0 l1 = some r) :
  Calls Try.prog 19 #[.slice A0 l0.length c0, .slice A1 l1.length c1] w fun e w' => e = .returned (.bool r) ∧ Drawn0 w w' := by
 have HR0 := Aside0.mk hr0
 have HC0 := Aside0.mk hc0
 clear hr0 hc0
 have HR1 := Aside0.mk hr1
 have HC1 := Aside0.mk hc1
 clear hr1 hc1
 have H : (if (l0.length : Int) = (l1.length : Int) then (laws_eqInt64S.l0 k l0 l1 0) else (some false)) = some r := h
 clear h
 by_cases c3 : (l0.length : Int) = (l1.length : Int)
 ·rw [if_pos c3] at H
  have c3b0 : ((l0.length : Int) == (l1.length : Int)) = true := beq_iff_eq.mpr c3
  have c3b1 : ((l0.length : Int) != (l1.length : Int)) = false := bne_eq_false_iff_eq.mpr c3
  have c3b2 : (l0.length == l1.length) = true := by first | simpa using c3 | (simp at c3 ⊢; omega)
  clear c3
  have H' := Aside0.mk H
  clear H
  go_enter Try.func19, Try.ntmps19
  go_wp2
  repeat (go_quiet (fail); try go_wp2)
  go_loopg [5] k (fun kq v5 w' => ∃ (x5_1 : Int), v5 = .int .i64 x5_1 ∧ Aside0 (laws_eqInt64S.l0 kq l0 l1 x5_1 = some r) ∧ Aside0 (kq ≤ k) ∧ Drawn0 w w')
  case atStart => exact ⟨(0), (by first | rfl | (simp; done) | (simp [*]; done)), H', ⟨Nat.le_refl _⟩, by repeat (first | exact Drawn0.refl _ | apply Drawn0.step)⟩
  case round =>
   clear H'
   (try clear c1); (try clear p2); (try clear c3); (try clear c3b0); (try clear c3b1); (try clear c3b2)
   obtain ⟨x5_1, rfl, HA, HK1, ⟨m1, rfl⟩⟩ := hrel
   cases gk with
   | zero => exact absurd HA.out (by simp [laws_eqInt64S.l0])
   | succ k1 =>
    have H := HA.out
    clear HA
    simp only [laws_eqInt64S.l0] at H
    by_cases c4 : x5_1 < (l0.length : Int)
    ·rw [if_pos c4] at H
     have c4b0 : decide (x5_1 < (l0.length : Int)) = true := decide_eq_true c4
     clear c4
     by_cases c5 : 0 ≤ x5_1
     ·rw [if_pos c5] at H
      have c5b0 : decide (0 ≤ x5_1) = true := decide_eq_true c5
      clear c5
      by_cases c6 : x5_1 < (l1.length : Int)
      ·rw [if_pos c6] at H
       have c6b0 : decide (x5_1 < (l1.length : Int)) = true := decide_eq_true c6
       clear c6
       by_cases c7 : (rd l0 x5_1) = (rd l1 x5_1)
       ·rw [if_pos c7] at H
        have c7b0 : ((rd l0 x5_1) == (rd l1 x5_1)) = true := beq_iff_eq.mpr c7
        have c7b1 : ((rd l0 x5_1) != (rd l1 x5_1)) = false := bne_eq_false_iff_eq.mpr c7
        clear c7
        have H' := Aside0.mk H
        clear H
        have p338 : 0 ≤ (x5_1 : Int) := oda
        have q338 : x5_1 < (l0.length : Int) := oda
        obtain ⟨ad338, e338, hx338_0⟩ := Kd.at_int HR0.out x5_1 p338 q338
        cases e338
        replace p338 := eq_true p338
        replace q338 := eq_true q338
        have p339 : 0 ≤ (x5_1 : Int) := oda
        have q339 : x5_1 < (l1.length : Int) := oda
        obtain ⟨ad339, e339, hx339_0⟩ := Kd.at_int HR1.out x5_1 p339 q339
        cases e339
        replace p339 := eq_true p339
        replace q339 := eq_true q339
        go_wp2
        repeat (go_quiet (fail); try go_wp2)
        go_roundg k1
        case measure => have := HK1.out; omega
        case rel => exact ⟨(wrap64 (x5_1 + 1)), (by first | rfl | (simp; done) | (simp [*]; done)), H', ⟨by have := HK1.out; omega⟩, by repeat (first | exact Drawn0.refl _ | apply Drawn0.step)⟩
       ·rw [if_neg c7] at H
        have c7b0 : ((rd l0 x5_1) == (rd l1 x5_1)) = false := beq_eq_false_iff_ne.mpr c7
        have c7b1 : ((rd l0 x5_1) != (rd l1 x5_1)) = true := bne_iff_ne.mpr c7
        obtain rfl := Option.some.inj H
        have p338 : 0 ≤ (x5_1 : Int) := oda
        have q338 : x5_1 < (l0.length : Int) := oda
        obtain ⟨ad338, e338, hx338_0⟩ := Kd.at_int HR0.out x5_1 p338 q338
        cases e338
        replace p338 := eq_true p338
        replace q338 := eq_true q338
        have p339 : 0 ≤ (x5_1 : Int) := oda
        have q339 : x5_1 < (l1.length : Int) := oda
        obtain ⟨ad339, e339, hx339_0⟩ := Kd.at_int HR1.out x5_1 p339 q339
        cases e339
        replace p339 := eq_true p339
        replace q339 := eq_true q339
        go_wp2
        repeat (go_quiet (fail); try go_wp2)
        go_ret
        exact ⟨by first | rfl | (simp; done) | (simp [*]; done), by repeat (first | exact Drawn0.refl _ | apply Drawn0.step)⟩
      ·rw [if_neg c6] at H
       exact absurd H (by simp)
     ·rw [if_neg c5] at H
      exact absurd H (by simp)
    ·rw [if_neg c4] at H
     have c4b0 : decide (x5_1 < (l0.length : Int)) = false := decide_eq_false c4
     clear c4
     obtain rfl := Option.some.inj H
     go_wp2
     repeat (go_quiet (fail); try go_wp2)
     go_ret
     exact ⟨by first | rfl | (simp; done) | (simp [*]; done), by repeat (first | exact Drawn0.refl _ | apply Drawn0.step)⟩
 ·rw [if_neg c3] at H
  have c3b0 : ((l0.length : Int) == (l1.length : Int)) = false := beq_eq_false_iff_ne.mpr c3
  have c3b1 : ((l0.length : Int) != (l1.length : Int)) = true := bne_iff_ne.mpr c3
  have c3b2 : (l0.length == l1.length) = false := by first | simpa using c3 | (simp at c3 ⊢; omega)
  obtain rfl := Option.some.inj H
  go_enter Try.func19, Try.ntmps19
  go_wp2
  repeat (go_quiet (fail); try go_wp2)
  go_ret
  exact ⟨by first | rfl | (simp; done) | (simp [*]; done), by repeat (first | exact Drawn0.refl _ | apply Drawn0.step)⟩
/-! ### laws_eqSea: function 20 -/
def laws_eqSea.f (k : Nat) (a0_0 : Int) (a0_1 : Int) (l0_2 : List Int) (a1_0 : Int) (a1_1 : Int) (l1_2 : List Int) : Option (Bool) := if a0_0 = a1_0 then (if a0_1 = a1_1 then ((laws_eqInt64S.f k l0_2 l1_2).bind fun t342 => (if t342 = true then (some true) else (some false))) else (some false)) else (some false)
set_option maxHeartbeats 8000000 in
set_option maxRecDepth 100000 in
theorem laws_eqSea.calls (k : Nat) (a0_0 : Int) (a0_1 : Int) (A0_2 : Option Addr) (c0_2 : Nat) (l0_2 : List Int) (a1_0 : Int) (a1_1 : Int) (A1_2 : Option Addr) (c1_2 : Nat) (l1_2 : List Int) (r : Bool) (w : World) (hr0_2 : Kd.C (Kd.int .i64) w A0_2 l0_2.length l0_2) (hc0_2 : l0_2.length ≤ c0_2) (hr1_2 : Kd.C (Kd.int .i64) w A1_2 l1_2.length l1_2) (hc1_2 : l1_2.length ≤ c1_2) (h : laws_eqSea.f k a0_0 a0_1 l0_2 a1_0 a1_1 l1_2 = some r) :
  Calls Try.prog 20 #[.agg #[.int .i64 a0_0, .int .i64 a0_1, .slice A0_2 l0_2.length c0_2], .agg #[.int .i64 a1_0, .int .i64 a1_1, .slice A1_2 l1_2.length c1_2]] w fun e w' => e = .returned (.bool r) ∧ Below w.heap.size w w' := by
 have hu28 := Try.underlying28
 have HR0_2 := Aside0.mk hr0_2
 have HC0_2 := Aside0.mk hc0_2
 clear hr0_2 hc0_2
 have HR1_2 := Aside0.mk hr1_2
 have HC1_2 := Aside0.mk hc1_2
 clear hr1_2 hc1_2
 have HB := Aside0.mk (Below.refl w.heap.size w)
 have H : (if a0_0 = a1_0 then (if a0_1 = a1_1 then ((laws_eqInt64S.f k l0_2 l1_2).bind fun t342 => (if t342 = true then (some true) else (some false))) else (some false)) else (some false)) = some r := h
 clear h
 by_cases c3 : a0_0 = a1_0
 ·rw [if_pos c3] at H
  have c3b0 : (a0_0 == a1_0) = true := beq_iff_eq.mpr c3
  have c3b1 : (a0_0 != a1_0) = false := bne_eq_false_iff_eq.mpr c3
  clear c3
  by_cases c4 : a0_1 = a1_1
  ·rw [if_pos c4] at H
   have c4b0 : (a0_1 == a1_1) = true := beq_iff_eq.mpr c4
   have c4b1 : (a0_1 != a1_1) = false := bne_eq_false_iff_eq.mpr c4
   clear c4
   replace H := Option.bind_eq_some_iff.mp H
   obtain ⟨t342, A50, H⟩ := H
   replace H : (if t342 = true then (some true) else (some false)) = some r := H
   have A5 := Aside0.mk A50
   clear A50
   by_cases c6 : t342 = true
   ·subst c6
    have H1 : (some true) = some r := by rw [if_pos rfl] at H; exact H
    clear H
    have H := H1
    clear H1
    obtain rfl := Option.some.inj H
    go_enter Try.func20, Try.ntmps20
    go_wp2_with (first | ((with_reducible refine gate_dst (N := 2) rfl ?_); refine box_event ?hg (N := 2) ?hd (cs := #[.int .i64 a0_0, .int .i64 a0_1, .slice A0_2 l0_2.length c0_2]) (t := 28) ?hr ?_; (case hd => rfl); (case hg => rfl); (case hr => first | (go_simp; done) | (go_simp; rfl)); intro gb340 hg w7 hbox hb; have n0_ := Aside0.mk (below_step hb_ hb); have n1_ := Aside0.mk (hbox); have n2_ := Aside0.mk ((by rw [hg]; exact (below_size hb_) : w.heap.size ≤ gb340)); have n3_ := Aside0.mk ((by rw [hg]; exact (below_size hb_) : w.heap.size ≤ gb340)); clear HB; have HB := n0_; have BK340 := n1_; have GW340 := n2_; have GE340 := n3_; clear n0_ n1_ n2_ n3_; clear hb hbox hg) | ((with_reducible refine gate_dst (N := 3) rfl ?_); refine box_event ?hg (N := 3) ?hd (cs := #[.int .i64 a1_0, .int .i64 a1_1, .slice A1_2 l1_2.length c1_2]) (t := 28) ?hr ?_; (case hd => rfl); (case hg => rfl); (case hr => first | (go_simp; done) | (go_simp; rfl)); intro gb341 hg w8 hbox hb; have n0_ := Aside0.mk (blk_below (g := gb340) (o := .cells #[.int .i64 a0_0, .int .i64 a0_1, .slice A0_2 l0_2.length c0_2] 28 (0, 0)) (by (with_reducible repeat (first | refine blk_drewN ?_ _ | refine blk_drew ?_ | refine blk_alloc ?_ _)); exact BK340.out) hb); have n1_ := Aside0.mk (below_step (by repeat (first | (with_reducible first | exact HB.out | apply below_alloc | apply pw_below_drewN | apply below_drew1 | refine below_set ?_ GE340.out) | exact HB.out)) hb); have n2_ := Aside0.mk (hbox); have n3_ := Aside0.mk ((by rw [hg]; exact (below_size (by repeat (first | (with_reducible first | exact HB.out | apply below_alloc | apply pw_below_drewN | apply below_drew1 | refine below_set ?_ GE340.out) | exact HB.out))) : w.heap.size ≤ gb341)); have n4_ := Aside0.mk ((by rw [hg]; exact (below_size (by repeat (first | (with_reducible first | exact HB.out | apply below_alloc | apply pw_below_drewN | apply below_drew1 | refine below_set ?_ GE340.out) | exact HB.out))) : w.heap.size ≤ gb341)); have n5_ := Aside0.mk ((by rw [hg]; exact Nat.ne_of_lt (blk_lt (g := gb340) (o := .cells #[.int .i64 a0_0, .int .i64 a0_1, .slice A0_2 l0_2.length c0_2] 28 (0, 0)) (by (with_reducible repeat (first | refine blk_drewN ?_ _ | refine blk_drew ?_ | refine blk_alloc ?_ _)); exact BK340.out)) : gb340 ≠ gb341)); have n6_ := Aside0.mk ((by rw [hg]; exact Nat.ne_of_gt (blk_lt (g := gb340) (o := .cells #[.int .i64 a0_0, .int .i64 a0_1, .slice A0_2 l0_2.length c0_2] 28 (0, 0)) (by (with_reducible repeat (first | refine blk_drewN ?_ _ | refine blk_drew ?_ | refine blk_alloc ?_ _)); exact BK340.out)) : gb341 ≠ gb340)); clear BK340; clear HB; have BK340 := n0_; have HB := n1_; have BK341 := n2_; have GW341 := n3_; have GE341 := n4_; have NB340_341 := n5_; have NB341_340 := n6_; clear n0_ n1_ n2_ n3_ n4_ n5_ n6_; clear hb hbox hg; have hnb9 := NB340_341.out; have hnc9 := NB341_340.out; have hcz10_0 : w8.cell? ⟨gb340, 0, none⟩ = some (.int .i64 a0_0) := (blk_cell BK340.out 0).trans rfl; have hcz10_1 : w8.cell? ⟨gb340, 1, none⟩ = some (.int .i64 a0_1) := (blk_cell BK340.out 1).trans rfl; have hcz10_2 : w8.cell? ⟨gb340, 2, none⟩ = some (.slice A0_2 l0_2.length c0_2) := (blk_cell BK340.out 2).trans rfl; have hfz10_0 := blk_frozen BK340.out 0; have hfz10_1 := blk_frozen BK340.out 1; have hfz10_2 := blk_frozen BK340.out 2; have hcz11_0 : w8.cell? ⟨gb341, 0, none⟩ = some (.int .i64 a1_0) := (blk_cell BK341.out 0).trans rfl; have hcz11_1 : w8.cell? ⟨gb341, 1, none⟩ = some (.int .i64 a1_1) := (blk_cell BK341.out 1).trans rfl; have hcz11_2 : w8.cell? ⟨gb341, 2, none⟩ = some (.slice A1_2 l1_2.length c1_2) := (blk_cell BK341.out 2).trans rfl; have hfz11_0 := blk_frozen BK341.out 0; have hfz11_1 := blk_frozen BK341.out 1; have hfz11_2 := blk_frozen BK341.out 2) | ((with_reducible refine gate_callee (f := 19) rfl ?_); refine goesA_ (some 19) rfl rfl Try.func19 (by kernel_rfl) rfl #[.slice A0_2 l0_2.length c0_2, .slice A1_2 l1_2.length c1_2] rfl ?_; (with_reducible refine (laws_eqInt64S.calls k _ _ l0_2 _ _ l1_2 true _ ?side1 ?side2 ?side3 ?side4 A5.out).mono ?_); (case side1 => repeat (first | exact (Kd.C_below HR0_2.out HB.out) | (with_reducible refine Kd.C_alloc ?_ _) | (with_reducible refine Kd.C_drewN ?_ _) | (with_reducible refine Kd.C_drew ?_))); (case side2 => exact HC0_2.out); (case side3 => repeat (first | exact (Kd.C_below HR1_2.out HB.out) | (with_reducible refine Kd.C_alloc ?_ _) | (with_reducible refine Kd.C_drewN ?_ _) | (with_reducible refine Kd.C_drew ?_))); (case side4 => exact HC1_2.out); rintro e w' ⟨rfl, ⟨nd, rfl⟩⟩; refine ⟨_, rfl, ?_⟩))
    go_ret
    exact ⟨by first | rfl | (simp [errW_none, errW_some] <;> rfl) | (simp [*, errW_none, errW_some] <;> rfl), by repeat (first | (with_reducible first | exact HB.out | apply below_alloc | apply pw_below_drewN | apply below_drew1 | refine below_set ?_ GE340.out | refine below_set ?_ GE341.out) | exact HB.out)⟩
   ·replace c6 := Bool.eq_false_iff.mpr c6
    subst c6
    have H1 : (some false) = some r := by rw [if_neg (show ¬ (false = true) by decide)] at H; exact H
    clear H
    have H := H1
    clear H1
    obtain rfl := Option.some.inj H
    go_enter Try.func20, Try.ntmps20
    go_wp2_with (first | ((with_reducible refine gate_dst (N := 2) rfl ?_); refine box_event ?hg (N := 2) ?hd (cs := #[.int .i64 a0_0, .int .i64 a0_1, .slice A0_2 l0_2.length c0_2]) (t := 28) ?hr ?_; (case hd => rfl); (case hg => rfl); (case hr => first | (go_simp; done) | (go_simp; rfl)); intro gb340 hg w12 hbox hb; have n0_ := Aside0.mk (below_step hb_ hb); have n1_ := Aside0.mk (hbox); have n2_ := Aside0.mk ((by rw [hg]; exact (below_size hb_) : w.heap.size ≤ gb340)); have n3_ := Aside0.mk ((by rw [hg]; exact (below_size hb_) : w.heap.size ≤ gb340)); clear HB; have HB := n0_; have BK340 := n1_; have GW340 := n2_; have GE340 := n3_; clear n0_ n1_ n2_ n3_; clear hb hbox hg) | ((with_reducible refine gate_dst (N := 3) rfl ?_); refine box_event ?hg (N := 3) ?hd (cs := #[.int .i64 a1_0, .int .i64 a1_1, .slice A1_2 l1_2.length c1_2]) (t := 28) ?hr ?_; (case hd => rfl); (case hg => rfl); (case hr => first | (go_simp; done) | (go_simp; rfl)); intro gb341 hg w13 hbox hb; have n0_ := Aside0.mk (blk_below (g := gb340) (o := .cells #[.int .i64 a0_0, .int .i64 a0_1, .slice A0_2 l0_2.length c0_2] 28 (0, 0)) (by (with_reducible repeat (first | refine blk_drewN ?_ _ | refine blk_drew ?_ | refine blk_alloc ?_ _)); exact BK340.out) hb); have n1_ := Aside0.mk (below_step (by repeat (first | (with_reducible first | exact HB.out | apply below_alloc | apply pw_below_drewN | apply below_drew1 | refine below_set ?_ GE340.out) | exact HB.out)) hb); have n2_ := Aside0.mk (hbox); have n3_ := Aside0.mk ((by rw [hg]; exact (below_size (by repeat (first | (with_reducible first | exact HB.out | apply below_alloc | apply pw_below_drewN | apply below_drew1 | refine below_set ?_ GE340.out) | exact HB.out))) : w.heap.size ≤ gb341)); have n4_ := Aside0.mk ((by rw [hg]; exact (below_size (by repeat (first | (with_reducible first | exact HB.out | apply below_alloc | apply pw_below_drewN | apply below_drew1 | refine below_set ?_ GE340.out) | exact HB.out))) : w.heap.size ≤ gb341)); have n5_ := Aside0.mk ((by rw [hg]; exact Nat.ne_of_lt (blk_lt (g := gb340) (o := .cells #[.int .i64 a0_0, .int .i64 a0_1, .slice A0_2 l0_2.length c0_2] 28 (0, 0)) (by (with_reducible repeat (first | refine blk_drewN ?_ _ | refine blk_drew ?_ | refine blk_alloc ?_ _)); exact BK340.out)) : gb340 ≠ gb341)); have n6_ := Aside0.mk ((by rw [hg]; exact Nat.ne_of_gt (blk_lt (g := gb340) (o := .cells #[.int .i64 a0_0, .int .i64 a0_1, .slice A0_2 l0_2.length c0_2] 28 (0, 0)) (by (with_reducible repeat (first | refine blk_drewN ?_ _ | refine blk_drew ?_ | refine blk_alloc ?_ _)); exact BK340.out)) : gb341 ≠ gb340)); clear BK340; clear HB; have BK340 := n0_; have HB := n1_; have BK341 := n2_; have GW341 := n3_; have GE341 := n4_; have NB340_341 := n5_; have NB341_340 := n6_; clear n0_ n1_ n2_ n3_ n4_ n5_ n6_; clear hb hbox hg; have hnb14 := NB340_341.out; have hnc14 := NB341_340.out; have hcz15_0 : w13.cell? ⟨gb340, 0, none⟩ = some (.int .i64 a0_0) := (blk_cell BK340.out 0).trans rfl; have hcz15_1 : w13.cell? ⟨gb340, 1, none⟩ = some (.int .i64 a0_1) := (blk_cell BK340.out 1).trans rfl; have hcz15_2 : w13.cell? ⟨gb340, 2, none⟩ = some (.slice A0_2 l0_2.length c0_2) := (blk_cell BK340.out 2).trans rfl; have hfz15_0 := blk_frozen BK340.out 0; have hfz15_1 := blk_frozen BK340.out 1; have hfz15_2 := blk_frozen BK340.out 2; have hcz16_0 : w13.cell? ⟨gb341, 0, none⟩ = some (.int .i64 a1_0) := (blk_cell BK341.out 0).trans rfl; have hcz16_1 : w13.cell? ⟨gb341, 1, none⟩ = some (.int .i64 a1_1) := (blk_cell BK341.out 1).trans rfl; have hcz16_2 : w13.cell? ⟨gb341, 2, none⟩ = some (.slice A1_2 l1_2.length c1_2) := (blk_cell BK341.out 2).trans rfl; have hfz16_0 := blk_frozen BK341.out 0; have hfz16_1 := blk_frozen BK341.out 1; have hfz16_2 := blk_frozen BK341.out 2) | ((with_reducible refine gate_callee (f := 19) rfl ?_); refine goesA_ (some 19) rfl rfl Try.func19 (by kernel_rfl) rfl #[.slice A0_2 l0_2.length c0_2, .slice A1_2 l1_2.length c1_2] rfl ?_; (with_reducible refine (laws_eqInt64S.calls k _ _ l0_2 _ _ l1_2 false _ ?side1 ?side2 ?side3 ?side4 A5.out).mono ?_); (case side1 => repeat (first | exact (Kd.C_below HR0_2.out HB.out) | (with_reducible refine Kd.C_alloc ?_ _) | (with_reducible refine Kd.C_drewN ?_ _) | (with_reducible refine Kd.C_drew ?_))); (case side2 => exact HC0_2.out); (case side3 => repeat (first | exact (Kd.C_below HR1_2.out HB.out) | (with_reducible refine Kd.C_alloc ?_ _) | (with_reducible refine Kd.C_drewN ?_ _) | (with_reducible refine Kd.C_drew ?_))); (case side4 => exact HC1_2.out); rintro e w' ⟨rfl, ⟨nd, rfl⟩⟩; refine ⟨_, rfl, ?_⟩))
    go_ret
    exact ⟨by first | rfl | (simp [errW_none, errW_some] <;> rfl) | (simp [*, errW_none, errW_some] <;> rfl), by repeat (first | (with_reducible first | exact HB.out | apply below_alloc | apply pw_below_drewN | apply below_drew1 | refine below_set ?_ GE340.out | refine below_set ?_ GE341.out) | exact HB.out)⟩
  ·rw [if_neg c4] at H
   have c4b0 : (a0_1 == a1_1) = false := beq_eq_false_iff_ne.mpr c4
   have c4b1 : (a0_1 != a1_1) = true := bne_iff_ne.mpr c4
   obtain rfl := Option.some.inj H
   go_enter Try.func20, Try.ntmps20
   go_wp2_with (first | ((with_reducible refine gate_dst (N := 2) rfl ?_); refine box_event ?hg (N := 2) ?hd (cs := #[.int .i64 a0_0, .int .i64 a0_1, .slice A0_2 l0_2.length c0_2]) (t := 28) ?hr ?_; (case hd => rfl); (case hg => rfl); (case hr => first | (go_simp; done) | (go_simp; rfl)); intro gb340 hg w17 hbox hb; have n0_ := Aside0.mk (below_step hb_ hb); have n1_ := Aside0.mk (hbox); have n2_ := Aside0.mk ((by rw [hg]; exact (below_size hb_) : w.heap.size ≤ gb340)); have n3_ := Aside0.mk ((by rw [hg]; exact (below_size hb_) : w.heap.size ≤ gb340)); clear HB; have HB := n0_; have BK340 := n1_; have GW340 := n2_; have GE340 := n3_; clear n0_ n1_ n2_ n3_; clear hb hbox hg) | ((with_reducible refine gate_dst (N := 3) rfl ?_); refine box_event ?hg (N := 3) ?hd (cs := #[.int .i64 a1_0, .int .i64 a1_1, .slice A1_2 l1_2.length c1_2]) (t := 28) ?hr ?_; (case hd => rfl); (case hg => rfl); (case hr => first | (go_simp; done) | (go_simp; rfl)); intro gb341 hg w18 hbox hb; have n0_ := Aside0.mk (blk_below (g := gb340) (o := .cells #[.int .i64 a0_0, .int .i64 a0_1, .slice A0_2 l0_2.length c0_2] 28 (0, 0)) (by (with_reducible repeat (first | refine blk_drewN ?_ _ | refine blk_drew ?_ | refine blk_alloc ?_ _)); exact BK340.out) hb); have n1_ := Aside0.mk (below_step (by repeat (first | (with_reducible first | exact HB.out | apply below_alloc | apply pw_below_drewN | apply below_drew1 | refine below_set ?_ GE340.out) | exact HB.out)) hb); have n2_ := Aside0.mk (hbox); have n3_ := Aside0.mk ((by rw [hg]; exact (below_size (by repeat (first | (with_reducible first | exact HB.out | apply below_alloc | apply pw_below_drewN | apply below_drew1 | refine below_set ?_ GE340.out) | exact HB.out))) : w.heap.size ≤ gb341)); have n4_ := Aside0.mk ((by rw [hg]; exact (below_size (by repeat (first | (with_reducible first | exact HB.out | apply below_alloc | apply pw_below_drewN | apply below_drew1 | refine below_set ?_ GE340.out) | exact HB.out))) : w.heap.size ≤ gb341)); have n5_ := Aside0.mk ((by rw [hg]; exact Nat.ne_of_lt (blk_lt (g := gb340) (o := .cells #[.int .i64 a0_0, .int .i64 a0_1, .slice A0_2 l0_2.length c0_2] 28 (0, 0)) (by (with_reducible repeat (first | refine blk_drewN ?_ _ | refine blk_drew ?_ | refine blk_alloc ?_ _)); exact BK340.out)) : gb340 ≠ gb341)); have n6_ := Aside0.mk ((by rw [hg]; exact Nat.ne_of_gt (blk_lt (g := gb340) (o := .cells #[.int .i64 a0_0, .int .i64 a0_1, .slice A0_2 l0_2.length c0_2] 28 (0, 0)) (by (with_reducible repeat (first | refine blk_drewN ?_ _ | refine blk_drew ?_ | refine blk_alloc ?_ _)); exact BK340.out)) : gb341 ≠ gb340)); clear BK340; clear HB; have BK340 := n0_; have HB := n1_; have BK341 := n2_; have GW341 := n3_; have GE341 := n4_; have NB340_341 := n5_; have NB341_340 := n6_; clear n0_ n1_ n2_ n3_ n4_ n5_ n6_; clear hb hbox hg; have hnb19 := NB340_341.out; have hnc19 := NB341_340.out; have hcz20_0 : w18.cell? ⟨gb340, 0, none⟩ = some (.int .i64 a0_0) := (blk_cell BK340.out 0).trans rfl; have hcz20_1 : w18.cell? ⟨gb340, 1, none⟩ = some (.int .i64 a0_1) := (blk_cell BK340.out 1).trans rfl; have hcz20_2 : w18.cell? ⟨gb340, 2, none⟩ = some (.slice A0_2 l0_2.length c0_2) := (blk_cell BK340.out 2).trans rfl; have hfz20_0 := blk_frozen BK340.out 0; have hfz20_1 := blk_frozen BK340.out 1; have hfz20_2 := blk_frozen BK340.out 2; have hcz21_0 : w18.cell? ⟨gb341, 0, none⟩ = some (.int .i64 a1_0) := (blk_cell BK341.out 0).trans rfl; have hcz21_1 : w18.cell? ⟨gb341, 1, none⟩ = some (.int .i64 a1_1) := (blk_cell BK341.out 1).trans rfl; have hcz21_2 : w18.cell? ⟨gb341, 2, none⟩ = some (.slice A1_2 l1_2.length c1_2) := (blk_cell BK341.out 2).trans rfl; have hfz21_0 := blk_frozen BK341.out 0; have hfz21_1 := blk_frozen BK341.out 1; have hfz21_2 := blk_frozen BK341.out 2))
   go_ret
   exact ⟨by first | rfl | (simp [errW_none, errW_some] <;> rfl) | (simp [*, errW_none, errW_some] <;> rfl), by repeat (first | (with_reducible first | exact HB.out | apply below_alloc | apply pw_below_drewN | apply below_drew1 | refine below_set ?_ GE340.out | refine below_set ?_ GE341.out) | exact HB.out)⟩
 ·rw [if_neg c3] at H
  have c3b0 : (a0_0 == a1_0) = false := beq_eq_false_iff_ne.mpr c3
  have c3b1 : (a0_0 != a1_0) = true := bne_iff_ne.mpr c3
  obtain rfl := Option.some.inj H
  go_enter Try.func20, Try.ntmps20
  go_wp2_with (first | ((with_reducible refine gate_dst (N := 2) rfl ?_); refine box_event ?hg (N := 2) ?hd (cs := #[.int .i64 a0_0, .int .i64 a0_1, .slice A0_2 l0_2.length c0_2]) (t := 28) ?hr ?_; (case hd => rfl); (case hg => rfl); (case hr => first | (go_simp; done) | (go_simp; rfl)); intro gb340 hg w22 hbox hb; have n0_ := Aside0.mk (below_step hb_ hb); have n1_ := Aside0.mk (hbox); have n2_ := Aside0.mk ((by rw [hg]; exact (below_size hb_) : w.heap.size ≤ gb340)); have n3_ := Aside0.mk ((by rw [hg]; exact (below_size hb_) : w.heap.size ≤ gb340)); clear HB; have HB := n0_; have BK340 := n1_; have GW340 := n2_; have GE340 := n3_; clear n0_ n1_ n2_ n3_; clear hb hbox hg) | ((with_reducible refine gate_dst (N := 3) rfl ?_); refine box_event ?hg (N := 3) ?hd (cs := #[.int .i64 a1_0, .int .i64 a1_1, .slice A1_2 l1_2.length c1_2]) (t := 28) ?hr ?_; (case hd => rfl); (case hg => rfl); (case hr => first | (go_simp; done) | (go_simp; rfl)); intro gb341 hg w23 hbox hb; have n0_ := Aside0.mk (blk_below (g := gb340) (o := .cells #[.int .i64 a0_0, .int .i64 a0_1, .slice A0_2 l0_2.length c0_2] 28 (0, 0)) (by (with_reducible repeat (first | refine blk_drewN ?_ _ | refine blk_drew ?_ | refine blk_alloc ?_ _)); exact BK340.out) hb); have n1_ := Aside0.mk (below_step (by repeat (first | (with_reducible first | exact HB.out | apply below_alloc | apply pw_below_drewN | apply below_drew1 | refine below_set ?_ GE340.out) | exact HB.out)) hb); have n2_ := Aside0.mk (hbox); have n3_ := Aside0.mk ((by rw [hg]; exact (below_size (by repeat (first | (with_reducible first | exact HB.out | apply below_alloc | apply pw_below_drewN | apply below_drew1 | refine below_set ?_ GE340.out) | exact HB.out))) : w.heap.size ≤ gb341)); have n4_ := Aside0.mk ((by rw [hg]; exact (below_size (by repeat (first | (with_reducible first | exact HB.out | apply below_alloc | apply pw_below_drewN | apply below_drew1 | refine below_set ?_ GE340.out) | exact HB.out))) : w.heap.size ≤ gb341)); have n5_ := Aside0.mk ((by rw [hg]; exact Nat.ne_of_lt (blk_lt (g := gb340) (o := .cells #[.int .i64 a0_0, .int .i64 a0_1, .slice A0_2 l0_2.length c0_2] 28 (0, 0)) (by (with_reducible repeat (first | refine blk_drewN ?_ _ | refine blk_drew ?_ | refine blk_alloc ?_ _)); exact BK340.out)) : gb340 ≠ gb341)); have n6_ := Aside0.mk ((by rw [hg]; exact Nat.ne_of_gt (blk_lt (g := gb340) (o := .cells #[.int .i64 a0_0, .int .i64 a0_1, .slice A0_2 l0_2.length c0_2] 28 (0, 0)) (by (with_reducible repeat (first | refine blk_drewN ?_ _ | refine blk_drew ?_ | refine blk_alloc ?_ _)); exact BK340.out)) : gb341 ≠ gb340)); clear BK340; clear HB; have BK340 := n0_; have HB := n1_; have BK341 := n2_; have GW341 := n3_; have GE341 := n4_; have NB340_341 := n5_; have NB341_340 := n6_; clear n0_ n1_ n2_ n3_ n4_ n5_ n6_; clear hb hbox hg; have hnb24 := NB340_341.out; have hnc24 := NB341_340.out; have hcz25_0 : w23.cell? ⟨gb340, 0, none⟩ = some (.int .i64 a0_0) := (blk_cell BK340.out 0).trans rfl; have hcz25_1 : w23.cell? ⟨gb340, 1, none⟩ = some (.int .i64 a0_1) := (blk_cell BK340.out 1).trans rfl; have hcz25_2 : w23.cell? ⟨gb340, 2, none⟩ = some (.slice A0_2 l0_2.length c0_2) := (blk_cell BK340.out 2).trans rfl; have hfz25_0 := blk_frozen BK340.out 0; have hfz25_1 := blk_frozen BK340.out 1; have hfz25_2 := blk_frozen BK340.out 2; have hcz26_0 : w23.cell? ⟨gb341, 0, none⟩ = some (.int .i64 a1_0) := (blk_cell BK341.out 0).trans rfl; have hcz26_1 : w23.cell? ⟨gb341, 1, none⟩ = some (.int .i64 a1_1) := (blk_cell BK341.out 1).trans rfl; have hcz26_2 : w23.cell? ⟨gb341, 2, none⟩ = some (.slice A1_2 l1_2.length c1_2) := (blk_cell BK341.out 2).trans rfl; have hfz26_0 := blk_frozen BK341.out 0; have hfz26_1 := blk_frozen BK341.out 1; have hfz26_2 := blk_frozen BK341.out 2))
  go_ret
  exact ⟨by first | rfl | (simp [errW_none, errW_some] <;> rfl) | (simp [*, errW_none, errW_some] <;> rfl), by repeat (first | (with_reducible first | exact HB.out | apply below_alloc | apply pw_below_drewN | apply below_drew1 | refine below_set ?_ GE340.out | refine below_set ?_ GE341.out) | exact HB.out)⟩
/-! ### laws_markInt64S: function 22 -/
def laws_markInt64S.l0 : Nat → List Int → Int → Int → Option (Int × List Int)
 | 0, _, _, _ => none
 | k + 1, x0, x1, x5 => if x5 < (x0.length : Int) then (if 0 ≤ x5 then (laws_markInt64S.l0 k (x0.set (x5 : Int).toNat x1) (wrap64 (x1 + 1)) (wrap64 (x5 + 1))) else (none)) else (some (x1, x0))
def laws_markInt64S.f (k : Nat) (l0 : List Int) (a1 : Int) : Option (Int × List Int) := laws_markInt64S.l0 k l0 a1 0
set_option maxHeartbeats 8000000 in
set_option maxRecDepth 100000 in
theorem laws_markInt64S.calls (k : Nat) (P0_ : Nat → Prop) (u9000_ : Value) (l0 : List Int) (a1 : Int) (r1 : Int) (r2 : List Int) (w0 w : World) (hB : Below w0.heap.size w0 w) (ho0 : Kd.R (Kd.int .i64) 2 w w0.heap.size P0_ u9000_ l0) (h : laws_markInt64S.f k l0 a1 = some (r1, r2)) :
  Calls Try.prog 22 #[u9000_, .int .i64 a1] w fun e w' => e = .returned (.int .i64 r1) ∧ Kd.R (Kd.int .i64) 2 w' w0.heap.size (fun k_ => (P0_ k_ ∨ w.heap.size ≤ k_)) u9000_ r2 ∧ Below w0.heap.size w0 w' ∧ Kept w w' (fun k_ => P0_ k_) := by
 have HO0 := Aside0.mk (show Kd.R (Kd.int .i64) 2 w w0.heap.size (fun k_ => (P0_ k_ ∨ w.heap.size ≤ k_)) u9000_ l0 from Kd.R_mono ho0 (fun k_ hk => (.inl hk)))
 have HK := Aside0.mk (Kept.refl w (fun k_ => P0_ k_))
 have HW0 := Aside0.mk hB.size
 have HB := Aside0.mk hB
 clear hB
 have H : (laws_markInt64S.l0 k l0 a1 0) = some (r1, r2) := h
 clear h
 have H' := Aside0.mk H
 clear H
 go_enter Try.func22, Try.ntmps22
 go_wp2
 go_loopg [1, 5] k (fun kq v1 v5 w' => ∃ (x0_1 : List Int) (x1_1 : Int) (x5_1 : Int), v1 = .int .i64 x1_1 ∧ v5 = .int .i64 x5_1 ∧ Aside0 (laws_markInt64S.l0 kq x0_1 x1_1 x5_1 = some (r1, r2)) ∧ Aside0 (kq ≤ k) ∧ Aside0 (Kd.R (Kd.int .i64) 2 w' w0.heap.size (fun k_ => (P0_ k_ ∨ w.heap.size ≤ k_)) u9000_ x0_1) ∧ Aside0 (Kept w w' (fun k_ => P0_ k_)) ∧ Aside0 (Below w0.heap.size w0 w'))
 case atStart => exact ⟨(l0), (a1), (0), (by first | rfl | (simp; done) | (simp [*]; done)), (by first | rfl | (simp; done) | (simp [*]; done)), H', ⟨Nat.le_refl _⟩, ⟨by (with_reducible repeat (first | apply Kd.R_alloc | apply Kd.R_drewN | apply Kd.R_drew)); exact HO0.out⟩, ⟨by repeat (first | (with_reducible first | exact HK.out | apply Kept.alloc | apply Kept.drewN | apply Kept.drew) | exact HK.out)⟩, ⟨by repeat (first | (with_reducible first | exact HB.out | apply below_alloc | apply pw_below_drewN | apply below_drew1) | exact HB.out)⟩⟩
 case round =>
  clear H'
  (try clear c2); (try clear p2)
  obtain ⟨x0_1, x1_1, x5_1, rfl, rfl, HA, HK1, HO_0, HK, HB⟩ := hrel
  cases gk with
  | zero => exact absurd HA.out (by simp [laws_markInt64S.l0])
  | succ k1 =>
   have H := HA.out
   clear HA
   simp only [laws_markInt64S.l0] at H
   by_cases c3 : x5_1 < (x0_1.length : Int)
   ·rw [if_pos c3] at H
    have c3b0 : decide (x5_1 < (x0_1.length : Int)) = true := decide_eq_true c3
    clear c3
    by_cases c4 : 0 ≤ x5_1
    ·rw [if_pos c4] at H
     have c4b0 : decide (0 ≤ x5_1) = true := decide_eq_true c4
     clear c4
     obtain ⟨y343, hy343⟩ : ∃ y_ : List Int, y_ = (x0_1.set (x5_1 : Int).toNat x1_1) := ⟨_, rfl⟩
     replace H : (laws_markInt64S.l0 k1 y343 (wrap64 (x1_1 + 1)) (wrap64 (x5_1 + 1))) = some (r1, r2) := by first | (rw [hy343]; with_reducible exact H) | (have H2_ := (Option.bind_some _ _).symm.trans H; rw [hy343]; with_reducible exact H2_) | (have H2_ := (Option.bind_some _ _).symm.trans H; with_reducible exact H2_) | with_reducible exact H | (rw [hy343]; exact H) | exact H
     have Ny343 := Aside0.mk hy343
     clear hy343
     have H' := Aside0.mk H
     clear H
     obtain ⟨Ao6, co6, eo6⟩ := Kd.R_slice HO_0.out
     subst eo6
     have p5 : 0 ≤ (x5_1 : Int) := oda
     have q5 : (x5_1 : Int) < ((x0_1.length : Int) : Int) := oda
     obtain ⟨go5, co5, eo5, gb5, gl5, cl5, HG5⟩ := Kd.R_form HO_0.out (by omega)
     (first | cases eo5 | (injection eo5 with ea_ en_ ec_; (first | subst ea_ | (injection ea_ with ea_; subst ea_)); subst ec_; clear en_))
     have GB5 := Aside0.mk gb5
     have GG5 := Aside0.mk HG5
     clear gb5 gl5 HG5
     have HMgo5 := Aside0.mk (show (P0_ go5 ∨ w.heap.size ≤ go5) from (HO_0.out.1 _ rfl))
     obtain ⟨hx5_0, hf5_0⟩ := Kd.R_celln 0 HO_0.out (x5_1 : Int) p5 q5
     replace p5 := eq_true p5
     replace q5 := eq_true q5
     have HP7 := Kd.R_putg HO_0.out (x5_1 : Int) x1_1
     go_wp2_with (first | ((with_reducible refine gate_store (t := 2) (p := 15) rfl ?_); refine store_event (t := 2) (p := 15) (v := ?vo_w8) (w1 := (wr.setCell ⟨go5, (x5_1 : Int).toNat, none⟩ (.int .i64 x1_1))) ?hg ?ho ?hn ?hr ?_; (case ho => rfl); (case hg => rfl); (case hn => rfl); (case hr => first | (go_simp; done) | (go_simp; rfl)); intro w8 hw; have hg : wr.grownBy w8 (some go5) := (by rw [hw]; exact HP7.2); have hp_ : Kd.R (Kd.int .i64) 2 w8 w0.heap.size (fun k_ => (P0_ k_ ∨ w.heap.size ≤ k_)) (.slice (some ⟨go5, 0, none⟩) x0_1.length co6) y343 := (by rw [hw, Ny343.out]; exact HP7.1); clear HP7; have n0_ := Aside0.mk (hp_); have n1_ := Aside0.mk ((by rw [hw]; exact below_set (HB.out) GB5.out : Below w0.heap.size w0 w8)); have n2_ := Aside0.mk (Kept.of_grown (S := (fun k_ => P0_ k_)) hg (by repeat (first | (with_reducible first | exact HK.out | apply Kept.alloc | apply Kept.drewN | apply Kept.drew) | exact HK.out)) (fun k_ e_ => (HO_0.out.1 k_ e_))); clear HO_0; clear HB; clear HK; have HO_0 := n0_; have HB := n1_; have HK := n2_; clear n0_ n1_ n2_; clear hg hw hp_))
     go_roundg k1
     case measure => have := HK1.out; omega
     case rel => exact ⟨(y343), (wrap64 (x1_1 + 1)), (wrap64 (x5_1 + 1)), (by first | rfl | (simp; done) | (simp [*]; done)), (by first | rfl | (simp; done) | (simp [*]; done)), H', ⟨by have := HK1.out; omega⟩, ⟨by (with_reducible repeat (first | apply Kd.R_alloc | apply Kd.R_drewN | apply Kd.R_drew)); exact HO_0.out⟩, ⟨by repeat (first | (with_reducible first | exact HK.out | apply Kept.alloc | apply Kept.drewN | apply Kept.drew) | exact HK.out)⟩, ⟨by repeat (first | (with_reducible first | exact HB.out | apply below_alloc | apply pw_below_drewN | apply below_drew1) | exact HB.out)⟩⟩
    ·rw [if_neg c4] at H
     exact absurd H (by simp)
   ·rw [if_neg c3] at H
    have c3b0 : decide (x5_1 < (x0_1.length : Int)) = false := decide_eq_false c3
    clear c3
    simp only [Option.some.injEq, Prod.mk.injEq] at H
    obtain ⟨rfl, rfl⟩ := H
    obtain ⟨Ao9, co9, eo9⟩ := Kd.R_slice HO_0.out
    subst eo9
    go_wp2
    go_ret
    exact ⟨by first | rfl | (simp [errW_none, errW_some] <;> rfl) | (simp [*, errW_none, errW_some] <;> rfl), by (with_reducible repeat (first | apply Kd.R_alloc | apply Kd.R_drewN | apply Kd.R_drew)); exact HO_0.out, by repeat (first | (with_reducible first | exact HB.out | apply below_alloc | apply pw_below_drewN | apply below_drew1) | exact HB.out), by repeat (first | (with_reducible first | exact HK.out | apply Kept.alloc | apply Kept.drewN | apply Kept.drew) | exact HK.out)⟩
/-! ### laws_markSea: function 21 -/
def laws_markSea.f (k : Nat) (a0_0 : Int) (a0_1 : Int) (l0_2 : List Int) (a1 : Int) : Option (Int × List Int) := (laws_markInt64S.f k l0_2 a1).bind fun bt345 => (some (bt345.1, bt345.2))
set_option maxHeartbeats 8000000 in
set_option maxRecDepth 100000 in
theorem laws_markSea.calls (k : Nat) (a0_0 : Int) (a0_1 : Int) (P0_2_ : Nat → Prop) (u9000_ : Value) (l0_2 : List Int) (a1 : Int) (r1 : Int) (r2 : List Int) (w0 w : World) (hB : Below w0.heap.size w0 w) (ho0_2 : Kd.R (Kd.int .i64) 2 w w0.heap.size P0_2_ u9000_ l0_2) (h : laws_markSea.f k a0_0 a0_1 l0_2 a1 = some (r1, r2)) :
  Calls Try.prog 21 #[.agg #[.int .i64 a0_0, .int .i64 a0_1, u9000_], .int .i64 a1] w fun e w' => e = .returned (.int .i64 r1) ∧ Kd.R (Kd.int .i64) 2 w' w0.heap.size (fun k_ => (P0_2_ k_ ∨ w.heap.size ≤ k_)) u9000_ r2 ∧ Below w0.heap.size w0 w' ∧ Kept w w' (fun k_ => P0_2_ k_) := by
 have hu28 := Try.underlying28
 have HO0_2 := Aside0.mk (show Kd.R (Kd.int .i64) 2 w w0.heap.size (fun k_ => (P0_2_ k_ ∨ w.heap.size ≤ k_)) u9000_ l0_2 from Kd.R_mono ho0_2 (fun k_ hk => (.inl hk)))
 have HK := Aside0.mk (Kept.refl w (fun k_ => P0_2_ k_))
 have HW0 := Aside0.mk hB.size
 have HB := Aside0.mk hB
 clear hB
 have H : ((laws_markInt64S.f k l0_2 a1).bind fun bt345 => (some (bt345.1, bt345.2))) = some (r1, r2) := h
 clear h
 replace H := Option.bind_eq_some_iff.mp H
 obtain ⟨⟨t345, t346⟩, A30, H⟩ := H
 replace H : (some (t345, t346)) = some (r1, r2) := H
 have A3 := Aside0.mk A30
 clear A30
 simp only [Option.some.injEq, Prod.mk.injEq] at H
 obtain ⟨rfl, rfl⟩ := H
 obtain ⟨Ao4, co4, eo4⟩ := Kd.R_slice HO0_2.out
 subst eo4
 go_enter Try.func21, Try.ntmps21
 go_wp2_with (first | ((with_reducible refine gate_dst (N := 2) rfl ?_); refine box_event ?hg (N := 2) ?hd (cs := #[.int .i64 a0_0, .int .i64 a0_1, .slice Ao4 l0_2.length co4]) (t := 28) ?hr ?_; (case hd => rfl); (case hg => rfl); (case hr => first | (go_simp; done) | (go_simp; rfl)); intro gb344 hg w5 hbox hb; have n0_ := Aside0.mk (Kd.R_below (by (with_reducible repeat (first | apply Kd.R_alloc | apply Kd.R_drewN | apply Kd.R_drew)); exact HO0_2.out) hb); have n1_ := Aside0.mk (Kept.below (S := (fun k_ => P0_2_ k_)) (by repeat (first | (with_reducible first | exact HK.out | apply Kept.alloc | apply Kept.drewN | apply Kept.drew) | exact HK.out)) hb); have n2_ := Aside0.mk (below_step hb_ hb); have n3_ := Aside0.mk (hbox); have n4_ := Aside0.mk ((by rw [hg]; exact (by first | exact HK.out.1 | exact (show Kept w _ (fun k_ => P0_2_ k_) from by repeat (first | (with_reducible first | exact HK.out | apply Kept.alloc | apply Kept.drewN | apply Kept.drew) | exact HK.out)).1) : w.heap.size ≤ gb344)); have n5_ := Aside0.mk ((by rw [hg]; exact (below_size hb_) : w0.heap.size ≤ gb344)); clear HO0_2; clear HK; clear HB; have HO0_2 := n0_; have HK := n1_; have HB := n2_; have BK344 := n3_; have GW344 := n4_; have GE344 := n5_; clear n0_ n1_ n2_ n3_ n4_ n5_; clear hb hbox hg; have hcz6_0 : w5.cell? ⟨gb344, 0, none⟩ = some (.int .i64 a0_0) := (blk_cell BK344.out 0).trans rfl; have hcz6_1 : w5.cell? ⟨gb344, 1, none⟩ = some (.int .i64 a0_1) := (blk_cell BK344.out 1).trans rfl; have hcz6_2 : w5.cell? ⟨gb344, 2, none⟩ = some (.slice Ao4 l0_2.length co4) := (blk_cell BK344.out 2).trans rfl; have hfz6_0 := blk_frozen BK344.out 0; have hfz6_1 := blk_frozen BK344.out 1; have hfz6_2 := blk_frozen BK344.out 2) | ((with_reducible refine gate_callee (f := 22) rfl ?_); refine goesA_ (some 8) rfl rfl Try.func22 (by kernel_rfl) rfl #[.slice Ao4 l0_2.length co4, .int .i64 a1] rfl ?_; (with_reducible refine (laws_markInt64S.calls k (fun k_ => some k_ = (.slice Ao4 l0_2.length co4 : Value).ownBlock) (.slice Ao4 l0_2.length co4) l0_2 a1 t345 t346 w0 _ ?side1 ?side2 A3.out).mono ?_); (case side1 => repeat (first | (with_reducible first | exact HB.out | apply below_alloc | apply pw_below_drewN | apply below_drew1 | refine below_set ?_ GE344.out) | exact HB.out)); (case side2 => exact Kd.R_tight rfl HO0_2.out); rintro e w7 ⟨rfl, hy0, hb, hkp⟩; refine ⟨_, rfl, ?_⟩; have n0_ := Aside0.mk (Kd.R_reok rfl hy0 (fun k_ e_ => HO0_2.out.1 k_ e_)); have n1_ := Aside0.mk (blk_kept (by (with_reducible repeat (first | refine blk_drewN ?_ _ | refine blk_drew ?_ | refine blk_alloc ?_ _)); exact BK344.out) hkp (fun hs_ => (fun e_ => (Kd.R_ne HO0_2.out BK344.out (by decide)) e_) hs_)); have n2_ := Aside0.mk (Kept.then_ (S := (fun k_ => P0_2_ k_)) (by repeat (first | (with_reducible first | exact HK.out | apply Kept.alloc | apply Kept.drewN | apply Kept.drew | refine Kept.setCell ?_ (.inr GW344.out) _) | exact HK.out)) hkp (fun k_ hs_ => (fun e_ => (HO0_2.out.1 k_ e_.symm)) hs_)); have n3_ := Aside0.mk (hb); clear HO0_2; clear BK344; clear HK; clear HB; have HO0_2 := n0_; have BK344 := n1_; have HK := n2_; have HB := n3_; clear n0_ n1_ n2_ n3_; (try clear hb); (try clear hkp); (try clear hy0)))
 go_ret
 exact ⟨by first | rfl | (simp [errW_none, errW_some] <;> rfl) | (simp [*, errW_none, errW_some] <;> rfl), by (with_reducible repeat (first | apply Kd.R_alloc | apply Kd.R_drewN | apply Kd.R_drew)); exact HO0_2.out, by repeat (first | (with_reducible first | exact HB.out | apply below_alloc | apply pw_below_drewN | apply below_drew1 | refine below_set ?_ GE344.out) | exact HB.out), by repeat (first | (with_reducible first | exact HK.out | apply Kept.alloc | apply Kept.drewN | apply Kept.drew | refine Kept.setCell ?_ (.inr GW344.out) _) | exact HK.out)⟩
/-! ### impl_within: function 60 -/
def impl_within.f (a0 : Int) (a1 : Int) (a2 : Int) : Option (Bool) := if a1 ≤ a0 then (some (decide (a0 ≤ a2))) else (some false)
set_option maxHeartbeats 8000000 in
set_option maxRecDepth 100000 in
theorem impl_within.calls (a0 : Int) (a1 : Int) (a2 : Int) (r : Bool) (w : World) (h : impl_within.f a0 a1 a2 = some r) :
  Calls Try.prog 60 #[.int .i64 a0, .int .i64 a1, .int .i64 a2] w fun e w' => e = .returned (.bool r) ∧ Drawn0 w w' := by
 have H : (if a1 ≤ a0 then (some (decide (a0 ≤ a2))) else (some false)) = some r := h
 clear h
 by_cases c4 : a1 ≤ a0
 ·rw [if_pos c4] at H
  have c4b0 : decide (a1 ≤ a0) = true := decide_eq_true c4
  clear c4
  obtain rfl := Option.some.inj H
  go_enter Try.func60, Try.ntmps60
  go_wp2
  go_ret
  exact ⟨by first | rfl | (simp; done) | (simp [*]; done), by repeat (first | exact Drawn0.refl _ | apply Drawn0.step)⟩
 ·rw [if_neg c4] at H
  have c4b0 : decide (a1 ≤ a0) = false := decide_eq_false c4
  clear c4
  obtain rfl := Option.some.inj H
  go_enter Try.func60, Try.ntmps60
  go_wp2
  go_ret
  exact ⟨by first | rfl | (simp; done) | (simp [*]; done), by repeat (first | exact Drawn0.refl _ | apply Drawn0.step)⟩
/-! ### impl_size_int64: function 99 -/
def impl_size_int64.f (l0 : List Int) : Option (Int) := some (l0.length : Int)
set_option maxHeartbeats 8000000 in
set_option maxRecDepth 100000 in
theorem impl_size_int64.calls (A0 : Option Addr) (c0 : Nat) (l0 : List Int) (r : Int) (w : World) (hr0 : Kd.C (Kd.int .i64) w A0 l0.length l0) (hc0 : l0.length ≤ c0) (h : impl_size_int64.f l0 = some r) :
  Calls Try.prog 99 #[.slice A0 l0.length c0] w fun e w' => e = .returned (.int .i64 r) ∧ Drawn0 w w' := by
 have HR0 := Aside0.mk hr0
 have HC0 := Aside0.mk hc0
 clear hr0 hc0
 have H : (some (l0.length : Int)) = some r := h
 clear h
 obtain rfl := Option.some.inj H
 go_enter Try.func99, Try.ntmps99
 go_wp2
 go_ret
 exact ⟨by first | rfl | (simp; done) | (simp [*]; done), by repeat (first | exact Drawn0.refl _ | apply Drawn0.step)⟩
/-! ### impl_IsSea: function 59 -/
mutual
def impl_IsSea.j0 : Nat → Bool → Int → Int → List Int → Option (Bool)
 | 0, _, _, _, _ => none
 | k + 1, x21, x186000, x186001, x186002 => if x21 = true then (some false) else (impl_IsSea.l0 k x186002 (x186002.length : Int) 0 x186000 x186001 x186002)
def impl_IsSea.l0 : Nat → List Int → Int → Int → Int → Int → List Int → Option (Bool)
 | 0, _, _, _, _, _, _ => none
 | k + 1, x23, x24, x25, x186000, x186001, x186002 => if x25 < x24 then (if 0 ≤ x25 then (if x25 < (x23.length : Int) then ((impl_within.f (rd x23 x25) 1 5).bind fun t191 => (if t191 = true then (if x25 > 0 then (if 0 ≤ (wrap64 (x25 - 1)) then (if (wrap64 (x25 - 1)) < (x186002.length : Int) then (if (rd x23 x25) > (rd x186002 (wrap64 (x25 - 1))) then (some false) else (impl_IsSea.l0 k x23 x24 (wrap64 (x25 + 1)) x186000 x186001 x186002)) else (none)) else (none)) else (impl_IsSea.l0 k x23 x24 (wrap64 (x25 + 1)) x186000 x186001 x186002)) else (some false))) else (none)) else (none)) else (some true)
end
def impl_IsSea.f (k : Nat) (a0_0 : Int) (a0_1 : Int) (l0_2 : List Int) : Option (Bool) := (impl_within.f a0_0 1 5).bind fun t186 => (if t186 = true then ((impl_within.f a0_1 1 5).bind fun t187 => (if t187 = true then ((impl_size_int64.f l0_2).bind fun t188 => ((impl_within.f t188 1 3).bind fun t189 => (impl_IsSea.j0 k (!t189) a0_0 a0_1 l0_2))) else (impl_IsSea.j0 k true a0_0 a0_1 l0_2))) else (impl_IsSea.j0 k true a0_0 a0_1 l0_2))
set_option maxHeartbeats 8000000 in
set_option maxRecDepth 100000 in
theorem impl_IsSea.calls (k : Nat) (a0_0 : Int) (a0_1 : Int) (A0_2 : Option Addr) (c0_2 : Nat) (l0_2 : List Int) (r : Bool) (w : World) (hr0_2 : Kd.C (Kd.int .i64) w A0_2 l0_2.length l0_2) (hc0_2 : l0_2.length ≤ c0_2) (h : impl_IsSea.f k a0_0 a0_1 l0_2 = some r) :
  Calls Try.prog 59 #[.agg #[.int .i64 a0_0, .int .i64 a0_1, .slice A0_2 l0_2.length c0_2]] w fun e w' => e = .returned (.bool r) ∧ Below w.heap.size w w' := by
 have hu28 := Try.underlying28
 have HR0_2 := Aside0.mk hr0_2
 have HC0_2 := Aside0.mk hc0_2
 clear hr0_2 hc0_2
 have HB := Aside0.mk (Below.refl w.heap.size w)
 have H : ((impl_within.f a0_0 1 5).bind fun t186 => (if t186 = true then ((impl_within.f a0_1 1 5).bind fun t187 => (if t187 = true then ((impl_size_int64.f l0_2).bind fun t188 => ((impl_within.f t188 1 3).bind fun t189 => (impl_IsSea.j0 k (!t189) a0_0 a0_1 l0_2))) else (impl_IsSea.j0 k true a0_0 a0_1 l0_2))) else (impl_IsSea.j0 k true a0_0 a0_1 l0_2))) = some r := h
 clear h
 have HC2 := Aside0.mk H
 clear H
 go_enter Try.func59, Try.ntmps59
 go_upto_region 1 with (first | ((with_reducible refine gate_dst (N := 1) rfl ?_); refine box_event ?hg (N := 1) ?hd (cs := #[.int .i64 a0_0, .int .i64 a0_1, .slice A0_2 l0_2.length c0_2]) (t := 28) ?hr ?_; (case hd => rfl); (case hg => rfl); (case hr => first | (go_simp; done) | (go_simp; rfl)); intro gb185 hg w3 hbox hb; have n0_ := Aside0.mk (below_step hb_ hb); have n1_ := Aside0.mk (hbox); have n2_ := Aside0.mk ((by rw [hg]; exact (below_size hb_) : w.heap.size ≤ gb185)); have n3_ := Aside0.mk ((by rw [hg]; exact (below_size hb_) : w.heap.size ≤ gb185)); clear HB; have HB := n0_; have BK185 := n1_; have GW185 := n2_; have GE185 := n3_; clear n0_ n1_ n2_ n3_; clear hb hbox hg))
 (try simp only [Act.put, List.setIfInBounds_toArray, List.set_cons_zero, List.set_cons_succ])
 go_cut [21] (fun v21 wc => ∃ (kq : Nat) (x21_1 : Bool), v21 = .bool x21_1 ∧ Aside0 (impl_IsSea.j0 kq x21_1 a0_0 a0_1 l0_2 = some r) ∧ Aside0 (kq ≤ k) ∧ Aside0 (wc.heap[gb185]? = some (.cells #[.int .i64 a0_0, .int .i64 a0_1, (.slice A0_2 l0_2.length c0_2)] 28 (0, 0))) ∧ Aside0 (Below w.heap.size w wc))
 case first =>
  have H := HC2.out
  clear HC2
  replace H := Option.bind_eq_some_iff.mp H
  obtain ⟨t186, A40, H⟩ := H
  replace H : (if t186 = true then ((impl_within.f a0_1 1 5).bind fun t187 => (if t187 = true then ((impl_size_int64.f l0_2).bind fun t188 => ((impl_within.f t188 1 3).bind fun t189 => (impl_IsSea.j0 k (!t189) a0_0 a0_1 l0_2))) else (impl_IsSea.j0 k true a0_0 a0_1 l0_2))) else (impl_IsSea.j0 k true a0_0 a0_1 l0_2)) = some r := H
  have A4 := Aside0.mk A40
  clear A40
  by_cases c5 : t186 = true
  ·subst c5
   have H1 : ((impl_within.f a0_1 1 5).bind fun t187 => (if t187 = true then ((impl_size_int64.f l0_2).bind fun t188 => ((impl_within.f t188 1 3).bind fun t189 => (impl_IsSea.j0 k (!t189) a0_0 a0_1 l0_2))) else (impl_IsSea.j0 k true a0_0 a0_1 l0_2))) = some r := by rw [if_pos rfl] at H; exact H
   clear H
   have H := H1
   clear H1
   replace H := Option.bind_eq_some_iff.mp H
   obtain ⟨t187, A60, H⟩ := H
   replace H : (if t187 = true then ((impl_size_int64.f l0_2).bind fun t188 => ((impl_within.f t188 1 3).bind fun t189 => (impl_IsSea.j0 k (!t189) a0_0 a0_1 l0_2))) else (impl_IsSea.j0 k true a0_0 a0_1 l0_2)) = some r := H
   have A6 := Aside0.mk A60
   clear A60
   by_cases c7 : t187 = true
   ·subst c7
    have H1 : ((impl_size_int64.f l0_2).bind fun t188 => ((impl_within.f t188 1 3).bind fun t189 => (impl_IsSea.j0 k (!t189) a0_0 a0_1 l0_2))) = some r := by rw [if_pos rfl] at H; exact H
    clear H
    have H := H1
    clear H1
    replace H := Option.bind_eq_some_iff.mp H
    obtain ⟨t188, A80, H⟩ := H
    replace H : ((impl_within.f t188 1 3).bind fun t189 => (impl_IsSea.j0 k (!t189) a0_0 a0_1 l0_2)) = some r := H
    have A8 := Aside0.mk A80
    clear A80
    replace H := Option.bind_eq_some_iff.mp H
    obtain ⟨t189, A90, H⟩ := H
    replace H : (impl_IsSea.j0 k (!t189) a0_0 a0_1 l0_2) = some r := H
    have A9 := Aside0.mk A90
    clear A90
    have H' := Aside0.mk H
    clear H
    have hcz10_0 : w3.cell? ⟨gb185, 0, none⟩ = some (.int .i64 a0_0) := (blk_cell BK185.out 0).trans rfl
    have hcz10_1 : w3.cell? ⟨gb185, 1, none⟩ = some (.int .i64 a0_1) := (blk_cell BK185.out 1).trans rfl
    have hcz10_2 : w3.cell? ⟨gb185, 2, none⟩ = some (.slice A0_2 l0_2.length c0_2) := (blk_cell BK185.out 2).trans rfl
    have hfz10_0 := blk_frozen BK185.out 0
    have hfz10_1 := blk_frozen BK185.out 1
    have hfz10_2 := blk_frozen BK185.out 2
    go_wp2_with (first | ((with_reducible refine gate_callee (f := 60) rfl ?_); refine goesA_ (some 7) rfl rfl Try.func60 (by kernel_rfl) rfl #[.int .i64 a0_0, .int .i64 1, .int .i64 5] rfl ?_; (with_reducible refine (impl_within.calls a0_0 1 5 true _ A4.out).mono ?_); rintro e w' ⟨rfl, ⟨nd, rfl⟩⟩; refine ⟨_, rfl, ?_⟩) | (go_at_call 60; (with_reducible refine (impl_within.calls a0_1 1 5 true _ A6.out).mono ?_); rintro e w' ⟨rfl, ⟨nd, rfl⟩⟩) | (go_at_call 99; (with_reducible refine (impl_size_int64.calls _ _ l0_2 t188 _ ?side1 ?side2 A8.out).mono ?_); (case side1 => repeat (first | exact (Kd.C_below HR0_2.out (by repeat (first | (with_reducible first | exact HB.out | apply below_alloc | apply pw_below_drewN | apply below_drew1 | refine below_set ?_ GE185.out) | exact HB.out))) | (with_reducible refine Kd.C_alloc ?_ _) | (with_reducible refine Kd.C_drewN ?_ _) | (with_reducible refine Kd.C_drew ?_))); (case side2 => exact HC0_2.out); rintro e w' ⟨rfl, ⟨nd, rfl⟩⟩) | (go_at_call 60; (with_reducible refine (impl_within.calls t188 1 3 t189 _ A9.out).mono ?_); rintro e w' ⟨rfl, ⟨nd, rfl⟩⟩))
    go_meet
    case rel => exact ⟨_, (!t189), (by first | rfl | (simp; done) | (simp [*]; done)), H', ⟨by first | omega | exact Nat.le_refl _⟩, ⟨by (with_reducible repeat (first | refine blk_drewN ?_ _ | refine blk_drew ?_ | refine blk_alloc ?_ _)); exact BK185.out⟩, ⟨by repeat (first | (with_reducible first | exact HB.out | apply below_alloc | apply pw_below_drewN | apply below_drew1 | refine below_set ?_ GE185.out) | exact HB.out)⟩⟩
   ·replace c7 := Bool.eq_false_iff.mpr c7
    subst c7
    have H1 : (impl_IsSea.j0 k true a0_0 a0_1 l0_2) = some r := by rw [if_neg (show ¬ (false = true) by decide)] at H; exact H
    clear H
    have H := H1
    clear H1
    have H' := Aside0.mk H
    clear H
    have hcz11_0 : w3.cell? ⟨gb185, 0, none⟩ = some (.int .i64 a0_0) := (blk_cell BK185.out 0).trans rfl
    have hcz11_1 : w3.cell? ⟨gb185, 1, none⟩ = some (.int .i64 a0_1) := (blk_cell BK185.out 1).trans rfl
    have hcz11_2 : w3.cell? ⟨gb185, 2, none⟩ = some (.slice A0_2 l0_2.length c0_2) := (blk_cell BK185.out 2).trans rfl
    have hfz11_0 := blk_frozen BK185.out 0
    have hfz11_1 := blk_frozen BK185.out 1
    have hfz11_2 := blk_frozen BK185.out 2
    go_wp2_with (first | ((with_reducible refine gate_callee (f := 60) rfl ?_); refine goesA_ (some 7) rfl rfl Try.func60 (by kernel_rfl) rfl #[.int .i64 a0_0, .int .i64 1, .int .i64 5] rfl ?_; (with_reducible refine (impl_within.calls a0_0 1 5 true _ A4.out).mono ?_); rintro e w' ⟨rfl, ⟨nd, rfl⟩⟩; refine ⟨_, rfl, ?_⟩) | (go_at_call 60; (with_reducible refine (impl_within.calls a0_1 1 5 false _ A6.out).mono ?_); rintro e w' ⟨rfl, ⟨nd, rfl⟩⟩))
    go_meet
    case rel => exact ⟨_, (true), (by first | rfl | (simp; done) | (simp [*]; done)), H', ⟨by first | omega | exact Nat.le_refl _⟩, ⟨by (with_reducible repeat (first | refine blk_drewN ?_ _ | refine blk_drew ?_ | refine blk_alloc ?_ _)); exact BK185.out⟩, ⟨by repeat (first | (with_reducible first | exact HB.out | apply below_alloc | apply pw_below_drewN | apply below_drew1 | refine below_set ?_ GE185.out) | exact HB.out)⟩⟩
  ·replace c5 := Bool.eq_false_iff.mpr c5
   subst c5
   have H1 : (impl_IsSea.j0 k true a0_0 a0_1 l0_2) = some r := by rw [if_neg (show ¬ (false = true) by decide)] at H; exact H
   clear H
   have H := H1
   clear H1
   have H' := Aside0.mk H
   clear H
   have hcz12_0 : w3.cell? ⟨gb185, 0, none⟩ = some (.int .i64 a0_0) := (blk_cell BK185.out 0).trans rfl
   have hcz12_1 : w3.cell? ⟨gb185, 1, none⟩ = some (.int .i64 a0_1) := (blk_cell BK185.out 1).trans rfl
   have hcz12_2 : w3.cell? ⟨gb185, 2, none⟩ = some (.slice A0_2 l0_2.length c0_2) := (blk_cell BK185.out 2).trans rfl
   have hfz12_0 := blk_frozen BK185.out 0
   have hfz12_1 := blk_frozen BK185.out 1
   have hfz12_2 := blk_frozen BK185.out 2
   go_wp2_with (first | ((with_reducible refine gate_callee (f := 60) rfl ?_); refine goesA_ (some 7) rfl rfl Try.func60 (by kernel_rfl) rfl #[.int .i64 a0_0, .int .i64 1, .int .i64 5] rfl ?_; (with_reducible refine (impl_within.calls a0_0 1 5 false _ A4.out).mono ?_); rintro e w' ⟨rfl, ⟨nd, rfl⟩⟩; refine ⟨_, rfl, ?_⟩))
   go_meet
   case rel => exact ⟨_, (true), (by first | rfl | (simp; done) | (simp [*]; done)), H', ⟨by first | omega | exact Nat.le_refl _⟩, ⟨by (with_reducible repeat (first | refine blk_drewN ?_ _ | refine blk_drew ?_ | refine blk_alloc ?_ _)); exact BK185.out⟩, ⟨by repeat (first | (with_reducible first | exact HB.out | apply below_alloc | apply pw_below_drewN | apply below_drew1 | refine below_set ?_ GE185.out) | exact HB.out)⟩⟩
 case rest =>
  clear HC2
  (try clear p2); (try clear c5); (try clear c6); (try clear c7); (try clear hcz10_0); (try clear hcz10_1); (try clear hcz10_2); (try clear hcz11_0); (try clear hcz11_1); (try clear hcz11_2); (try clear hcz12_0); (try clear hcz12_1); (try clear hcz12_2); (try clear hfz10_0); (try clear hfz10_1); (try clear hfz10_2); (try clear hfz11_0); (try clear hfz11_1); (try clear hfz11_2); (try clear hfz12_0); (try clear hfz12_1); (try clear hfz12_2)
  obtain ⟨kq, x21_1, rfl, HA, HJ1, BK185, HB⟩ := hcut
  cases kq with
  | zero => exact absurd HA.out (by simp [impl_IsSea.j0])
  | succ kj1 =>
   have H := HA.out
   clear HA
   simp only [impl_IsSea.j0] at H
   by_cases c13 : x21_1 = true
   ·subst c13
    have H1 : (some false) = some r := by rw [if_pos rfl] at H; exact H
    clear H
    have H := H1
    clear H1
    obtain rfl := Option.some.inj H
    go_wp2
    go_ret
    exact ⟨by first | rfl | (simp [errW_none, errW_some] <;> rfl) | (simp [*, errW_none, errW_some] <;> rfl), by repeat (first | (with_reducible first | exact HB.out | apply below_alloc | apply pw_below_drewN | apply below_drew1 | refine below_set ?_ GE185.out) | exact HB.out)⟩
   ·replace c13 := Bool.eq_false_iff.mpr c13
    subst c13
    have H1 : (impl_IsSea.l0 kj1 l0_2 (l0_2.length : Int) 0 a0_0 a0_1 l0_2) = some r := by rw [if_neg (show ¬ (false = true) by decide)] at H; exact H
    clear H
    have H := H1
    clear H1
    have H' := Aside0.mk H
    clear H
    have hcz14_0 : wc.cell? ⟨gb185, 0, none⟩ = some (.int .i64 a0_0) := (blk_cell BK185.out 0).trans rfl
    have hcz14_1 : wc.cell? ⟨gb185, 1, none⟩ = some (.int .i64 a0_1) := (blk_cell BK185.out 1).trans rfl
    have hcz14_2 : wc.cell? ⟨gb185, 2, none⟩ = some (.slice A0_2 l0_2.length c0_2) := (blk_cell BK185.out 2).trans rfl
    have hfz14_0 := blk_frozen BK185.out 0
    have hfz14_1 := blk_frozen BK185.out 1
    have hfz14_2 := blk_frozen BK185.out 2
    go_wp2
    go_loopg [25] kj1 (fun kq v25 w' => ∃ (x25_2 : Int), v25 = .int .i64 x25_2 ∧ Aside0 (impl_IsSea.l0 kq l0_2 (l0_2.length : Int) x25_2 a0_0 a0_1 l0_2 = some r) ∧ Aside0 (kq ≤ kj1) ∧ Aside0 (w'.heap[gb185]? = some (.cells #[.int .i64 a0_0, .int .i64 a0_1, (.slice A0_2 l0_2.length c0_2)] 28 (0, 0))) ∧ Aside0 (Below w.heap.size w w'))
    case atStart => exact ⟨(0), (by first | rfl | (simp; done) | (simp [*]; done)), H', ⟨Nat.le_refl _⟩, ⟨by (with_reducible repeat (first | refine blk_drewN ?_ _ | refine blk_drew ?_ | refine blk_alloc ?_ _)); exact BK185.out⟩, ⟨by repeat (first | (with_reducible first | exact HB.out | apply below_alloc | apply pw_below_drewN | apply below_drew1 | refine below_set ?_ GE185.out) | exact HB.out)⟩⟩
    case round =>
     clear H'
     (try clear c1); (try clear p2); (try clear c5); (try clear c6); (try clear c7); (try clear c13); (try clear hcz10_0); (try clear hcz10_1); (try clear hcz10_2); (try clear hcz11_0); (try clear hcz11_1); (try clear hcz11_2); (try clear hcz12_0); (try clear hcz12_1); (try clear hcz12_2); (try clear hcz14_0); (try clear hcz14_1); (try clear hcz14_2); (try clear hfz10_0); (try clear hfz10_1); (try clear hfz10_2); (try clear hfz11_0); (try clear hfz11_1); (try clear hfz11_2); (try clear hfz12_0); (try clear hfz12_1); (try clear hfz12_2); (try clear hfz14_0); (try clear hfz14_1); (try clear hfz14_2); (try clear p2)
     obtain ⟨x25_2, rfl, HA, HK2, BK185, HB⟩ := hrel
     cases gk with
     | zero => exact absurd HA.out (by simp [impl_IsSea.l0])
     | succ k2 =>
      have H := HA.out
      clear HA
      simp only [impl_IsSea.l0] at H
      by_cases c15 : x25_2 < (l0_2.length : Int)
      ·rw [if_pos c15] at H
       have c15b0 : decide (x25_2 < (l0_2.length : Int)) = true := decide_eq_true c15
       clear c15
       by_cases c16 : 0 ≤ x25_2
       ·rw [if_pos c16] at H
        have c16b0 : decide (0 ≤ x25_2) = true := decide_eq_true c16
        clear c16
        by_cases c17 : x25_2 < (l0_2.length : Int)
        ·rw [if_pos c17] at H
         have c17b0 : decide (x25_2 < (l0_2.length : Int)) = true := decide_eq_true c17
         clear c17
         replace H := Option.bind_eq_some_iff.mp H
         obtain ⟨t191, A180, H⟩ := H
         replace H : (if t191 = true then (if x25_2 > 0 then (if 0 ≤ (wrap64 (x25_2 - 1)) then (if (wrap64 (x25_2 - 1)) < (l0_2.length : Int) then (if (rd l0_2 x25_2) > (rd l0_2 (wrap64 (x25_2 - 1))) then (some false) else (impl_IsSea.l0 k2 l0_2 (l0_2.length : Int) (wrap64 (x25_2 + 1)) a0_0 a0_1 l0_2)) else (none)) else (none)) else (impl_IsSea.l0 k2 l0_2 (l0_2.length : Int) (wrap64 (x25_2 + 1)) a0_0 a0_1 l0_2)) else (some false)) = some r := H
         have A18 := Aside0.mk A180
         clear A180
         by_cases c19 : t191 = true
         ·subst c19
          have H1 : (if x25_2 > 0 then (if 0 ≤ (wrap64 (x25_2 - 1)) then (if (wrap64 (x25_2 - 1)) < (l0_2.length : Int) then (if (rd l0_2 x25_2) > (rd l0_2 (wrap64 (x25_2 - 1))) then (some false) else (impl_IsSea.l0 k2 l0_2 (l0_2.length : Int) (wrap64 (x25_2 + 1)) a0_0 a0_1 l0_2)) else (none)) else (none)) else (impl_IsSea.l0 k2 l0_2 (l0_2.length : Int) (wrap64 (x25_2 + 1)) a0_0 a0_1 l0_2)) = some r := by rw [if_pos rfl] at H; exact H
          clear H
          have H := H1
          clear H1
          by_cases c20 : x25_2 > 0
          ·rw [if_pos c20] at H
           have c20b0 : decide (0 < x25_2) = true := decide_eq_true c20
           clear c20
           obtain ⟨ji21, hji21⟩ : ∃ j_ : Int, (wrap64 (x25_2 - 1)) = j_ := ⟨_, rfl⟩
           replace H : (if 0 ≤ (ji21) then (if (ji21) < (l0_2.length : Int) then (if (rd l0_2 x25_2) > (rd l0_2 (ji21)) then (some false) else (impl_IsSea.l0 k2 l0_2 (l0_2.length : Int) (wrap64 (x25_2 + 1)) a0_0 a0_1 l0_2)) else (none)) else (none)) = some r := by first | (rw [hji21] at H; exact H) | (simp only [hji21] at H ⊢; exact H)
           (try rw [hji21] at A18)
           have hji21w : (IntKind.i64.wrap (x25_2 - 1)) = ji21 := (i64_w _).trans hji21
           by_cases c22 : 0 ≤ (ji21)
           ·rw [if_pos c22] at H
            have c22b0 : decide (0 ≤ (ji21)) = true := decide_eq_true c22
            clear c22
            by_cases c23 : (ji21) < (l0_2.length : Int)
            ·rw [if_pos c23] at H
             have c23b0 : decide ((ji21) < (l0_2.length : Int)) = true := decide_eq_true c23
             clear c23
             by_cases c24 : (rd l0_2 x25_2) > (rd l0_2 (ji21))
             ·rw [if_pos c24] at H
              have c24b0 : decide ((rd l0_2 (ji21)) < (rd l0_2 x25_2)) = true := decide_eq_true c24
              clear c24
              obtain rfl := Option.some.inj H
              have p190 : 0 ≤ (x25_2 : Int) := oda
              have q190 : x25_2 < (l0_2.length : Int) := oda
              obtain ⟨ad190, e190, hx190_0⟩ := Kd.at_int HR0_2.out x25_2 p190 q190
              cases e190
              replace hx190_0 := (HB.out.cell (World.block_lt_of_cell? w _ hx190_0)).trans hx190_0
              replace p190 := eq_true p190
              replace q190 := eq_true q190
              go_wp2_with (first | ((with_reducible refine gate_callee (f := 60) rfl ?_); refine goesA_ (some 31) rfl rfl Try.func60 (by kernel_rfl) rfl #[.int .i64 (rd l0_2 x25_2), .int .i64 1, .int .i64 5] rfl ?_; (with_reducible refine (impl_within.calls (rd l0_2 x25_2) 1 5 true _ A18.out).mono ?_); rintro e w' ⟨rfl, ⟨nd, rfl⟩⟩; refine ⟨_, rfl, ?_⟩; have hcz25_0 : wr.cell? ⟨gb185, 0, none⟩ = some (.int .i64 a0_0) := (blk_cell BK185.out 0).trans rfl; have hcz25_1 : wr.cell? ⟨gb185, 1, none⟩ = some (.int .i64 a0_1) := (blk_cell BK185.out 1).trans rfl; have hcz25_2 : wr.cell? ⟨gb185, 2, none⟩ = some (.slice (some ad190) l0_2.length c0_2) := (blk_cell BK185.out 2).trans rfl; have hfz25_0 := blk_frozen BK185.out 0; have hfz25_1 := blk_frozen BK185.out 1; have hfz25_2 := blk_frozen BK185.out 2; have p192 : 0 ≤ ((ji21) : Int) := oda; have q192 : (ji21) < (l0_2.length : Int) := oda; obtain ⟨ad192, e192, hx192_0⟩ := Kd.at_int HR0_2.out (ji21) p192 q192; obtain rfl : ad190 = ad192 := (by injection e192); replace hx192_0 := (HB.out.cell (World.block_lt_of_cell? w _ hx192_0)).trans hx192_0; replace p192 := eq_true p192; replace q192 := eq_true q192))
              go_ret
              exact ⟨by first | rfl | (simp [errW_none, errW_some] <;> rfl) | (simp only [← hji21]; first | rfl | (simp [errW_none, errW_some] <;> rfl)) | (simp [*, errW_none, errW_some] <;> rfl), by repeat (first | (with_reducible first | exact HB.out | apply below_alloc | apply pw_below_drewN | apply below_drew1 | refine below_set ?_ GE185.out) | exact HB.out)⟩
             ·rw [if_neg c24] at H
              have c24b0 : decide ((rd l0_2 (ji21)) < (rd l0_2 x25_2)) = false := decide_eq_false c24
              clear c24
              have H' := Aside0.mk H
              clear H
              have p190 : 0 ≤ (x25_2 : Int) := oda
              have q190 : x25_2 < (l0_2.length : Int) := oda
              obtain ⟨ad190, e190, hx190_0⟩ := Kd.at_int HR0_2.out x25_2 p190 q190
              cases e190
              replace hx190_0 := (HB.out.cell (World.block_lt_of_cell? w _ hx190_0)).trans hx190_0
              replace p190 := eq_true p190
              replace q190 := eq_true q190
              go_wp2_with (first | ((with_reducible refine gate_callee (f := 60) rfl ?_); refine goesA_ (some 31) rfl rfl Try.func60 (by kernel_rfl) rfl #[.int .i64 (rd l0_2 x25_2), .int .i64 1, .int .i64 5] rfl ?_; (with_reducible refine (impl_within.calls (rd l0_2 x25_2) 1 5 true _ A18.out).mono ?_); rintro e w' ⟨rfl, ⟨nd, rfl⟩⟩; refine ⟨_, rfl, ?_⟩; have hcz26_0 : wr.cell? ⟨gb185, 0, none⟩ = some (.int .i64 a0_0) := (blk_cell BK185.out 0).trans rfl; have hcz26_1 : wr.cell? ⟨gb185, 1, none⟩ = some (.int .i64 a0_1) := (blk_cell BK185.out 1).trans rfl; have hcz26_2 : wr.cell? ⟨gb185, 2, none⟩ = some (.slice (some ad190) l0_2.length c0_2) := (blk_cell BK185.out 2).trans rfl; have hfz26_0 := blk_frozen BK185.out 0; have hfz26_1 := blk_frozen BK185.out 1; have hfz26_2 := blk_frozen BK185.out 2; have p192 : 0 ≤ ((ji21) : Int) := oda; have q192 : (ji21) < (l0_2.length : Int) := oda; obtain ⟨ad192, e192, hx192_0⟩ := Kd.at_int HR0_2.out (ji21) p192 q192; obtain rfl : ad190 = ad192 := (by injection e192); replace hx192_0 := (HB.out.cell (World.block_lt_of_cell? w _ hx192_0)).trans hx192_0; replace p192 := eq_true p192; replace q192 := eq_true q192))
              go_roundg k2
              case measure => have := HJ1.out; have := HK2.out; omega
              case rel => exact ⟨(wrap64 (x25_2 + 1)), (by first | rfl | (simp; done) | (simp [*]; done)), H', ⟨by have := HJ1.out; have := HK2.out; omega⟩, ⟨by (with_reducible repeat (first | refine blk_drewN ?_ _ | refine blk_drew ?_ | refine blk_alloc ?_ _)); exact BK185.out⟩, ⟨by repeat (first | (with_reducible first | exact HB.out | apply below_alloc | apply pw_below_drewN | apply below_drew1 | refine below_set ?_ GE185.out) | exact HB.out)⟩⟩
            ·rw [if_neg c23] at H
             exact absurd H (by simp)
           ·rw [if_neg c22] at H
            exact absurd H (by simp)
          ·rw [if_neg c20] at H
           have c20b0 : decide (0 < x25_2) = false := decide_eq_false c20
           clear c20
           have H' := Aside0.mk H
           clear H
           have p190 : 0 ≤ (x25_2 : Int) := oda
           have q190 : x25_2 < (l0_2.length : Int) := oda
           obtain ⟨ad190, e190, hx190_0⟩ := Kd.at_int HR0_2.out x25_2 p190 q190
           cases e190
           replace hx190_0 := (HB.out.cell (World.block_lt_of_cell? w _ hx190_0)).trans hx190_0
           replace p190 := eq_true p190
           replace q190 := eq_true q190
           go_wp2_with (first | ((with_reducible refine gate_callee (f := 60) rfl ?_); refine goesA_ (some 31) rfl rfl Try.func60 (by kernel_rfl) rfl #[.int .i64 (rd l0_2 x25_2), .int .i64 1, .int .i64 5] rfl ?_; (with_reducible refine (impl_within.calls (rd l0_2 x25_2) 1 5 true _ A18.out).mono ?_); rintro e w' ⟨rfl, ⟨nd, rfl⟩⟩; refine ⟨_, rfl, ?_⟩))
           go_roundg k2
           case measure => have := HJ1.out; have := HK2.out; omega
           case rel => exact ⟨(wrap64 (x25_2 + 1)), (by first | rfl | (simp; done) | (simp [*]; done)), H', ⟨by have := HJ1.out; have := HK2.out; omega⟩, ⟨by (with_reducible repeat (first | refine blk_drewN ?_ _ | refine blk_drew ?_ | refine blk_alloc ?_ _)); exact BK185.out⟩, ⟨by repeat (first | (with_reducible first | exact HB.out | apply below_alloc | apply pw_below_drewN | apply below_drew1 | refine below_set ?_ GE185.out) | exact HB.out)⟩⟩
         ·replace c19 := Bool.eq_false_iff.mpr c19
          subst c19
          have H1 : (some false) = some r := by rw [if_neg (show ¬ (false = true) by decide)] at H; exact H
          clear H
          have H := H1
          clear H1
          obtain rfl := Option.some.inj H
          have p190 : 0 ≤ (x25_2 : Int) := oda
          have q190 : x25_2 < (l0_2.length : Int) := oda
          obtain ⟨ad190, e190, hx190_0⟩ := Kd.at_int HR0_2.out x25_2 p190 q190
          cases e190
          replace hx190_0 := (HB.out.cell (World.block_lt_of_cell? w _ hx190_0)).trans hx190_0
          replace p190 := eq_true p190
          replace q190 := eq_true q190
          go_wp2_with (first | ((with_reducible refine gate_callee (f := 60) rfl ?_); refine goesA_ (some 31) rfl rfl Try.func60 (by kernel_rfl) rfl #[.int .i64 (rd l0_2 x25_2), .int .i64 1, .int .i64 5] rfl ?_; (with_reducible refine (impl_within.calls (rd l0_2 x25_2) 1 5 false _ A18.out).mono ?_); rintro e w' ⟨rfl, ⟨nd, rfl⟩⟩; refine ⟨_, rfl, ?_⟩))
          go_ret
          exact ⟨by first | rfl | (simp [errW_none, errW_some] <;> rfl) | (simp [*, errW_none, errW_some] <;> rfl), by repeat (first | (with_reducible first | exact HB.out | apply below_alloc | apply pw_below_drewN | apply below_drew1 | refine below_set ?_ GE185.out) | exact HB.out)⟩
        ·rw [if_neg c17] at H
         exact absurd H (by simp)
       ·rw [if_neg c16] at H
        exact absurd H (by simp)
      ·rw [if_neg c15] at H
       have c15b0 : decide (x25_2 < (l0_2.length : Int)) = false := decide_eq_false c15
       clear c15
       obtain rfl := Option.some.inj H
       go_wp2
       go_ret
       exact ⟨by first | rfl | (simp [errW_none, errW_some] <;> rfl) | (simp [*, errW_none, errW_some] <;> rfl), by repeat (first | (with_reducible first | exact HB.out | apply below_alloc | apply pw_below_drewN | apply below_drew1 | refine below_set ?_ GE185.out) | exact HB.out)⟩
/-! ### impl_Sea_cells: function 73 -/
def impl_Sea_cells.f (a0_0 : Int) (a0_1 : Int) (l0_2 : List Int) : Option (Int) := some (wrap64 (a0_0 * a0_1))
set_option maxHeartbeats 8000000 in
set_option maxRecDepth 100000 in
theorem impl_Sea_cells.calls (a0_0 : Int) (a0_1 : Int) (A0_2 : Option Addr) (c0_2 : Nat) (l0_2 : List Int) (r : Int) (w : World) (hr0_2 : Kd.C (Kd.int .i64) w A0_2 l0_2.length l0_2) (hc0_2 : l0_2.length ≤ c0_2) (h : impl_Sea_cells.f a0_0 a0_1 l0_2 = some r) :
  Calls Try.prog 73 #[.agg #[.int .i64 a0_0, .int .i64 a0_1, .slice A0_2 l0_2.length c0_2]] w fun e w' => e = .returned (.int .i64 r) ∧ Below w.heap.size w w' := by
 have hu28 := Try.underlying28
 have HR0_2 := Aside0.mk hr0_2
 have HC0_2 := Aside0.mk hc0_2
 clear hr0_2 hc0_2
 have HB := Aside0.mk (Below.refl w.heap.size w)
 have H : (some (wrap64 (a0_0 * a0_1))) = some r := h
 clear h
 obtain rfl := Option.some.inj H
 go_enter Try.func73, Try.ntmps73
 go_wp2_with (first | ((with_reducible refine gate_dst (N := 1) rfl ?_); refine box_event ?hg (N := 1) ?hd (cs := #[.int .i64 a0_0, .int .i64 a0_1, .slice A0_2 l0_2.length c0_2]) (t := 28) ?hr ?_; (case hd => rfl); (case hg => rfl); (case hr => first | (go_simp; done) | (go_simp; rfl)); intro gb193 hg w2 hbox hb; have n0_ := Aside0.mk (below_step hb_ hb); have n1_ := Aside0.mk (hbox); have n2_ := Aside0.mk ((by rw [hg]; exact (below_size hb_) : w.heap.size ≤ gb193)); have n3_ := Aside0.mk ((by rw [hg]; exact (below_size hb_) : w.heap.size ≤ gb193)); clear HB; have HB := n0_; have BK193 := n1_; have GW193 := n2_; have GE193 := n3_; clear n0_ n1_ n2_ n3_; clear hb hbox hg; have hcz3_0 : w2.cell? ⟨gb193, 0, none⟩ = some (.int .i64 a0_0) := (blk_cell BK193.out 0).trans rfl; have hcz3_1 : w2.cell? ⟨gb193, 1, none⟩ = some (.int .i64 a0_1) := (blk_cell BK193.out 1).trans rfl; have hcz3_2 : w2.cell? ⟨gb193, 2, none⟩ = some (.slice A0_2 l0_2.length c0_2) := (blk_cell BK193.out 2).trans rfl; have hfz3_0 := blk_frozen BK193.out 0; have hfz3_1 := blk_frozen BK193.out 1; have hfz3_2 := blk_frozen BK193.out 2))
 go_ret
 exact ⟨by first | rfl | (simp [errW_none, errW_some] <;> rfl) | (simp [*, errW_none, errW_some] <;> rfl), by repeat (first | (with_reducible first | exact HB.out | apply below_alloc | apply pw_below_drewN | apply below_drew1 | refine below_set ?_ GE193.out) | exact HB.out)⟩
-- A literal as a block of its own, and stores into blocks that are new.
section
variable {P : Program} {ops : Array Oper} {rest : List Oper} {o : Oper} {a : Act} {Q : Exit → Act → World → Prop}
theorem lit_event {W : World} (hgd : o.guard = none) {N : Tmp} (_hd : o.dst = some N) {cs : Array Value} {t : TypeId} {n : Nat}
    (hrun : (execOp a.eval o).run P W = .ok (.value (.slice (some ⟨W.heap.size, 0, none⟩) n n)) (W.alloc (.cells cs t (0, 0))))
    (h : ∀ g, g = W.heap.size → ∀ w1, w1.heap[g]? = some (.cells cs t (0, 0)) → Below W.heap.size W w1 → wpList P ops Q rest (a.put o.dst (.slice (some ⟨g, 0, none⟩) n n)) w1) : wpList P ops Q (o :: rest) a W :=
  Kd.event_run hgd hrun (h _ rfl _ (blk_new W _) (below_alloc (Below.refl _ _) _))
end
theorem arr_below {B : Nat} {w W : World} (h : Below B w W) {g : Nat} (hg : B ≤ g) (i : Nat) (u : Value) : Below B w (W.setCell ⟨g, i, none⟩ u) :=
  h.trans ⟨rfl, rfl, rfl, by simp [World.setCell], fun k hk => Below.heap_setCell W ⟨g, i, none⟩ u k (by show k ≠ g; omega)⟩
theorem run_store_func {P : Program} {w : World} {a : Addr} {m : Mode} (f : Fn) (t b : Array Value) : (store a (.func f t b) m).run P w = stored P w a (.func f t b) m := run_store P w a _ m rfl
/-- 'within', as a plain function, and what the machine does. -/
def inW (n a b : Int) : Bool := decide (a ≤ n) && decide (n ≤ b)
theorem within_inW (n a b : Int) : impl_within.f n a b = some (inW n a b) := by
  unfold impl_within.f inW
  by_cases h : a ≤ n <;> simp [h]
-- Bits of whole numbers that are not less than 0.
theorem bitv_nat (a : Nat) (ha : a < 9223372036854775808) : (BitVec.ofInt 64 (a : Int)).toNat = a := by
  rw [BitVec.ofInt_natCast, BitVec.toNat_ofNat]; exact Nat.mod_eq_of_lt (by omega)
theorem i64_nat (n : Nat) (h : n < 9223372036854775808) : IntKind.i64.wrap (n : Int) = (n : Int) := by
  rw [i64_w]; unfold wrap64; omega
theorem bits_and_nat (a b : Nat) (ha : a < 9223372036854775808) (hb : b < 9223372036854775808) : Go.bits .and .i64 (a : Int) (b : Int) = ((a &&& b : Nat) : Int) := by
  have hx : a &&& b < 2 ^ 63 := Nat.and_lt_two_pow _ (by omega)
  show IntKind.i64.wrap ((BitVec.ofInt 64 (a : Int) &&& BitVec.ofInt 64 (b : Int)).toNat : Int) = _
  rw [BitVec.toNat_and, bitv_nat a ha, bitv_nat b hb, i64_nat _ (by omega)]
theorem bits_or_nat (a b : Nat) (ha : a < 9223372036854775808) (hb : b < 9223372036854775808) : Go.bits .or .i64 (a : Int) (b : Int) = ((a ||| b : Nat) : Int) := by
  have hx : a ||| b < 2 ^ 63 := Nat.or_lt_two_pow (by omega) (by omega)
  show IntKind.i64.wrap ((BitVec.ofInt 64 (a : Int) ||| BitVec.ofInt 64 (b : Int)).toNat : Int) = _
  rw [BitVec.toNat_or, bitv_nat a ha, bitv_nat b hb, i64_nat _ (by omega)]
theorem shl_nat (i : Nat) (h : i < 63) : shl .i64 1 (i : Int) = ((2 ^ i : Nat) : Int) := by
  unfold shl
  have h1 : min ((i : Int)).toNat IntKind.i64.bits = i := by rw [Int.toNat_natCast]; show min i 64 = i; omega
  rw [h1, Int.one_mul]
  have h2 : (2 : Nat) ^ i < 9223372036854775808 := by
    have : (2 : Nat) ^ i < 2 ^ 63 := Nat.pow_lt_pow_right (by omega) h
    omega
  have h3 : ((2 : Int) ^ i) = ((2 ^ i : Nat) : Int) := by simp
  rw [h3, i64_nat _ h2]
theorem shr_nat (m i : Nat) (h : i ≤ 64) : shr .i64 (m : Int) (i : Int) = ((m >>> i : Nat) : Int) := by
  unfold shr
  have h1 : min ((i : Int)).toNat IntKind.i64.bits = i := by rw [Int.toNat_natCast]; show min i 64 = i; omega
  rw [h1, Nat.shiftRight_eq_div_pow]
  simp
/-- One bit read. -/
theorem bit_nat (m i : Nat) (hm : m < 9223372036854775808) (h : i ≤ 64) : Go.bits .and .i64 (shr .i64 (m : Int) (i : Int)) 1 = if m.testBit i = true then 1 else 0 := by
  rw [shr_nat m i h]
  have hs : m >>> i ≤ m := Nat.shiftRight_le m i
  have := bits_and_nat (m >>> i) 1 (by omega) (by omega)
  rw [show ((1 : Int)) = ((1 : Nat) : Int) from rfl, this]
  unfold Nat.testBit
  rw [Nat.and_comm 1]
  rw [Nat.and_one_is_mod]
  rcases Nat.mod_two_eq_zero_or_one (m >>> i) with e | e <;> rw [e] <;> simp
theorem u64_nat (i : Nat) (h : i < 9223372036854775808) : IntKind.u64.wrap (i : Int) = (i : Int) := by
  show (i : Int) % 18446744073709551616 = i
  omega
/-- What is asked of a function value handed on: at every x of the kind d that q lets by, in every world in which all that lay in w lies unturned, it answers p x and turns nothing that lay. -/
def PredK {α : Type} (P : Program) (g : Nat) (lb : Array Value) (d : Kd α) (q : α → Prop) (p : α → Bool) (w : World) : Prop :=
  ∀ (W : World) (x : α) (v : Value), q x → d.K W x [v] → Below w.heap.size w W → Calls P g (#[v] ++ lb) W fun e w' => e = .returned (.bool (p x)) ∧ Below W.heap.size W w'
/-- One cell of a row that is read. -/
theorem Kd.C_one {α : Type} {d : Kd α} {w : World} {A : Option Addr} {n : Nat} {xs : List α} (h1 : d.sz = 1) (h : d.C w A n xs) (i : Nat) (hi : i < n) (hl : n = xs.length) :
    ∃ ad v, A = some ad ∧ w.cell? (ad.add i) = some v ∧ d.K w (xs[i]'(by omega)) [v] := by
  have hi' : i < xs.length := by omega
  obtain ⟨ad, c, hA, hc, hK, hcell⟩ := Kd.C_get h (xs[i]'hi') (i : Int) (by omega) (by omega)
  rw [h1] at hc
  match c, hc with
  | [v], _ =>
    refine ⟨ad, v, hA, ?_, ?_⟩
    · have := hcell 0 v rfl
      rw [h1] at this
      simpa using this
    · have e : xs.getD (i : Int).toNat (xs[i]'hi') = xs[i]'hi' := by simp [List.getD_eq_getElem?_getD, List.getElem?_eq_getElem hi']
      rwa [e] at hK
/-- The place of the first hit from i on, or -1. -/
def idxK {α : Type} (p : α → Bool) : List α → Nat → Int
  | [], _ => -1
  | x :: r, i => if p x then (i : Int) else idxK p r (i + 1)
theorem idxK_ge {α : Type} (p : α → Bool) : ∀ (l : List α) (i : Nat), (0 ≤ idxK p l i) ↔ l.any p = true
  | [], i => by simp [idxK]
  | x :: r, i => by
    have ih := idxK_ge p r (i + 1)
    unfold idxK
    cases h : p x
    · simpa [h] using ih
    · simp [h]
theorem idxK_drop {α : Type} (p : α → Bool) (l : List α) (i : Nat) (h : i < l.length) : idxK p (l.drop i) i = if p l[i] then (i : Int) else idxK p (l.drop (i + 1)) (i + 1) := by
  rw [List.drop_eq_getElem_cons h]; rfl
theorem idxK_any {α : Type} (p : α → Bool) (l : List α) : decide (0 ≤ idxK p l 0) = l.any p := by
  have := idxK_ge p l 0
  rw [Bool.eq_iff_iff, decide_eq_true_iff]
  exact this
/-! ### impl_chosen: function 72 -/
-- EXTERNAL: by hand
def chosenTo (p : Int → Bool) : Nat → List Int
  | 0 => []
  | k + 1 => if p (k : Int) then chosenTo p k ++ [(k : Int)] else chosenTo p k
theorem chosenTo_le (p : Int → Bool) : ∀ k, (chosenTo p k).length ≤ k
  | 0 => Nat.le_refl _
  | k + 1 => by
    have := chosenTo_le p k
    unfold chosenTo
    split
    · simp; omega
    · omega
set_option maxHeartbeats 4000000 in
set_option maxRecDepth 100000 in
theorem impl_chosen.calls (g : Nat) (lb : Array Value) (q : Int → Prop) (p : Int → Bool) (eg : ∀ args w, (callFunc g args).run Try.prog w = .ok (.enter g args) w)
    (n : Int) (w : World) (hp : PredK Try.prog g lb (Kd.int .i64) q p w) (hq : ∀ x, 0 ≤ x → x < n → q x) (hn : n ≤ 17592186044416) :
    Calls Try.prog 72 #[.int .i64 n, .func (.func g) #[] lb] w fun e w' => ∃ v0_ : Value, e = .returned v0_ ∧ Kd.R (Kd.int .i64) 2 w' w.heap.size (fun _ => True) v0_ (chosenTo p n.toNat) ∧ Below w.heap.size w w' := by
  have HP := Aside0.mk hp
  have HQ := Aside0.mk hq
  have HB0 := Aside0.mk (Below.refl w.heap.size w)
  clear hp hq
  go_enter Try.func72, Try.ntmps72
  go_wp2_with (first | ((with_reducible refine gate_dst (N := 7) rfl ?_); refine Kd.R_lit (Kd.int .i64) _ 2 ?hg (N := 7) ?hd (xs := ([] : List Int)) (inner := []) (ok := fun _ => True) (okp := fun _ => True) ?hr ?hp (fun _ hk => hk) trivial (Below.refl _ _) (Nat.le_refl _) (by simp) ?_; (case hd => rfl); (case hg => rfl); (case hr => first | (go_simp; done) | (go_simp; rfl)); (case hp => exact (Reps.none _ _)); intro v0 w0 ho hb hg_ hnew_; have HO0 := Aside0.mk ho; have HBl := Aside0.mk hb; clear hg_ hnew_ ho hb))
  go_loopg [5, 9] n.toNat (fun gg s5 s9 wr => ∃ kk : Nat, (kk : Int) ≤ max n 0 ∧ n.toNat - kk ≤ gg ∧ s9 = .int .i64 kk ∧ Aside0 (Kd.R (Kd.int .i64) 2 wr w.heap.size (fun _ => True) s5 (chosenTo p kk)) ∧ Aside0 (Below w.heap.size w wr))
  case atStart => exact ⟨0, by omega, by omega, rfl, ⟨HO0.out⟩, ⟨HBl.out⟩⟩
  case round =>
    obtain ⟨kk, hkk, hg, rfl, HO, HB⟩ := hrel
    clear HO0 HBl
    by_cases hlt : (kk : Int) < n
    · have hcall := HP.out wr kk (.int .i64 kk) (HQ.out _ (by omega) hlt) rfl HB.out
      have HL := Aside0.mk (chosenTo_le p kk)
      have hs : chosenTo p (kk + 1) = if p kk then chosenTo p kk ++ [(kk : Int)] else chosenTo p kk := rfl
      generalize p kk = b at hcall hs
      generalize chosenTo p kk = xs at HO HL hs
      have HS := Aside0.mk hs
      clear hs
      cases b with
      | true =>
        go_wp2_with (first | (go_at_fn g; refine hcall.mono ?_; rintro e w1 ⟨rfl, hb⟩; have HO1 := Aside0.mk (Kd.R_below HO.out hb); have HB1 := Aside0.mk (below_step HB.out hb); clear hb) | ((with_reducible refine gate_builtin (b := .append) (xs := #[.tmp 15, .tmp 17]) rfl ?_); at_builtin; refine Kd.R_append (Kd.int .i64) (w0 := w) w.heap.size rfl (.tmp 15) (.tmp 17) 22 2 (.int .i64 0) 8 rfl Try.underlying22 info2 rfl (by decide) (by omega) u5 xs (kk : Int) [.int .i64 kk] (fun _ => True) (fun _ => False) rfl rfl ?aP (fun _ hk => hk.elim) ?aF ?aO ?aB ?aS ?aL ?_; (case aP => exact rfl); (case aF => exact (fun _ _ => trivial)); (case aO => exact HO1.out); (case aB => exact HB1.out); (case aS => exact below_size HB1.out); (case aL => have := HL.out; omega); intro v2 w2 ho hb hg hat; have HO2 := Aside0.mk ho; have HB2 := Aside0.mk hb; clear ho hb hg hat))
        go_roundg (n.toNat - (kk + 1))
        case measure => omega
        case rel => exact ⟨kk + 1, by omega, by omega, by go_num, ⟨by rw [HS.out]; exact HO2.out⟩, ⟨HB2.out⟩⟩
      | false =>
        go_wp2_with (go_at_fn g; refine hcall.mono ?_; rintro e w1 ⟨rfl, hb⟩; have HO1 := Aside0.mk (Kd.R_below HO.out hb); have HB1 := Aside0.mk (below_step HB.out hb); clear hb)
        go_roundg (n.toNat - (kk + 1))
        case measure => omega
        case rel => exact ⟨kk + 1, by omega, by omega, by go_num, ⟨by rw [HS.out]; exact HO1.out⟩, ⟨HB1.out⟩⟩
    · have : kk = n.toNat := by omega
      subst this
      go_wp2
      go_ret
      exact ⟨_, rfl, HO.out, HB.out⟩
-- Rising lists; the chosen numbers as one.
/-- Rising from a number on. -/
def Asc : Int → List Int → Prop
  | _, [] => True
  | lo, a :: r => lo ≤ a ∧ Asc (a + 1) r
theorem asc_le : ∀ (l : List Int) (lo : Int), Asc lo l → ∀ z ∈ l, lo ≤ z
  | [], _, _, _, h => by cases h
  | a :: r, lo, h, z, hz => by
    rcases List.mem_cons.1 hz with rfl | hz
    · exact h.1
    · have := asc_le r _ h.2 z hz
      have := h.1
      omega
theorem asc_ext : ∀ (x y : List Int) (lo : Int), Asc lo x → Asc lo y → (∀ z, z ∈ x ↔ z ∈ y) → x = y
  | [], [], _, _, _, _ => rfl
  | [], b :: y, _, _, _, h => by have := (h b).2 (by simp); cases this
  | a :: x, [], _, _, _, h => by have := (h a).1 (by simp); cases this
  | a :: x, b :: y, lo, hx, hy, h => by
    have e : a = b := by
      have h1 := (h a).1 (by simp)
      have h2 := (h b).2 (by simp)
      rcases List.mem_cons.1 h1 with h1 | h1
      · exact h1
      · rcases List.mem_cons.1 h2 with h2 | h2
        · exact h2.symm
        · have := asc_le y _ hy.2 a h1
          have := asc_le x _ hx.2 b h2
          omega
    subst e
    rw [asc_ext x y (a + 1) hx.2 hy.2 (fun z => ?_)]
    have hz := h z
    constructor
    · intro hm
      have := asc_le x _ hx.2 z hm
      rcases List.mem_cons.1 (hz.1 (List.mem_cons_of_mem _ hm)) with e | e
      · omega
      · exact e
    · intro hm
      have := asc_le y _ hy.2 z hm
      rcases List.mem_cons.1 (hz.2 (List.mem_cons_of_mem _ hm)) with e | e
      · omega
      · exact e
theorem asc_snoc : ∀ (l : List Int) (lo b : Int), Asc lo l → (∀ z ∈ l, z < b) → lo ≤ b → Asc lo (l ++ [b])
  | [], _, _, _, _, h => ⟨h, trivial⟩
  | a :: r, lo, b, h, hz, hb => ⟨h.1, asc_snoc r _ b h.2 (fun z hm => hz z (List.mem_cons_of_mem _ hm)) (by have := hz a (by simp); omega)⟩
theorem chosen_iff (p : Int → Bool) : ∀ (k : Nat) (x : Int), x ∈ chosenTo p k ↔ 0 ≤ x ∧ x < k ∧ p x = true
  | 0, x => by simp [chosenTo]; omega
  | k + 1, x => by
    have hs : chosenTo p (k + 1) = if p k then chosenTo p k ++ [(k : Int)] else chosenTo p k := rfl
    rw [hs]
    have ih := chosen_iff p k x
    by_cases hp : p (k : Int) = true
    · rw [if_pos hp, List.mem_append, ih]
      constructor
      · rintro (h | h)
        · exact ⟨h.1, by omega, h.2.2⟩
        · rw [List.mem_singleton] at h; subst h; exact ⟨by omega, by omega, hp⟩
      · rintro ⟨h1, h2, h3⟩
        by_cases e : x = k
        · exact .inr (by rw [e]; simp)
        · exact .inl ⟨h1, by omega, h3⟩
    · rw [if_neg hp, ih]
      constructor
      · rintro ⟨h1, h2, h3⟩; exact ⟨h1, by omega, h3⟩
      · rintro ⟨h1, h2, h3⟩
        by_cases e : x = k
        · rw [e] at h3; exact absurd h3 hp
        · exact ⟨h1, by omega, h3⟩
-- Sorted lists without repetition: what slices.Sort and slices.Compact leave.
open Go.Lib in
theorem compactTo_asc (d : Array Int) (lo : Int) (hs : ∀ i j, i ≤ j → j < d.size → d[i]! ≤ d[j]!) (hlo : ∀ i, i < d.size → lo ≤ d[i]!) :
    ∀ m, m ≤ d.size → Asc lo (compactUpTo d m) ∧ (∀ z, z ∈ compactUpTo d m ↔ ∃ i, i < m ∧ d[i]! = z)
  | 0, _ => ⟨by simp [compactUpTo, Asc], fun z => by simp [compactUpTo]⟩
  | m + 1, hm => by
    obtain ⟨ha, hz⟩ := compactTo_asc d lo hs hlo m (by omega)
    rw [compactUpTo_succ]
    by_cases hk : keeps d m = true
    · rw [if_pos hk]
      constructor
      · refine asc_snoc _ _ _ ha (fun z hzz => ?_) (hlo m (by omega))
        obtain ⟨i, hi, rfl⟩ := (hz z).1 hzz
        have h1 := hs i (m - 1) (by omega) (by omega)
        have h2 := hs (m - 1) m (by omega) (by omega)
        have h3 : d[m]! ≠ d[m - 1]! := by
          simp only [keeps, decide_eq_true_eq] at hk
          rcases hk with h | h
          · omega
          · exact h
        omega
      · intro z
        rw [List.mem_append, hz, List.mem_singleton]
        constructor
        · rintro (⟨i, hi, h⟩ | rfl)
          · exact ⟨i, by omega, h⟩
          · exact ⟨m, by omega, rfl⟩
        · rintro ⟨i, hi, rfl⟩
          by_cases h : i = m
          · subst h; exact .inr rfl
          · exact .inl ⟨i, by omega, rfl⟩
    · rw [if_neg hk, List.append_nil]
      refine ⟨ha, fun z => ?_⟩
      rw [hz]
      simp only [keeps, decide_eq_true_eq, not_or, Decidable.not_not] at hk
      constructor
      · rintro ⟨i, hi, h⟩; exact ⟨i, by omega, h⟩
      · rintro ⟨i, hi, rfl⟩
        by_cases h : i = m
        · subst h; exact ⟨i - 1, by omega, hk.2.symm⟩
        · exact ⟨i, by omega, rfl⟩
/-- Sorted, and each once. -/
def ascOf (xs : List Int) : List Int := Go.Lib.compact (xs.mergeSort fun x y => decide (x ≤ y))
open Go.Lib in
theorem ascOf_asc (xs : List Int) (lo : Int) (hlo : ∀ z ∈ xs, lo ≤ z) : Asc lo (ascOf xs) ∧ ∀ z, z ∈ ascOf xs ↔ z ∈ xs := by
  have hp : (xs.mergeSort fun x y => decide (x ≤ y)).Perm xs := List.mergeSort_perm _ _
  have hsrt : (xs.mergeSort fun x y => decide (x ≤ y)).Pairwise (fun a b => decide (a ≤ b) = true) := List.pairwise_mergeSort (fun a b c h1 h2 => by simp at *; omega) (fun a b => by simp; omega) xs
  unfold ascOf compact
  generalize xs.mergeSort (fun x y => decide (x ≤ y)) = zs at hp hsrt
  have hget : ∀ i, (h : i < zs.length) → zs.toArray[i]! = zs[i] := fun i h => by rw [getElem!_pos _ _ (by simpa using h)]; simp
  have := compactTo_asc zs.toArray lo (fun i j hij hj => by
      have hj' : j < zs.length := by simpa using hj
      rw [hget i (by omega), hget j hj']
      by_cases h : i = j
      · subst h; exact Int.le_refl _
      · have := List.pairwise_iff_getElem.1 hsrt i j (by omega) hj' (by omega)
        simpa using this)
    (fun i hi => by
      have hi' : i < zs.length := by simpa using hi
      rw [hget i hi']
      exact hlo _ (hp.mem_iff.1 (List.getElem_mem _))) zs.length (by simp)
  refine ⟨this.1, fun z => ?_⟩
  rw [this.2, ← hp.mem_iff, List.mem_iff_getElem]
  constructor
  · rintro ⟨i, hi, rfl⟩; exact ⟨i, hi, (hget i hi).symm⟩
  · rintro ⟨i, hi, rfl⟩; exact ⟨i, hi, hget i hi⟩
-- Placements of ships, as sets of cells.
theorem pow60_le : 2 ^ 60 ≤ 9223372036854775808 := by simp
theorem wrap_small {z : Int} (h0 : -1000000000 ≤ z) (h1 : z ≤ 1000000000) : wrap64 z = z := by unfold wrap64; omega
theorem wrap_num {n : Nat} (h : n < 9223372036854775808) : wrap64 (n : Int) = (n : Int) := by unfold wrap64; omega
theorem wrap_add {a b : Nat} (ha : a ≤ 1000) (hb : b ≤ 1000) : wrap64 ((a : Int) + (b : Int)) = ((a + b : Nat) : Int) := by unfold wrap64; omega
theorem wrap_one {a : Nat} (ha : a ≤ 1000) : wrap64 ((a : Int) + 1) = ((a + 1 : Nat) : Int) := by unfold wrap64; omega
theorem wrap_mul {a b c : Nat} (h : a * b = c) (hc : c ≤ 1000) : wrap64 ((a : Int) * (b : Int)) = (c : Int) := by
  rw [← Int.natCast_mul, h]; exact wrap_num (by omega)
theorem wrap_pow {q : Nat} (h : q < 60) : wrap64 ((2 : Int) ^ min q 64) = ((2 ^ q : Nat) : Int) := by
  rw [Nat.min_eq_left (by omega), show (2 : Int) ^ q = ((2 ^ q : Nat) : Int) by rw [Int.natCast_pow]; rfl]
  exact wrap_num (Nat.lt_of_lt_of_le (Nat.pow_lt_pow_right (by omega) h) pow60_le)
/-- The cells c, c + s, .. (n of them), as a set. -/
def rowN (c s : Nat) : Nat → Nat
  | 0 => 0
  | n + 1 => rowN c s n ||| 2 ^ (c + n * s)
theorem rowN_bit (c s : Nat) : ∀ n j, (rowN c s n).testBit j = true ↔ ∃ i, i < n ∧ j = c + i * s
  | 0, j => by simp [rowN]
  | n + 1, j => by
    unfold rowN
    rw [Nat.testBit_or, Bool.or_eq_true, rowN_bit c s n j, Nat.testBit_two_pow]
    simp only [decide_eq_true_eq]
    constructor
    · rintro (⟨i, h, e⟩ | e)
      · exact ⟨i, by omega, e⟩
      · exact ⟨n, by omega, e.symm⟩
    · rintro ⟨i, h, e⟩
      by_cases hi : i = n
      · subst hi; exact .inr e.symm
      · exact .inl ⟨i, by omega, e⟩
theorem rowN_lt (c s n b : Nat) (h : ∀ i, i < n → c + i * s < b) : rowN c s n < 2 ^ b := by
  refine Nat.lt_pow_two_of_testBit _ fun j hj => ?_
  cases hb : (rowN c s n).testBit j with
  | false => rfl
  | true =>
    obtain ⟨i, hi, e⟩ := (rowN_bit c s n j).1 hb
    have := h i hi
    omega
theorem rowN_pos (c s n : Nat) (h : 0 < n) : 0 < rowN c s n := by
  have : (rowN c s n).testBit c = true := (rowN_bit c s n c).2 ⟨0, h, by omega⟩
  rcases Nat.eq_zero_or_pos (rowN c s n) with e | e
  · rw [e] at this; simp at this
  · exact e
/-- Of the two directions the first ones: whether the ship fits, its cells. -/
def placeOk (w h n c j : Nat) : Bool := if j = 0 then decide (c % w + n ≤ w) else decide (c / w + n ≤ h)
def placeSet (w n c j : Nat) : Int := ((rowN c (if j = 0 then 1 else w) n : Nat) : Int)
def placeFew (w h n c : Nat) : Nat → List Int
  | 0 => []
  | j + 1 => if placeOk w h n c j then placeFew w h n c j ++ [placeSet w n c j] else placeFew w h n c j
theorem placeFew_len (w h n c : Nat) : ∀ j, (placeFew w h n c j).length ≤ j
  | 0 => Nat.le_refl _
  | j + 1 => by
    have := placeFew_len w h n c j
    unfold placeFew
    split
    · simp; omega
    · omega
/-- The placements that begin at a cell; all before a cell. -/
def placeAt (w h n c : Nat) : List Int := (if c % w + n ≤ w then [(rowN c 1 n : Int)] else []) ++ (if c / w + n ≤ h then [(rowN c w n : Int)] else [])
def placeTo (w h n : Nat) : Nat → List Int
  | 0 => []
  | k + 1 => placeTo w h n k ++ placeAt w h n k
theorem placeFew_two (w h n c : Nat) : placeFew w h n c 2 = placeAt w h n c := by
  unfold placeAt placeFew placeFew placeFew placeOk placeSet
  by_cases h1 : c % w + n ≤ w <;> by_cases h2 : c / w + n ≤ h <;> simp [h1, h2]
theorem place_small_ {w h : Nat} (hw : w ≤ 5) (hh : h ≤ 5) : w * h ≤ 25 := by
  have := Nat.mul_le_mul hw hh
  omega
theorem placeAt_num {w h n c : Nat} (hw : 1 ≤ w) (hw5 : w ≤ 5) (hh : h ≤ 5) (hn : 1 ≤ n) (hc : c < w * h) : ∀ z ∈ placeAt w h n c, ∃ m : Nat, z = (m : Int) ∧ 0 < m ∧ m < 33554432 := by
  intro z hz
  unfold placeAt at hz
  have hdm := Nat.div_add_mod c w
  have hml := Nat.mod_lt c (show 0 < w by omega)
  have hdh : c / w < h := Nat.div_lt_of_lt_mul hc
  generalize c / w = y at *
  generalize c % w = x at *
  have hwy : w * (y + 1) ≤ w * h := Nat.mul_le_mul_left w hdh
  have hwh : w * h ≤ 25 := by
    have := Nat.mul_le_mul hw5 hh
    omega
  rw [Nat.mul_add, Nat.mul_one] at hwy
  rcases List.mem_append.1 hz with hz | hz
  · split at hz
    · rw [List.mem_singleton] at hz
      subst hz
      refine ⟨_, rfl, rowN_pos _ _ _ hn, rowN_lt c 1 n 25 fun i hi => ?_⟩
      omega
    · cases hz
  · split at hz
    · rw [List.mem_singleton] at hz
      subst hz
      refine ⟨_, rfl, rowN_pos _ _ _ hn, rowN_lt c w n 25 fun i hi => ?_⟩
      rename_i hyn
      have h1 : w * (y + i + 1) ≤ w * h := Nat.mul_le_mul_left w (by omega)
      rw [Nat.mul_add, Nat.mul_add, Nat.mul_one, Nat.mul_comm w i] at h1
      omega
    · cases hz
theorem placeTo_num {w h n : Nat} (hw : 1 ≤ w) (hw5 : w ≤ 5) (hh : h ≤ 5) (hn : 1 ≤ n) : ∀ k, k ≤ w * h → ∀ z ∈ placeTo w h n k, ∃ m : Nat, z = (m : Int) ∧ 0 < m ∧ m < 33554432
  | 0, _, z, hz => by cases hz
  | k + 1, hk, z, hz => by
    rcases List.mem_append.1 hz with hz | hz
    · exact placeTo_num hw hw5 hh hn k (by omega) z hz
    · exact placeAt_num hw hw5 hh hn (by omega) z hz
theorem placeAt_len (w h n c : Nat) : (placeAt w h n c).length ≤ 2 := by
  unfold placeAt
  split <;> split <;> simp
theorem placeTo_len (w h n : Nat) : ∀ k, (placeTo w h n k).length ≤ 2 * k
  | 0 => by simp [placeTo]
  | k + 1 => by
    have := placeTo_len w h n k
    have := placeAt_len w h n k
    simp only [placeTo, List.length_append]
    omega
/-- All placements of a length, ascending. -/
def placesOf (w h n : Nat) : List Int := ascOf (placeTo w h n (w * h))
theorem placesOf_asc {w h n : Nat} (hw : 1 ≤ w) (hw5 : w ≤ 5) (hh : h ≤ 5) (hn : 1 ≤ n) : Asc 0 (placesOf w h n) ∧ ∀ z, z ∈ placesOf w h n ↔ z ∈ placeTo w h n (w * h) :=
  ascOf_asc _ 0 (fun z hz => by obtain ⟨m, e, _⟩ := placeTo_num hw hw5 hh hn _ (Nat.le_refl _) z hz; omega)
theorem placesOf_num {w h n : Nat} (hw : 1 ≤ w) (hw5 : w ≤ 5) (hh : h ≤ 5) (hn : 1 ≤ n) : ∀ z ∈ placesOf w h n, ∃ m : Nat, z = (m : Int) ∧ 0 < m ∧ m < 33554432 :=
  fun z hz => placeTo_num hw hw5 hh hn _ (Nat.le_refl _) z (((placesOf_asc hw hw5 hh hn).2 z).1 hz)
def dirA (j : Nat) : Int := if j = 0 then 1 else 0
def dirB (j : Nat) : Int := if j = 0 then 0 else 1
theorem place_dir {wn hn nn x y kk j : Nat} (hw : 1 ≤ wn ∧ wn ≤ 5 ∧ 1 ≤ hn ∧ hn ≤ 5 ∧ 1 ≤ nn ∧ nn ≤ 5) (hxl : x < wn) (hyl : y < hn) (hx : kk % wn = x) (hy : kk / wn = y) (hj : j < 2) :
    ∃ (eA eB sB fA fB : Int) (st : Nat) (bA bB : Bool), wrap64 (((nn - 1 : Nat) : Int) * dirA j) = eA ∧ wrap64 (((nn - 1 : Nat) : Int) * dirB j) = eB ∧ wrap64 (dirB j * (wn : Int)) = sB ∧ wrap64 (dirA j + sB) = (st : Int) ∧ st = (if j = 0 then 1 else wn) ∧ wrap64 ((x : Int) + eA) = fA ∧ wrap64 ((y : Int) + eB) = fB ∧ decide ((wn : Int) ≤ fA) = bA ∧ decide ((hn : Int) ≤ fB) = bB ∧ placeOk wn hn nn kk j = (!bA && !bB) := by
  obtain ⟨m, hm⟩ : ∃ m, nn - 1 = m := ⟨_, rfl⟩
  rw [hm]
  have h01 : j = 0 ∨ j = 1 := by omega
  rcases h01 with rfl | rfl
  · refine ⟨m, 0, 0, ((x + m : Nat) : Int), y, 1, _, _, ?_, ?_, ?_, ?_, rfl, ?_, ?_, rfl, rfl, ?_⟩
    · show wrap64 ((m : Int) * 1) = _
      rw [Int.mul_one]; exact wrap_small (by omega) (by omega)
    · show wrap64 ((m : Int) * 0) = _
      rw [Int.mul_zero]; exact wrap_small (by omega) (by omega)
    · show wrap64 (0 * (wn : Int)) = _
      rw [Int.zero_mul]; exact wrap_small (by omega) (by omega)
    · exact wrap_small (z := 1) (by omega) (by omega)
    · exact wrap_add (by omega) (by omega)
    · rw [Int.add_zero]; exact wrap_small (by omega) (by omega)
    · unfold placeOk
      rw [if_pos rfl, hx]
      have h1 : decide ((hn : Int) ≤ (y : Int)) = false := decide_eq_false (by omega)
      rw [h1]
      by_cases hq : x + nn ≤ wn
      · rw [decide_eq_true hq, decide_eq_false (by omega)]; rfl
      · rw [decide_eq_false hq, decide_eq_true (by omega)]; rfl
  · refine ⟨0, m, wn, x, ((y + m : Nat) : Int), wn, _, _, ?_, ?_, ?_, ?_, rfl, ?_, ?_, rfl, rfl, ?_⟩
    · show wrap64 ((m : Int) * 0) = _
      rw [Int.mul_zero]; exact wrap_small (by omega) (by omega)
    · show wrap64 ((m : Int) * 1) = _
      rw [Int.mul_one]; exact wrap_small (by omega) (by omega)
    · show wrap64 (1 * (wn : Int)) = _
      rw [Int.one_mul]; exact wrap_small (by omega) (by omega)
    · show wrap64 (0 + (wn : Int)) = _
      rw [Int.zero_add]; exact wrap_small (by omega) (by omega)
    · rw [Int.add_zero]; exact wrap_small (by omega) (by omega)
    · exact wrap_add (by omega) (by omega)
    · unfold placeOk
      rw [if_neg (by omega), hy]
      have h1 : decide ((wn : Int) ≤ (x : Int)) = false := decide_eq_false (by omega)
      rw [h1]
      by_cases hq : y + nn ≤ hn
      · rw [decide_eq_true hq, decide_eq_false (by omega)]; rfl
      · rw [decide_eq_false hq, decide_eq_true (by omega)]; rfl
theorem place_bits {kk st i : Nat} (h : ∀ a, a < i + 1 → kk + a * st < 60) : ∃ (pp qq ee : Nat), wrap64 ((i : Int) * (st : Int)) = (pp : Int) ∧ wrap64 ((kk : Int) + (pp : Int)) = (qq : Int) ∧ shl .i64 1 (qq : Int) = (ee : Int) ∧ wrap64 ((2 : Int) ^ min qq 64) = (ee : Int) ∧ Go.bits .or .i64 ((rowN kk st i : Nat) : Int) (ee : Int) = ((rowN kk st (i + 1) : Nat) : Int) ∧ (0 : Int) ≤ (qq : Int) ∧ ¬ (qq : Int) < 0 := by
  have hi := h i (Nat.lt_succ_self i)
  obtain ⟨pp, hpp⟩ : ∃ pp : Nat, i * st = pp := ⟨_, rfl⟩
  rw [hpp] at hi
  have hr : rowN kk st i < 9223372036854775808 := Nat.lt_of_lt_of_le (rowN_lt kk st i 60 (fun a ha => h a (by omega))) pow60_le
  have he : 2 ^ (kk + pp) < 9223372036854775808 := Nat.lt_of_lt_of_le (Nat.pow_lt_pow_right (by omega) hi) pow60_le
  refine ⟨pp, kk + pp, 2 ^ (kk + pp), wrap_mul hpp (by omega), wrap_add (by omega) (by omega), shl_nat _ (by omega), wrap_pow hi, ?_, by omega, by omega⟩
  rw [bits_or_nat _ _ hr he]
  show _ = ((rowN kk st i ||| 2 ^ (kk + i * st) : Nat) : Int)
  rw [hpp]
theorem place_reach {wn hn nn N kk st j : Nat} (hw : 1 ≤ wn ∧ wn ≤ 5 ∧ 1 ≤ hn ∧ hn ≤ 5 ∧ 1 ≤ nn ∧ nn ≤ 5) (hm : N ≤ 25) (hk : kk ≤ N) (hs : st = (if j = 0 then 1 else wn)) : ∀ i, i < nn → kk + i * st < 60 := by
  intro i hi
  have h3 : st ≤ 5 := by rw [hs]; split <;> omega
  have h4 : i * st ≤ 4 * 5 := Nat.mul_le_mul (by omega) h3
  omega
theorem place_room {wn hn nn N kk j : Nat} (hm : N ≤ 25) (hk : kk ≤ N) (hj : j ≤ 2) : ((placeTo wn hn nn kk ++ placeFew wn hn nn kk j).length + 1) * 8 ≤ 140737488355328 := by
  have h1 := placeTo_len wn hn nn kk
  have h2 := placeFew_len wn hn nn kk j
  rw [List.length_append]
  omega
def Try.sortI_ren : Go.Shelf.Ren := ⟨fun | 53 => 100 | 64 => 118 | 63 => 117 | 78 => 137 | 79 => 138 | 70 => 128 | 71 => 129 | 72 => 130 | 73 => 131 | 74 => 132 | 75 => 133 | 59 => 134 | 76 => 135 | 77 => 136 | 88 => 143 | 89 => 144 | 90 => 145 | 91 => 146 | 92 => 147 | 68 => 148 | 96 => 150 | n => n, fun | 22 => 22 | 23 => 2 | 3 => 3 | 51 => 123 | 0 => 0 | 67 => 143 | 69 => 83 | 4 => 4 | 61 => 135 | 60 => 134 | 44 => 140 | 5 => 5 | 9 => 9 | 75 => 148 | 79 => 152 | 83 => 155 | 84 => 156 | n => n, fun | n => n⟩
theorem Try.sortI : Go.Proofs.SlLaysN.n53 Try.prog Try.sortI_ren := {
  mixed := by kernel_rfl
  f53 := ⟨Try.f100.name, by decide, Try.func100.trans (congrArg some (by kernel_rfl))⟩
  f59 := ⟨Try.f134.name, by decide, Try.func134.trans (congrArg some (by kernel_rfl))⟩
  f63 := ⟨Try.f117.name, by decide, Try.func117.trans (congrArg some (by kernel_rfl))⟩
  f64 := Try.func118.trans (congrArg some (by kernel_rfl))
  f68 := ⟨Try.f148.name, by decide, Try.func148.trans (congrArg some (by kernel_rfl))⟩
  f70 := ⟨Try.f128.name, by decide, Try.func128.trans (congrArg some (by kernel_rfl))⟩
  f71 := ⟨Try.f129.name, by decide, Try.func129.trans (congrArg some (by kernel_rfl))⟩
  f72 := ⟨Try.f130.name, by decide, Try.func130.trans (congrArg some (by kernel_rfl))⟩
  f73 := ⟨Try.f131.name, by decide, Try.func131.trans (congrArg some (by kernel_rfl))⟩
  f74 := ⟨Try.f132.name, by decide, Try.func132.trans (congrArg some (by kernel_rfl))⟩
  f75 := ⟨Try.f133.name, by decide, Try.func133.trans (congrArg some (by kernel_rfl))⟩
  f76 := ⟨Try.f135.name, by decide, Try.func135.trans (congrArg some (by kernel_rfl))⟩
  f77 := ⟨Try.f136.name, by decide, Try.func136.trans (congrArg some (by kernel_rfl))⟩
  f78 := Try.func137.trans (congrArg some (by kernel_rfl))
  f79 := Try.func138.trans (congrArg some (by kernel_rfl))
  f88 := ⟨Try.f143.name, by decide, Try.func143.trans (congrArg some (by kernel_rfl))⟩
  f89 := Try.func144.trans (congrArg some (by kernel_rfl))
  f90 := Try.func145.trans (congrArg some (by kernel_rfl))
  f91 := ⟨Try.f146.name, by decide, Try.func146.trans (congrArg some (by kernel_rfl))⟩
  f92 := ⟨Try.f147.name, by decide, Try.func147.trans (congrArg some (by kernel_rfl))⟩
  f96 := ⟨Try.f150.name, by decide, Try.func150.trans (congrArg some (by kernel_rfl))⟩
  t0 := Try.underlying0
  a0 := Try.isAgg0
  z0 := Try.sizeOf0
  v0 := Try.zeroValue0
  t3 := Try.underlying3
  a3 := Try.isAgg3
  z3 := Try.sizeOf3
  v3 := Try.zeroValue3
  t4 := Try.underlying4
  a4 := Try.isAgg4
  z4 := Try.sizeOf4
  v4 := Try.zeroValue4
  t5 := Try.underlying5
  a5 := Try.isAgg5
  z5 := Try.sizeOf5
  v5 := Try.zeroValue5
  t9 := Try.underlying9
  a9 := Try.isAgg9
  z9 := Try.sizeOf9
  v9 := Try.zeroValue9
  t22 := Try.underlying22
  a22 := Try.isAgg22
  z22 := Try.sizeOf22
  v22 := Try.zeroValue22
  t23 := Try.underlying2
  a23 := Try.isAgg2
  z23 := Try.sizeOf2
  v23 := Try.zeroValue2
  t44 := Try.underlying140
  a44 := Try.isAgg140
  z44 := Try.sizeOf140
  v44 := Try.zeroValue140
  t51 := Try.underlying123
  a51 := Try.isAgg123
  z51 := Try.sizeOf123
  v51 := Try.zeroValue123
  t60 := Try.underlying134
  a60 := Try.isAgg134
  z60 := Try.sizeOf134
  v60 := Try.zeroValue134
  t61 := Try.underlying135
  a61 := Try.isAgg135
  z61 := Try.sizeOf135
  v61 := Try.zeroValue135
  t67 := Try.underlying143
  a67 := Try.isAgg143
  z67 := Try.sizeOf143
  v67 := Try.zeroValue143
  t69 := Try.underlying83
  a69 := Try.isAgg83
  z69 := Try.sizeOf83
  v69 := Try.zeroValue83
  t75 := Try.underlying148
  a75 := Try.isAgg148
  z75 := Try.sizeOf148
  v75 := Try.zeroValue148
  t79 := Try.underlying152
  a79 := Try.isAgg152
  z79 := Try.sizeOf152
  v79 := Try.zeroValue152
  t83 := Try.underlying155
  a83 := Try.isAgg155
  z83 := Try.sizeOf155
  v83 := Try.zeroValue155
  t84 := Try.underlying156
  a84 := Try.isAgg156
  z84 := Try.sizeOf156
  v84 := Try.zeroValue156 }
def Try.compactI_ren : Go.Shelf.Ren := ⟨fun | 43 => 101 | n => n, fun | 22 => 22 | 23 => 2 | 3 => 3 | 4 => 4 | 0 => 0 | n => n, fun | n => n⟩
theorem Try.compactI : Go.Proofs.SlLaysN.n43 Try.prog Try.compactI_ren := {
  mixed := by kernel_rfl
  f43 := ⟨Try.f101.name, by decide, Try.func101.trans (congrArg some (by kernel_rfl))⟩
  t0 := Try.underlying0
  a0 := Try.isAgg0
  z0 := Try.sizeOf0
  v0 := Try.zeroValue0
  t3 := Try.underlying3
  a3 := Try.isAgg3
  z3 := Try.sizeOf3
  v3 := Try.zeroValue3
  t4 := Try.underlying4
  a4 := Try.isAgg4
  z4 := Try.sizeOf4
  v4 := Try.zeroValue4
  t22 := Try.underlying22
  a22 := Try.isAgg22
  z22 := Try.sizeOf22
  v22 := Try.zeroValue22
  t23 := Try.underlying2
  a23 := Try.isAgg2
  z23 := Try.sizeOf2
  v23 := Try.zeroValue2
  i23 := by kernel_rfl }
-- slices.Sort, slices.Compact over a row of the call's own, by the shelf's contracts.
theorem own_none {t : TypeId} {w : World} {base : Nat} {ok : Nat → Prop} {xs : List Int} (h : Kd.R (Kd.int .i64) t w base ok (.slice none 0 0) xs) : xs = [] := by
  have := (Kd.R_reads' h).1
  exact List.eq_nil_of_length_eq_zero this.symm
theorem sort_own {w0 w : World} {ok : Nat → Prop} {v : Value} {xs : List Int} (ho : Kd.R (Kd.int .i64) 2 w w0.heap.size ok v xs) (hb : Below w0.heap.size w0 w) (hl : xs.length < 4611686018427387904) :
    Calls Try.prog 100 #[v] w fun e w' => e = .returned (.tuple #[]) ∧ Kd.R (Kd.int .i64) 2 w' w0.heap.size ok v (xs.mergeSort fun x y => decide (x ≤ y)) ∧ Below w0.heap.size w0 w' := by
  by_cases hv : v = .slice none 0 0
  · subst hv
    obtain rfl := own_none ho
    refine (AnyG.slices_Sort_int_none Try.sortI none 0 w).mono ?_
    rintro e w' ⟨rfl, rfl⟩
    exact ⟨rfl, by rw [List.mergeSort_nil]; exact ho, hb⟩
  · have hown := Kd.own_of_R ho
    obtain ⟨g, cap, rfl, hbg, hgl, hnc, hcm, hz, hH⟩ := Go.Lib.holds_of_ownsRow (enc := Value.int .i64) hown hv
    refine (AnyG.slices_Sort_int Try.sortI g 0 cap xs w hH hgl hl).mono ?_
    rintro e w' ⟨rfl, n, os, rfl⟩
    have hlen : (xs.mergeSort fun x y => decide (x ≤ y)).length = xs.length := List.length_mergeSort _
    rcases hown.2 with ⟨e0, _⟩ | ⟨g', cap', cur, e0, hbg', hh, h1, h2, h3, h4⟩
    · cases e0
    injection e0 with e1 _ e3
    injection e1 with e1
    injection e1 with e1
    subst e1 e3
    refine ⟨rfl, Kd.R_of_own ?_ ?_, ?_⟩
    · have := ownsRow_sortedI (n := n) (os := os) hlen hbg hh h1 h2 h3
      rw [hlen]
      exact this
    · exact ho.1
    · have hp := Go.Lib.below_putRow (enc := Value.int .i64) (q := n) (d := (xs.mergeSort fun x y => decide (x ≤ y)).toArray) hb hbg
      refine ⟨hp.os, hp.tape, hp.output, Nat.le_trans hp.size (by simp [Go.Sort.grow]), fun k hk => ?_⟩
      rw [← hp.block k hk]
      exact Array.getElem?_append_left (Nat.lt_of_lt_of_le hk hp.size)
theorem compact_own {w0 w : World} {ok : Nat → Prop} {v : Value} {xs : List Int} (ho : Kd.R (Kd.int .i64) 2 w w0.heap.size ok v xs) (hb : Below w0.heap.size w0 w) (hl : xs.length ≤ 4611686018427387904) :
    Calls Try.prog 101 #[v] w fun e w' => ∃ v1, e = .returned v1 ∧ Kd.R (Kd.int .i64) 2 w' w0.heap.size ok v1 (Go.Lib.compact xs) ∧ Below w0.heap.size w0 w' := by
  by_cases hv : v = .slice none 0 0
  · subst hv
    obtain rfl := own_none ho
    refine (AnyG.slices_Compact_int_empty Try.compactI none 0 w).mono ?_
    rintro e w' ⟨rfl, rfl⟩
    exact ⟨_, rfl, ho, hb⟩
  · have hown := Kd.own_of_R ho
    obtain ⟨g, cap, rfl, hbg, hgl, hnc, hcm, hz, hH⟩ := Go.Lib.holds_of_ownsRow (enc := Value.int .i64) hown hv
    refine (AnyG.slices_Compact_int Try.compactI g 0 cap xs w hH (by omega) (by omega)).mono ?_
    rintro e w' ⟨rfl, q, rfl⟩
    have hle := Go.Lib.compact_length_le xs
    refine ⟨_, rfl, Kd.R_of_own ?_ ?_, ?_⟩
    · have := Go.Lib.ownsRow_putRow (q := q) (ys := Go.Lib.compact xs ++ List.replicate (xs.length - (Go.Lib.compact xs).length) 0) hown (by simp; omega) hle
      rw [List.take_left] at this
      exact this
    · exact ho.1
    · exact Go.Lib.below_putRow hb hbg
/-! ### impl_Sea_placements: function 61 -/
-- EXTERNAL: by hand
-- impl_Sea_cells
-- placesOf sort_own wrap_pow bits_or_nat
def impl_Sea_placements.f (a0_0 a0_1 : Int) (l0_2 : List Int) (a1 : Int) : Option (List Int) := if inW a0_0 1 5 = true ∧ inW a0_1 1 5 = true ∧ inW a1 1 5 = true then some (placesOf a0_0.toNat a0_1.toNat a1.toNat) else none
theorem inW_nat {a : Int} (h : inW a 1 5 = true) : ∃ n : Nat, a = (n : Int) ∧ 1 ≤ n ∧ n ≤ 5 := by
  unfold inW at h
  simp only [Bool.and_eq_true, decide_eq_true_eq] at h
  exact ⟨a.toNat, by omega, by omega, by omega⟩
theorem place_small {w h : Nat} (hw : w ≤ 5) (hh : h ≤ 5) : w * h ≤ 25 := by
  have := Nat.mul_le_mul hw hh
  omega
theorem place_rem (c w : Nat) : Int.tmod (c : Int) (w : Int) = ((c % w : Nat) : Int) := by rw [Int.ofNat_tmod]
theorem place_quo (c w : Nat) : Int.tdiv (c : Int) (w : Int) = ((c / w : Nat) : Int) := by rw [Int.ofNat_tdiv]
set_option maxHeartbeats 4000000 in
set_option maxRecDepth 100000 in
theorem impl_Sea_placements.calls (a0_0 a0_1 : Int) (A0_2 : Option Addr) (c0_2 : Nat) (l0_2 : List Int) (a1 : Int) (r : List Int) (w : World) (hr0_2 : Kd.C (Kd.int .i64) w A0_2 l0_2.length l0_2) (hc0_2 : l0_2.length ≤ c0_2) (h : impl_Sea_placements.f a0_0 a0_1 l0_2 a1 = some r) :
    Calls Try.prog 61 #[.agg #[.int .i64 a0_0, .int .i64 a0_1, .slice A0_2 l0_2.length c0_2], .int .i64 a1] w fun e w' => ∃ v0_ : Value, e = .returned v0_ ∧ Kd.R (Kd.int .i64) 2 w' w.heap.size (fun _ => True) v0_ r ∧ Below w.heap.size w w' := by
  unfold impl_Sea_placements.f at h
  split at h
  case isFalse => cases h
  rename_i hcond
  obtain rfl := Option.some.inj h
  clear h
  obtain ⟨wn, rfl, hw1, hw5⟩ := inW_nat hcond.1
  obtain ⟨hn, rfl, hh1, hh5⟩ := inW_nat hcond.2.1
  obtain ⟨nn, rfl, hn1, hn5⟩ := inW_nat hcond.2.2
  simp only [Int.toNat_natCast]
  clear hcond
  have HW := Aside0.mk (show 1 ≤ wn ∧ wn ≤ 5 ∧ 1 ≤ hn ∧ hn ≤ 5 ∧ 1 ≤ nn ∧ nn ≤ 5 from ⟨hw1, hw5, hh1, hh5, hn1, hn5⟩)
  have HM := Aside0.mk (place_small hw5 hh5)
  have hmul : wrap64 ((wn : Int) * (hn : Int)) = ((wn * hn : Nat) : Int) := by
    have h1 := place_small hw5 hh5
    rw [← Int.natCast_mul]
    exact wrap_small (by omega) (by omega)
  unfold placesOf
  obtain ⟨N, hN⟩ : ∃ N, wn * hn = N := ⟨_, rfl⟩
  rw [hN] at hmul HM ⊢
  have HMul := Aside0.mk hmul
  clear hmul
  have HNN := Aside0.mk hN
  clear hN
  have hne2 : ((wn : Int) = 0) = False := eq_false (by omega)
  have hne3 : (wn = 0) = False := eq_false (by omega)
  have HB := Aside0.mk (Below.refl w.heap.size w)
  have HR := Aside0.mk hr0_2
  have HC := Aside0.mk hc0_2
  have hu28 := Try.underlying28
  have hu106 := Try.underlying106
  have hcells : Try.prog.cellsOf 106 = 2 := by kernel_rfl
  have hne0 : ((wn : Int) == 0) = false := beq_eq_false_iff_ne.mpr (by omega)
  have hne1 : ((wn : Int) != 0) = true := bne_iff_ne.mpr (by omega)
  clear hr0_2 hc0_2
  clear hw1 hw5 hh1 hh5 hn1 hn5
  go_enter Try.func61, Try.ntmps61
  go_wp2_with (first | ((with_reducible refine gate_dst (N := 2) rfl ?_); refine box_event ?hg (N := 2) ?hd (cs := #[.int .i64 (wn : Int), .int .i64 (hn : Int), .slice A0_2 l0_2.length c0_2]) (t := 28) ?hr ?_; (case hd => rfl); (case hg => rfl); (case hr => first | (go_simp; done) | (go_simp; rfl)); intro g2 hg2 w1 hbox hb; have HX1 := Aside0.mk hbox; have HB1 := Aside0.mk (below_step HB.out hb); have HRR1 := Aside0.mk (Kd.C_below HR.out hb); have hs0 := (blk_cell hbox 0).trans rfl; have hs1 := (blk_cell hbox 1).trans rfl; have hs2 := (blk_cell hbox 2).trans rfl; clear hbox hb hg2) | ((with_reducible refine gate_dst (N := 13) rfl ?_); refine Kd.R_lit (Kd.int .i64) _ 2 ?hg (N := 13) ?hd (xs := ([] : List Int)) (inner := []) (ok := fun _ => True) (okp := fun _ => True) ?hr ?hp (fun _ hk => hk) trivial (Below.refl _ _) (Nat.le_refl _) (by simp) ?_; (case hd => rfl); (case hg => rfl); (case hr => first | (go_simp; done) | (go_simp; rfl)); (case hp => exact (Reps.none _ _)); intro v0 w2 ho hb hg_ hnew_; clear hg_ hnew_; have HO2 := Aside0.mk (Kd.R_lower ho (below_size HB1.out)); have HX2 := Aside0.mk (blk_below HX1.out hb); have HRR2 := Aside0.mk (Kd.C_below HRR1.out hb); have HB2 := Aside0.mk (below_step HB1.out hb); (try clear hs0 hs1 hs2); have hs0 := (blk_cell HX2.out 0).trans rfl; have hs1 := (blk_cell HX2.out 1).trans rfl; have hs2 := (blk_cell HX2.out 2).trans rfl; clear ho hb HX1 HRR1 HB1) | (go_at_call 73; refine (impl_Sea_cells.calls (wn : Int) (hn : Int) A0_2 c0_2 l0_2 _ _ HRR2.out HC.out rfl).mono ?_; rintro e w3 ⟨rfl, hb⟩; have HO3 := Aside0.mk (Kd.R_below HO2.out hb); have HX3 := Aside0.mk (blk_below HX2.out hb); have HB3 := Aside0.mk (below_step HB2.out hb); clear hs0 hs1 hs2 hb HO2 HX2 HRR2 HB2))
  (try rw [HMul.out])
  go_loopg [5, 16] (N) (fun gg s5 s16 wr => ∃ kk : Nat, kk ≤ N ∧ N - kk ≤ gg ∧ s16 = .int .i64 kk ∧ Aside0 (Kd.R (Kd.int .i64) 2 wr w.heap.size (fun _ => True) s5 (placeTo wn hn nn kk)) ∧ Aside0 (wr.heap[g2]? = some (.cells #[.int .i64 (wn : Int), .int .i64 (hn : Int), .slice A0_2 l0_2.length c0_2] 28 (0, 0))) ∧ Aside0 (Below w.heap.size w wr))
  case atStart => exact ⟨0, by omega, by omega, rfl, HO3, HX3, HB3⟩
  case round =>
    obtain ⟨kk, hkk, hgg, rfl, HO4, HX4, HB4⟩ := hrel
    clear HO3 HX3 HB3
    by_cases hlt : kk < N
    case pos =>
      have hltz : decide ((kk : Int) < (N : Int)) = true := decide_eq_true (by omega)
      have hltn : decide (kk < N) = true := decide_eq_true hlt
      have hltz1 := eq_true (show (kk : Int) < (N : Int) by omega)
      have hs0 := (blk_cell HX4.out 0).trans rfl
      have hs1 := (blk_cell HX4.out 1).trans rfl
      obtain ⟨x, hx⟩ : ∃ x, kk % wn = x := ⟨_, rfl⟩
      obtain ⟨y, hy⟩ : ∃ y, kk / wn = y := ⟨_, rfl⟩
      have HXY := Aside0.mk (show x < wn ∧ y < hn ∧ kk = wn * y + x by
        have h1 := Nat.mod_lt kk (show 0 < wn by have := HW.out; omega)
        have h2 := Nat.div_add_mod kk wn
        have h3 : kk / wn < hn := Nat.div_lt_of_lt_mul (by rw [HNN.out]; exact hlt)
        rw [hx] at h1 h2; rw [hy] at h2 h3; exact ⟨h1, h3, h2.symm⟩)
      have hrem : Int.tmod (kk : Int) (wn : Int) = (x : Int) := by rw [place_rem, hx]
      have hquo : Int.tdiv (kk : Int) (wn : Int) = (y : Int) := by rw [place_quo, hy]
      have hquw : wrap64 (y : Int) = (y : Int) := wrap_num (by have := HXY.out; have := HW.out; omega)
      have HXe := Aside0.mk hx
      have HYe := Aside0.mk hy
      clear hx hy
      go_wp2_with fail
      go_quiet (fail)
      clear hrem hquo
      go_wp2_with (first | ((with_reducible refine gate_dst (N := 29) rfl ?_); refine lit_event ?hg (N := 29) ?hd (cs := #[.int .i64 1, .int .i64 0, .int .i64 0, .int .i64 1]) (t := 106) (n := 2) ?hr ?_; (case hd => rfl); (case hg => rfl); (case hr => first | (go_simp; done) | (go_simp; rfl)); intro g1 hg1 w5 hbox hb; have HL1 := Aside0.mk hbox; have HO1 := Aside0.mk (Kd.R_below (Kd.R_drewN HO4.out nq) hb); have HX1 := Aside0.mk (blk_below (blk_drewN HX4.out nq) hb); have HB1 := Aside0.mk (below_step (pw_below_drewN HB4.out nq) hb); have HG := Aside0.mk (show w.heap.size ≤ g1 by have := below_size (pw_below_drewN HB4.out nq); omega); (try clear hs0 hs1); clear hb hbox hg1 HO4 HX4 HB4))
      clear hquw
      obtain ⟨n1, hn1e⟩ : ∃ n1 : Int, ((nn - 1 : Nat) : Int) = n1 := ⟨_, rfl⟩
      have HN1 := Aside0.mk hn1e
      have HN2 := Aside0.mk (show wrap64 ((nn : Int) - 1) = n1 by rw [← hn1e, show ((nn : Int) - 1) = ((nn - 1 : Nat) : Int) by have := HW.out; omega]; exact wrap_num (by have := HW.out; omega))
      clear hn1e
      go_loopg [5, 31] 2 (fun gg s5 s31 wr => ∃ j : Nat, j ≤ 2 ∧ 2 - j ≤ gg ∧ s31 = .int .i64 j ∧ Aside0 (Kd.R (Kd.int .i64) 2 wr w.heap.size (fun _ => True) s5 (placeTo wn hn nn kk ++ placeFew wn hn nn kk j)) ∧ Aside0 (wr.heap[g2]? = some (.cells #[.int .i64 (wn : Int), .int .i64 (hn : Int), .slice A0_2 l0_2.length c0_2] 28 (0, 0))) ∧ Aside0 (wr.heap[g1]? = some (.cells #[.int .i64 1, .int .i64 0, .int .i64 0, .int .i64 1] 106 (0, 0))) ∧ Aside0 (Below w.heap.size w wr))
      case atStart => exact ⟨0, by omega, by omega, rfl, ⟨by rw [show placeFew wn hn nn kk 0 = [] from rfl, List.append_nil]; exact HO1.out⟩, HX1, HL1, HB1⟩
      case round =>
        obtain ⟨j, hj, hgj, rfl, HO, HX, HL, HB⟩ := hrel
        clear HO1 HX1 HL1 HB1
        (try clear hs0 hs1)
        by_cases hj2 : j < 2
        case pos =>
          have hs0 := (blk_cell HX.out 0).trans rfl
          have hs1 := (blk_cell HX.out 1).trans rfl
          have hjz := decide_eq_true (show (j : Int) < 2 by omega)
          have hjn := decide_eq_true hj2
          have hjp := eq_true (show (j : Int) < 2 by omega)
          have HMe := Aside0.mk (show 2 - (j + 1) < gk by omega)
          have HRe := Aside0.mk (show j + 1 ≤ 2 by omega)
          have HJ1 := Aside0.mk (wrap_one (a := j) (by omega))
          have h01 : j = 0 ∨ j = 1 := by omega
          have hc0 : wr.cell? ⟨g1, j * 2, none⟩ = some (.int .i64 (dirA j)) := (blk_cell HL.out _).trans (by rcases h01 with rfl | rfl <;> rfl)
          have hc1 : wr.cell? ⟨g1, j * 2 + 1, none⟩ = some (.int .i64 (dirB j)) := (blk_cell HL.out _).trans (by rcases h01 with rfl | rfl <;> rfl)
          clear h01
          have HF := place_dir HW.out HXY.out.1 HXY.out.2.1 HXe.out HYe.out hj2
          rw [HN1.out] at HF
          generalize dirA j = dA at hc0 HF
          generalize dirB j = dB at hc1 HF
          obtain ⟨eA, eB, sB, fA, fB, st, bA, bB, heA, heB, hsB, hst, hsj, hfA, hfB, hbA, hbB, hok⟩ := HF
          have hn1 := HN2.out
          have HOK := Aside0.mk hok
          have HSJ := Aside0.mk hsj
          have HFe := Aside0.mk (show placeFew wn hn nn kk (j + 1) = if placeOk wn hn nn kk j then placeFew wn hn nn kk j ++ [placeSet wn nn kk j] else placeFew wn hn nn kk j from rfl)
          clear hok hsj
          cases bA with
          | true =>
            have HE := Aside0.mk (show placeTo wn hn nn kk ++ placeFew wn hn nn kk (j + 1) = placeTo wn hn nn kk ++ placeFew wn hn nn kk j by rw [HFe.out, if_neg (by rw [HOK.out]; simp)])
            go_wp2_with (first | ((with_reducible refine gate_dst (N := 10) rfl ?_); refine box_event ?hg (N := 10) ?hd (cs := #[.int .i64 0, .int .i64 0]) (t := 106) ?hr ?_; (case hd => rfl); (case hg => rfl); (case hr => first | (go_simp; done) | (go_simp; rfl)); intro g9 hg9 w7 hbox hb; have hd0 : w7.cell? ⟨g9, 0, none⟩ = some (.int .i64 0) := (blk_cell hbox 0).trans rfl; have hd1 : w7.cell? ⟨g9, 1, none⟩ = some (.int .i64 0) := (blk_cell hbox 1).trans rfl; have hf0 : w7.frozen? ⟨g9, 0, none⟩ = false := blk_frozen hbox 0; have hf1 : (w7.setCell ⟨g9, 0, none⟩ (.int .i64 dA)).frozen? ⟨g9, 1, none⟩ = false := blk_frozen (blk_set hbox 0 _) 1; have HY0 := Aside0.mk hbox; have HX7 := Aside0.mk (blk_below HX.out hb); have HL7 := Aside0.mk (blk_below HL.out hb); have HO7 := Aside0.mk (Kd.R_below (Kd.R_elderB HO.out g9 (by omega)) hb); have HG9 := Aside0.mk (show w.heap.size ≤ g9 by have := below_size HB.out; omega); have HG19 := Aside0.mk (show g1 ≠ g9 by have := blk_lt HL.out; omega); have HG29 := Aside0.mk (show g2 ≠ g9 by have := blk_lt HX.out; omega); have HB7 := Aside0.mk (below_step HB.out hb); clear hb hbox hg9 hc0 hc1) | ((with_reducible refine gate_store (t := 106) (p := 10) rfl ?_); refine store_event (t := 106) (p := 10) (v := .tmp 34) (w1 := ((w7.setCell ⟨g9, 0, none⟩ (.int .i64 dA)).setCell ⟨g9, 1, none⟩ (.int .i64 dB))) ?hg ?ho ?hn ?hr ?_; (case ho => rfl); (case hg => rfl); (case hn => rfl); (case hr => first | (go_simp; done) | (go_simp; rfl)); intro w8 hw8; have HY := Aside0.mk (show w8.heap[g9]? = some (.cells #[.int .i64 dA, .int .i64 dB] 106 (0, 0)) by rw [hw8]; exact blk_put (blk_put HY0.out 0 _ rfl) 1 _ rfl); have t1_ := blk_far (p := ⟨g9, 1, none⟩) (blk_far (p := ⟨g9, 0, none⟩) HX7.out HG29.out (.int .i64 dA)) HG29.out (.int .i64 dB); rw [← hw8] at t1_; have HX8 := Aside0.mk t1_; clear t1_; have t1_ := blk_far (p := ⟨g9, 1, none⟩) (blk_far (p := ⟨g9, 0, none⟩) HL7.out HG19.out (.int .i64 dA)) HG19.out (.int .i64 dB); rw [← hw8] at t1_; have HL8 := Aside0.mk t1_; clear t1_; have t1_ := Kd.R_far (p := ⟨g9, 1, none⟩) (Kd.R_far (p := ⟨g9, 0, none⟩) HO7.out (fun _ hk => hk.2) (.int .i64 dA)) (fun _ hk => hk.2) (.int .i64 dB); rw [← hw8] at t1_; have HO8 := Aside0.mk t1_; clear t1_; have HB8 := Aside0.mk (show Below w.heap.size w w8 by rw [hw8]; exact arr_below (arr_below HB7.out HG9.out _ _) HG9.out _ _); have hc2 : w8.cell? ⟨g9, 0, none⟩ = some (.int .i64 dA) := (blk_cell HY.out 0).trans rfl; have hc3 : w8.cell? ⟨g9, 1, none⟩ = some (.int .i64 dB) := (blk_cell HY.out 1).trans rfl; have hs0 := (blk_cell HX8.out 0).trans rfl; have hs1 := (blk_cell HX8.out 1).trans rfl; clear hw8 hd0 hd1 hf0 hf1))
            go_roundg (2 - (j + 1))
            case measure => exact HMe.out
            case rel => exact ⟨j + 1, HRe.out, Nat.le_refl _, (by first | rfl | exact congrArg (Value.int .i64) HJ1.out), ⟨by rw [HE.out]; exact Kd.R_mono HO8.out (fun _ hk => hk.1)⟩, HX8, HL8, HB8⟩
          | false =>
            cases bB with
            | true =>
              have HE := Aside0.mk (show placeTo wn hn nn kk ++ placeFew wn hn nn kk (j + 1) = placeTo wn hn nn kk ++ placeFew wn hn nn kk j by rw [HFe.out, if_neg (by rw [HOK.out]; simp)])
              go_wp2_with (first | ((with_reducible refine gate_dst (N := 10) rfl ?_); refine box_event ?hg (N := 10) ?hd (cs := #[.int .i64 0, .int .i64 0]) (t := 106) ?hr ?_; (case hd => rfl); (case hg => rfl); (case hr => first | (go_simp; done) | (go_simp; rfl)); intro g9 hg9 w7 hbox hb; have hd0 : w7.cell? ⟨g9, 0, none⟩ = some (.int .i64 0) := (blk_cell hbox 0).trans rfl; have hd1 : w7.cell? ⟨g9, 1, none⟩ = some (.int .i64 0) := (blk_cell hbox 1).trans rfl; have hf0 : w7.frozen? ⟨g9, 0, none⟩ = false := blk_frozen hbox 0; have hf1 : (w7.setCell ⟨g9, 0, none⟩ (.int .i64 dA)).frozen? ⟨g9, 1, none⟩ = false := blk_frozen (blk_set hbox 0 _) 1; have HY0 := Aside0.mk hbox; have HX7 := Aside0.mk (blk_below HX.out hb); have HL7 := Aside0.mk (blk_below HL.out hb); have HO7 := Aside0.mk (Kd.R_below (Kd.R_elderB HO.out g9 (by omega)) hb); have HG9 := Aside0.mk (show w.heap.size ≤ g9 by have := below_size HB.out; omega); have HG19 := Aside0.mk (show g1 ≠ g9 by have := blk_lt HL.out; omega); have HG29 := Aside0.mk (show g2 ≠ g9 by have := blk_lt HX.out; omega); have HB7 := Aside0.mk (below_step HB.out hb); clear hb hbox hg9 hc0 hc1) | ((with_reducible refine gate_store (t := 106) (p := 10) rfl ?_); refine store_event (t := 106) (p := 10) (v := .tmp 34) (w1 := ((w7.setCell ⟨g9, 0, none⟩ (.int .i64 dA)).setCell ⟨g9, 1, none⟩ (.int .i64 dB))) ?hg ?ho ?hn ?hr ?_; (case ho => rfl); (case hg => rfl); (case hn => rfl); (case hr => first | (go_simp; done) | (go_simp; rfl)); intro w8 hw8; have HY := Aside0.mk (show w8.heap[g9]? = some (.cells #[.int .i64 dA, .int .i64 dB] 106 (0, 0)) by rw [hw8]; exact blk_put (blk_put HY0.out 0 _ rfl) 1 _ rfl); have t1_ := blk_far (p := ⟨g9, 1, none⟩) (blk_far (p := ⟨g9, 0, none⟩) HX7.out HG29.out (.int .i64 dA)) HG29.out (.int .i64 dB); rw [← hw8] at t1_; have HX8 := Aside0.mk t1_; clear t1_; have t1_ := blk_far (p := ⟨g9, 1, none⟩) (blk_far (p := ⟨g9, 0, none⟩) HL7.out HG19.out (.int .i64 dA)) HG19.out (.int .i64 dB); rw [← hw8] at t1_; have HL8 := Aside0.mk t1_; clear t1_; have t1_ := Kd.R_far (p := ⟨g9, 1, none⟩) (Kd.R_far (p := ⟨g9, 0, none⟩) HO7.out (fun _ hk => hk.2) (.int .i64 dA)) (fun _ hk => hk.2) (.int .i64 dB); rw [← hw8] at t1_; have HO8 := Aside0.mk t1_; clear t1_; have HB8 := Aside0.mk (show Below w.heap.size w w8 by rw [hw8]; exact arr_below (arr_below HB7.out HG9.out _ _) HG9.out _ _); have hc2 : w8.cell? ⟨g9, 0, none⟩ = some (.int .i64 dA) := (blk_cell HY.out 0).trans rfl; have hc3 : w8.cell? ⟨g9, 1, none⟩ = some (.int .i64 dB) := (blk_cell HY.out 1).trans rfl; have hs0 := (blk_cell HX8.out 0).trans rfl; have hs1 := (blk_cell HX8.out 1).trans rfl; clear hw8 hd0 hd1 hf0 hf1))
              go_roundg (2 - (j + 1))
              case measure => exact HMe.out
              case rel => exact ⟨j + 1, HRe.out, Nat.le_refl _, (by first | rfl | exact congrArg (Value.int .i64) HJ1.out), ⟨by rw [HE.out]; exact Kd.R_mono HO8.out (fun _ hk => hk.1)⟩, HX8, HL8, HB8⟩
            | false =>
              have HE := Aside0.mk (show placeTo wn hn nn kk ++ placeFew wn hn nn kk (j + 1) = (placeTo wn hn nn kk ++ placeFew wn hn nn kk j) ++ [((rowN kk st nn : Nat) : Int)] by rw [HFe.out, if_pos (by rw [HOK.out]; rfl), List.append_assoc, HSJ.out]; rfl)
              have HLn := Aside0.mk (place_room (hn := hn) (nn := nn) HM.out (Nat.le_of_lt hlt) hj : ((placeTo wn hn nn kk ++ placeFew wn hn nn kk j).length + 1) * 8 ≤ 140737488355328)
              have HKN := Aside0.mk (place_reach HW.out HM.out (Nat.le_of_lt hlt) HSJ.out)
              generalize placeTo wn hn nn kk ++ placeFew wn hn nn kk j = xs at HO HE HLn
              go_wp2_with (first | ((with_reducible refine gate_dst (N := 10) rfl ?_); refine box_event ?hg (N := 10) ?hd (cs := #[.int .i64 0, .int .i64 0]) (t := 106) ?hr ?_; (case hd => rfl); (case hg => rfl); (case hr => first | (go_simp; done) | (go_simp; rfl)); intro g9 hg9 w7 hbox hb; have hd0 : w7.cell? ⟨g9, 0, none⟩ = some (.int .i64 0) := (blk_cell hbox 0).trans rfl; have hd1 : w7.cell? ⟨g9, 1, none⟩ = some (.int .i64 0) := (blk_cell hbox 1).trans rfl; have hf0 : w7.frozen? ⟨g9, 0, none⟩ = false := blk_frozen hbox 0; have hf1 : (w7.setCell ⟨g9, 0, none⟩ (.int .i64 dA)).frozen? ⟨g9, 1, none⟩ = false := blk_frozen (blk_set hbox 0 _) 1; have HY0 := Aside0.mk hbox; have HX7 := Aside0.mk (blk_below HX.out hb); have HL7 := Aside0.mk (blk_below HL.out hb); have HO7 := Aside0.mk (Kd.R_below (Kd.R_elderB HO.out g9 (by omega)) hb); have HG9 := Aside0.mk (show w.heap.size ≤ g9 by have := below_size HB.out; omega); have HG19 := Aside0.mk (show g1 ≠ g9 by have := blk_lt HL.out; omega); have HG29 := Aside0.mk (show g2 ≠ g9 by have := blk_lt HX.out; omega); have HB7 := Aside0.mk (below_step HB.out hb); clear hb hbox hg9 hc0 hc1) | ((with_reducible refine gate_store (t := 106) (p := 10) rfl ?_); refine store_event (t := 106) (p := 10) (v := .tmp 34) (w1 := ((w7.setCell ⟨g9, 0, none⟩ (.int .i64 dA)).setCell ⟨g9, 1, none⟩ (.int .i64 dB))) ?hg ?ho ?hn ?hr ?_; (case ho => rfl); (case hg => rfl); (case hn => rfl); (case hr => first | (go_simp; done) | (go_simp; rfl)); intro w8 hw8; have HY := Aside0.mk (show w8.heap[g9]? = some (.cells #[.int .i64 dA, .int .i64 dB] 106 (0, 0)) by rw [hw8]; exact blk_put (blk_put HY0.out 0 _ rfl) 1 _ rfl); have t1_ := blk_far (p := ⟨g9, 1, none⟩) (blk_far (p := ⟨g9, 0, none⟩) HX7.out HG29.out (.int .i64 dA)) HG29.out (.int .i64 dB); rw [← hw8] at t1_; have HX8 := Aside0.mk t1_; clear t1_; have t1_ := blk_far (p := ⟨g9, 1, none⟩) (blk_far (p := ⟨g9, 0, none⟩) HL7.out HG19.out (.int .i64 dA)) HG19.out (.int .i64 dB); rw [← hw8] at t1_; have HL8 := Aside0.mk t1_; clear t1_; have t1_ := Kd.R_far (p := ⟨g9, 1, none⟩) (Kd.R_far (p := ⟨g9, 0, none⟩) HO7.out (fun _ hk => hk.2) (.int .i64 dA)) (fun _ hk => hk.2) (.int .i64 dB); rw [← hw8] at t1_; have HO8 := Aside0.mk t1_; clear t1_; have HB8 := Aside0.mk (show Below w.heap.size w w8 by rw [hw8]; exact arr_below (arr_below HB7.out HG9.out _ _) HG9.out _ _); have hc2 : w8.cell? ⟨g9, 0, none⟩ = some (.int .i64 dA) := (blk_cell HY.out 0).trans rfl; have hc3 : w8.cell? ⟨g9, 1, none⟩ = some (.int .i64 dB) := (blk_cell HY.out 1).trans rfl; have hs0 := (blk_cell HX8.out 0).trans rfl; have hs1 := (blk_cell HX8.out 1).trans rfl; clear hw8 hd0 hd1 hf0 hf1))
              go_loopg [11, 58] nn (fun gg s11 s58 wr => ∃ i : Nat, i ≤ nn ∧ nn - i ≤ gg ∧ s58 = .int .i64 i ∧ s11 = .int .i64 (rowN kk st i : Nat) ∧ Aside0 (Kd.R (Kd.int .i64) 2 wr w.heap.size (fun _ => True) u5 xs) ∧ Aside0 (wr.heap[g2]? = some (.cells #[.int .i64 (wn : Int), .int .i64 (hn : Int), .slice A0_2 l0_2.length c0_2] 28 (0, 0))) ∧ Aside0 (wr.heap[g1]? = some (.cells #[.int .i64 1, .int .i64 0, .int .i64 0, .int .i64 1] 106 (0, 0))) ∧ Aside0 (wr.heap[g9]? = some (.cells #[.int .i64 dA, .int .i64 dB] 106 (0, 0))) ∧ Aside0 (Below w.heap.size w wr))
              case atStart => exact ⟨0, Nat.zero_le _, Nat.le_refl _, rfl, rfl, ⟨Kd.R_mono HO8.out (fun _ hk => hk.1)⟩, HX8, HL8, HY, HB8⟩
              case round =>
                obtain ⟨i, hi, hgi, rfl, hs11, HOb, HXb, HLb, HYb, HBb⟩ := hrel
                clear HO8 HX8 HL8 HY HB8 HO7 HX7 HL7 HB7 HY0
                (try clear hc2 hc3)
                (try clear hs0 hs1)
                by_cases hin : i < nn
                case pos =>
                  have hs0 := (blk_cell HXb.out 0).trans rfl
                  have hc2 := (blk_cell HYb.out 0).trans rfl
                  have hc3 := (blk_cell HYb.out 1).trans rfl
                  have hizt : (i : Int) < (nn : Int) := Int.ofNat_lt.2 hin
                  have hiz := decide_eq_true hizt
                  have hizn := decide_eq_true hin
                  have hizp := eq_true hizt
                  clear hizt
                  have HMi := Aside0.mk (show nn - (i + 1) < gk from Nat.lt_of_lt_of_le (Nat.sub_lt_sub_left hin (Nat.lt_succ_self i)) hgi)
                  have HJi := Aside0.mk (wrap_one (a := i) (Nat.le_trans (Nat.le_of_lt hin) (Nat.le_trans HW.out.2.2.2.2.2 (by simp))))
                  obtain ⟨pp, qq, ee, hk1, hk2, hk3, hk5, hk4, hq0a, hq1a⟩ := place_bits (kk := kk) (st := st) (i := i) (fun a ha => HKN.out a (Nat.lt_of_lt_of_le ha hin))
                  have hq0 := eq_true hq0a
                  have hq1 := decide_eq_false hq1a
                  have hq2 := eq_false hq1a
                  obtain ⟨o1, ho1⟩ : ∃ o1 : Int, ((rowN kk st i : Nat) : Int) = o1 := ⟨_, rfl⟩
                  obtain ⟨o2, ho2⟩ : ∃ o2 : Int, ((rowN kk st (i + 1) : Nat) : Int) = o2 := ⟨_, rfl⟩
                  rw [ho1, ho2] at hk4
                  rw [ho1] at hs11
                  have HO2e := Aside0.mk ho2
                  have HIN := Aside0.mk hin
                  subst hs11
                  clear ho1 ho2 hq0a hq1a hin
                  go_wp2_with fail
                  go_roundg (nn - (i + 1))
                  case measure => exact HMi.out
                  case rel => exact ⟨i + 1, HIN.out, Nat.le_refl _, (by first | rfl | exact congrArg (Value.int .i64) HJi.out), congrArg (Value.int .i64) HO2e.out.symm, HOb, HXb, HLb, HYb, HBb⟩
                case neg =>
                  have hie : i = nn := Nat.le_antisymm hi (Nat.le_of_not_lt hin)
                  subst hie
                  have hiz := decide_eq_false (show ¬ (i : Int) < (i : Int) from Int.lt_irrefl _)
                  obtain ⟨sN, hsN⟩ : ∃ sN : Int, ((rowN kk st i : Nat) : Int) = sN := ⟨_, rfl⟩
                  rw [hsN] at hs11 HE
                  clear hsN
                  subst hs11
                  go_wp2_with (first | ((with_reducible refine gate_builtin (b := .append) (xs := #[.tmp 77, .tmp 79]) rfl ?_); at_builtin; refine Kd.R_append (Kd.int .i64) (w0 := w) w.heap.size rfl (.tmp 77) (.tmp 79) 22 2 (.int .i64 0) 8 rfl Try.underlying22 info2 rfl (by decide) (by omega) u5 xs (sN : Int) [.int .i64 (sN : Int)] (fun _ => True) (fun _ => False) rfl rfl ?aP (fun _ hk => hk.elim) ?aF ?aO ?aB ?aS ?aL ?_; (case aP => exact rfl); (case aF => exact fun _ _ => trivial); (case aO => exact HOb.out); (case aB => exact HBb.out); (case aS => exact below_size HBb.out); (case aL => exact HLn.out); intro v2 w11 ho hb hg hat; have HO11 := Aside0.mk ho; have HB11 := Aside0.mk hb; have HX11 := Aside0.mk (blk_grown HXb.out hg (Kd.R_ne HOb.out HXb.out (by decide))); have HL11 := Aside0.mk (blk_grown HLb.out hg (Kd.R_ne HOb.out HLb.out (by decide))); clear ho hb hg hat))
                  go_roundg (2 - (j + 1))
                  case measure => exact HMe.out
                  case rel => exact ⟨j + 1, HRe.out, Nat.le_refl _, (by first | rfl | exact congrArg (Value.int .i64) HJ1.out), ⟨by rw [HE.out]; exact HO11.out⟩, HX11, HL11, HB11⟩
        case neg =>
          have hje : j = 2 := by omega
          subst hje
          go_wp2_with fail
          go_roundg (N - (kk + 1))
          case measure => omega
          case rel => have hm25 := HM.out; exact ⟨kk + 1, by omega, by omega, (by first | rfl | exact congrArg (Value.int .i64) (wrap_one (a := kk) (by omega))), ⟨by have h := HO.out; rw [placeFew_two] at h; exact h⟩, HX, HB⟩
    case neg =>
      have hke : N = kk := by omega
      subst hke
      have hnz : decide ((N : Int) < (N : Int)) = false := decide_eq_false (by omega)
      have hnn : decide (N < N) = false := decide_eq_false (by omega)
      have HS0 := Aside0.mk (placeTo_len wn hn nn N)
      have HSO := fun W (ho : Kd.R (Kd.int .i64) 2 W w.heap.size (fun _ => True) u5 (placeTo wn hn nn N)) (hb : Below w.heap.size w W) => sort_own ho hb (by have := HS0.out; have := HM.out; omega)
      go_wp2_with (first | (go_at_call 100; refine (HSO _ HO4.out HB4.out).mono ?_; rintro e w5 ⟨rfl, ho, hb⟩; have HO5 := Aside0.mk ho; have HB5 := Aside0.mk hb; clear ho hb) | (go_at_call 101; refine (compact_own HO5.out HB5.out (by rw [List.length_mergeSort]; have := HS0.out; have := HM.out; omega)).mono ?_; rintro e w6 ⟨v1, rfl, ho, hb⟩; have HO6 := Aside0.mk ho; have HB6 := Aside0.mk hb; clear ho hb))
      go_ret
      exact ⟨_, rfl, HO6.out, HB6.out⟩
/-! ### slices_IndexFunc_int64_int64: function 80 -/
-- EXTERNAL: by hand
set_option maxHeartbeats 4000000 in
set_option maxRecDepth 100000 in
theorem slices_IndexFunc_int64_int64.calls (g : Nat) (lb : Array Value) (q : Int → Prop) (p : Int → Bool) (eg : ∀ args w, (callFunc g args).run Try.prog w = .ok (.enter g args) w)
    (A0 : Option Addr) (c0 : Nat) (l0 : List Int) (w : World) (hp : PredK Try.prog g lb (Kd.int .i64) q p w) (hq : ∀ x ∈ l0, q x) (hr0 : Kd.C (Kd.int .i64) w A0 l0.length l0) (hm : l0.length ≤ 9223372036854775807) :
    Calls Try.prog 80 #[.slice A0 l0.length c0, .func (.func g) #[] lb] w fun e w' => e = .returned (.int .i64 (idxK p l0 0)) ∧ Below w.heap.size w w' := by
  have HP := Aside0.mk hp
  have HR := Aside0.mk hr0
  have HQ := Aside0.mk hq
  clear hp hr0 hq
  go_enter Try.func80, Try.ntmps80
  go_wp2
  go_loopg [5, 8] l0.length (fun gg _ s8 wr => ∃ kk : Nat, kk ≤ l0.length ∧ l0.length - kk ≤ gg ∧ s8 = .int .i64 kk ∧ Aside0 (idxK p (l0.drop kk) kk = idxK p l0 0) ∧ Aside0 (Below w.heap.size w wr))
  case atStart => exact ⟨0, Nat.zero_le _, by omega, rfl, ⟨rfl⟩, ⟨Below.refl _ _⟩⟩
  case round =>
    obtain ⟨kk, hkk, hg, rfl, A, HB⟩ := hrel
    by_cases hlt : kk < l0.length
    · have hltz : (kk : Int) < (l0.length : Int) := by omega
      obtain ⟨ad, v, rfl, hcell, hK⟩ := Kd.C_one rfl (Kd.C_below HR.out HB.out) kk hlt rfl
      have hcall := HP.out wr _ v (HQ.out _ (List.getElem_mem hlt)) hK HB.out
      have HK1 := (Kd.int .i64).K_one hK v (by simp)
      have E := Aside0.mk (idxK_drop p l0 kk hlt)
      generalize p l0[kk] = b at hcall E
      clear hK
      cases b with
      | true =>
        go_wp2_with (go_at_fn g; refine hcall.mono ?_; rintro e w' ⟨rfl, hb⟩)
        go_ret
        refine ⟨?_, below_then HB.out HB.out.size hb⟩
        rw [← A.out, E.out]; rfl
      | false =>
        go_wp2_with (go_at_fn g; refine hcall.mono ?_; rintro e w' ⟨rfl, hb⟩)
        go_roundg (l0.length - (kk + 1))
        case measure => omega
        case rel => exact ⟨kk + 1, by omega, by omega, by go_num, ⟨by rw [← A.out, E.out]; rfl⟩, ⟨below_then HB.out HB.out.size hb⟩⟩
    · have hltz : ¬ (kk : Int) < (l0.length : Int) := by omega
      have : kk = l0.length := by omega
      subst this
      go_wp2
      go_ret
      refine ⟨?_, HB.out⟩
      rw [← A.out]; simp [idxK]
/-! ### slices_ContainsFunc_int64_int64: function 120 -/
-- EXTERNAL: by hand
set_option maxHeartbeats 1000000 in
theorem slices_ContainsFunc_int64_int64.calls (g : Nat) (lb : Array Value) (q : Int → Prop) (p : Int → Bool) (eg : ∀ args w, (callFunc g args).run Try.prog w = .ok (.enter g args) w)
    (A0 : Option Addr) (c0 : Nat) (l0 : List Int) (w : World) (hp : PredK Try.prog g lb (Kd.int .i64) q p w) (hq : ∀ x ∈ l0, q x) (hr0 : Kd.C (Kd.int .i64) w A0 l0.length l0) (hm : l0.length ≤ 9223372036854775807) :
    Calls Try.prog 120 #[.slice A0 l0.length c0, .func (.func g) #[] lb] w fun e w' => e = .returned (.bool (l0.any p)) ∧ Below w.heap.size w w' := by
  rw [← idxK_any]
  have HI := slices_IndexFunc_int64_int64.calls g lb q p eg A0 c0 l0 w hp hq hr0 hm
  clear hp hq hr0
  generalize idxK p l0 0 = r at HI ⊢
  go_enter Try.func120, Try.ntmps120
  go_wp2_with (go_at_call 80; refine HI.mono ?_; rintro e w' ⟨rfl, hb⟩)
  go_ret
  exact ⟨rfl, hb⟩
/-! ### impl_Sea_goesOn: function 103 -/
-- EXTERNAL: by hand
-- slices_ContainsFunc_int64_int64
def goesStop (ships list : List Int) (own : Int) : Bool := decide (0 < list.length) && (decide (rd ships list.length = rd ships ((list.length : Int) - 1)) && decide (own ≤ rd list ((list.length : Int) - 1)))
def goesV (ships list : List Int) (own : Int) : Bool := !goesStop ships list own && !list.any (fun x => Go.bits .and .i64 x own != 0)
def impl_Sea_goesOn.f (a0_0 a0_1 : Int) (l0_2 l1 : List Int) (a2 : Int) : Option Bool := if l1.length < l0_2.length ∧ l0_2.length ≤ 1000 then some (goesV l0_2 l1 a2) else none
theorem goesPred (B : Nat) (a2 : Int) (w : World) (hbox : w.heap[B]? = some (.cells #[.int .i64 a2] 2 (0, 0))) :
    PredK Try.prog 121 #[.pointer (some ⟨B, 0, none⟩)] (Kd.int .i64) (fun _ => True) (fun x => Go.bits .and .i64 x a2 != 0) w := by
  intro W x v _ hK hb
  obtain rfl : v = .int .i64 x := by simpa [Kd.int, Kd.scalar] using hK
  show Calls Try.prog 121 #[.int .i64 x, .pointer (some ⟨B, 0, none⟩)] W _
  have hc0 : W.cell? ⟨B, 0, none⟩ = some (.int .i64 a2) := (blk_cell (blk_below hbox hb) 0).trans rfl
  clear hbox hK hb
  go_enter Try.func121, Try.ntmps121
  go_wp2_with fail
  go_ret
  exact ⟨rfl, Below.refl _ _⟩
set_option maxHeartbeats 4000000 in
set_option maxRecDepth 100000 in
theorem impl_Sea_goesOn.calls (a0_0 a0_1 : Int) (A0_2 : Option Addr) (c0_2 : Nat) (l0_2 : List Int) (A1 : Option Addr) (c1 : Nat) (l1 : List Int) (a2 : Int) (r : Bool) (w : World) (hr0_2 : Kd.C (Kd.int .i64) w A0_2 l0_2.length l0_2) (hc0_2 : l0_2.length ≤ c0_2) (hr1 : Kd.C (Kd.int .i64) w A1 l1.length l1) (hc1 : l1.length ≤ c1) (h : impl_Sea_goesOn.f a0_0 a0_1 l0_2 l1 a2 = some r) :
    Calls Try.prog 103 #[.agg #[.int .i64 a0_0, .int .i64 a0_1, .slice A0_2 l0_2.length c0_2], .slice A1 l1.length c1, .int .i64 a2] w fun e w' => e = .returned (.bool r) ∧ Below w.heap.size w w' := by
  have eg : ∀ args w, (callFunc 121 args).run Try.prog w = .ok (.enter 121 args) w := enters_of Try.func121 (by kernel_rfl) rfl
  unfold impl_Sea_goesOn.f at h
  split at h
  case isFalse => cases h
  rename_i hcond
  obtain rfl := Option.some.inj h
  clear h
  have HB := Aside0.mk (Below.refl w.heap.size w)
  have HRa := Aside0.mk hr0_2
  have HRb := Aside0.mk hr1
  have HM := Aside0.mk (show l1.length ≤ 9223372036854775807 by omega)
  have HC := Aside0.mk hcond
  have hu28 := Try.underlying28
  clear hr0_2 hr1 hcond
  by_cases h0 : 0 < l1.length
  case neg =>
    have he : l1.length = 0 := by omega
    have hV : goesV l0_2 l1 a2 = !l1.any (fun x => Go.bits .and .i64 x a2 != 0) := by unfold goesV goesStop; rw [decide_eq_false h0]; rfl
    rw [hV]
    clear hV h0
    have hz := decide_eq_false (show ¬ (0 : Int) < (l1.length : Int) by omega)
    have hzn := decide_eq_false (show ¬ 0 < l1.length by omega)
    generalize hany : l1.any (fun x => Go.bits .and .i64 x a2 != 0) = ba
    have HAny := Aside0.mk hany
    clear hany he
    go_enter Try.func103, Try.ntmps103
    go_wp2_with (first | ((with_reducible refine gate_dst (N := 3) rfl ?_); refine box_event ?hg (N := 3) ?hd (cs := #[.int .i64 a0_0, .int .i64 a0_1, .slice A0_2 l0_2.length c0_2]) (t := 28) ?hr ?_; (case hd => rfl); (case hg => rfl); (case hr => first | (go_simp; done) | (go_simp; rfl)); intro g3 hg3 w1 hbox hb; have HX1 := Aside0.mk hbox; have HB1 := Aside0.mk (below_step HB.out hb); have HRa1 := Aside0.mk (Kd.C_below HRa.out hb); have HRb1 := Aside0.mk (Kd.C_below HRb.out hb); clear hbox hb hg3) | ((with_reducible refine gate_dst (N := 5) rfl ?_); refine box_event ?hg (N := 5) ?hd (cs := #[.int .i64 a2]) (t := 2) ?hr ?_; (case hd => rfl); (case hg => rfl); (case hr => first | (go_simp; done) | (go_simp; rfl)); intro g5 hg5 w2 hbox hb; have HY2 := Aside0.mk hbox; have HX2 := Aside0.mk (blk_below HX1.out hb); have HB2 := Aside0.mk (below_step HB1.out hb); have HRa2 := Aside0.mk (Kd.C_below HRa1.out hb); have HRb2 := Aside0.mk (Kd.C_below HRb1.out hb); clear hbox hb hg5))
    go_quiet (fail)
    go_wp2_with (first | (go_at_call 120; refine (slices_ContainsFunc_int64_int64.calls 121 #[.pointer (some ⟨g5, 0, none⟩)] (fun _ => True) (fun x => Go.bits .and .i64 x a2 != 0) eg A1 c1 l1 _ (goesPred g5 a2 _ (blk_drewN HY2.out nq)) (fun _ _ => trivial) (Kd.C_below HRb2.out (pw_below_drewN (Below.refl _ _) nq)) HM.out).mono ?_; rintro e w4 ⟨rfl, hb⟩; have HB4 := Aside0.mk (below_step (pw_below_drewN HB2.out nq) hb); clear hb))
    go_ret
    exact ⟨by rw [← HAny.out]; rfl, HB4.out⟩
  case pos =>
    obtain ⟨m, hm⟩ : ∃ m : Nat, l1.length = m + 1 := ⟨l1.length - 1, by omega⟩
    obtain ⟨ad, eqa_, _⟩ := Kd.at_int HRa.out (l1.length : Int) (by omega) (by have := HC.out; omega)
    obtain ⟨bd, eqb_, _⟩ := Kd.at_int HRb.out (m : Int) (by omega) (by omega)
    subst eqa_ eqb_
    have hn1 : wrap64 ((l1.length : Int) - 1) = (m : Int) := by have := HC.out; unfold wrap64; omega
    have hz := decide_eq_true (show (0 : Int) < (l1.length : Int) by omega)
    have hzn := decide_eq_true h0
    have q1 := eq_true (show (l1.length : Int) < (l0_2.length : Int) by have := HC.out; omega)
    have q2 := eq_true (show (m : Int) < (l0_2.length : Int) by have := HC.out; omega)
    have q3 := eq_true (show (m : Int) < (l1.length : Int) by omega)
    have q4 := eq_true (show l1.length < l0_2.length by have := HC.out; omega)
    have q5 := eq_true (show m < l0_2.length by have := HC.out; omega)
    have q6 := eq_true (show m < l1.length by omega)
    have q7 := eq_true (show (0 : Int) ≤ (m : Int) by omega)
    have q8 := eq_true (show (0 : Int) ≤ (l1.length : Int) by omega)
    have HV : goesV l0_2 l1 a2 = (!(decide (rd l0_2 (l1.length : Int) = rd l0_2 (m : Int)) && decide (a2 ≤ rd l1 (m : Int))) && !l1.any (fun x => Go.bits .and .i64 x a2 != 0)) := by
      unfold goesV goesStop
      rw [decide_eq_true h0, show ((l1.length : Int) - 1) = (m : Int) by omega]; rfl
    rw [HV]
    clear HV h0
    have HK := fun W (hb : Below w.heap.size w W) => Kd.at_int (Kd.C_below HRa.out hb) (l1.length : Int) (by omega) (by have := HC.out; omega)
    have HK2 := fun W (hb : Below w.heap.size w W) => Kd.at_int (Kd.C_below HRa.out hb) (m : Int) (by omega) (by have := HC.out; omega)
    have HK3 := fun W (hb : Below w.heap.size w W) => Kd.at_int (Kd.C_below HRb.out hb) (m : Int) (by omega) (by omega)
    generalize hany : l1.any (fun x => Go.bits .and .i64 x a2 != 0) = ba
    have HAny := Aside0.mk hany
    clear hany
    generalize rd l0_2 (l1.length : Int) = s1 at *
    generalize rd l0_2 (m : Int) = s2 at *
    generalize rd l1 (m : Int) = lx at *
    have HKa := Aside0.mk HK
    have HKb := Aside0.mk HK2
    have HKc := Aside0.mk HK3
    clear HK HK2 HK3 hm
    by_cases h1 : s1 = s2
    case neg =>
      have h1b : (s1 == s2) = false := beq_eq_false_iff_ne.mpr h1
      rw [decide_eq_false h1]
      go_enter Try.func103, Try.ntmps103
      go_wp2_with (first | ((with_reducible refine gate_dst (N := 3) rfl ?_); refine box_event ?hg (N := 3) ?hd (cs := #[.int .i64 a0_0, .int .i64 a0_1, .slice (some ad) l0_2.length c0_2]) (t := 28) ?hr ?_; (case hd => rfl); (case hg => rfl); (case hr => first | (go_simp; done) | (go_simp; rfl)); intro g3 hg3 w1 hbox hb; have HX1 := Aside0.mk hbox; have HB1 := Aside0.mk (below_step HB.out hb); have HRa1 := Aside0.mk (Kd.C_below HRa.out hb); have HRb1 := Aside0.mk (Kd.C_below HRb.out hb); clear hbox hb hg3) | ((with_reducible refine gate_dst (N := 5) rfl ?_); refine box_event ?hg (N := 5) ?hd (cs := #[.int .i64 a2]) (t := 2) ?hr ?_; (case hd => rfl); (case hg => rfl); (case hr => first | (go_simp; done) | (go_simp; rfl)); intro g5 hg5 w2 hbox hb; have HY2 := Aside0.mk hbox; have HX2 := Aside0.mk (blk_below HX1.out hb); have HB2 := Aside0.mk (below_step HB1.out hb); have HRa2 := Aside0.mk (Kd.C_below HRa1.out hb); have HRb2 := Aside0.mk (Kd.C_below HRb1.out hb); clear hbox hb hg5))
      obtain ⟨ad1, e1, k1⟩ := HKa.out _ HB2.out
      obtain ⟨ad2, e2, k2⟩ := HKb.out _ HB2.out
      obtain ⟨bd1, e3, k3⟩ := HKc.out _ HB2.out
      injection e1 with e1
      injection e2 with e2
      injection e3 with e3
      subst e1 e2 e3
      rw [Int.toNat_natCast] at k1 k2 k3
      have hs2 := (blk_cell HX2.out 2).trans rfl
      have ho0 := (blk_cell HY2.out 0).trans rfl
      go_quiet (fail)
      go_wp2_with (first | (go_at_call 120; refine (slices_ContainsFunc_int64_int64.calls 121 #[.pointer (some ⟨g5, 0, none⟩)] (fun _ => True) (fun x => Go.bits .and .i64 x a2 != 0) eg (some bd) c1 l1 _ (goesPred g5 a2 _ (blk_drewN HY2.out nq)) (fun _ _ => trivial) (Kd.C_below HRb2.out (pw_below_drewN (Below.refl _ _) nq)) HM.out).mono ?_; rintro e w4 ⟨rfl, hb⟩; have HB4 := Aside0.mk (below_step (pw_below_drewN HB2.out nq) hb); clear hb))
      go_ret
      exact ⟨by rw [← HAny.out]; rfl, HB4.out⟩
    case pos =>
      subst h1
      have h1b : (s1 == s1) = true := beq_self_eq_true s1
      rw [decide_eq_true (rfl : s1 = s1)]
      by_cases h2 : a2 ≤ lx
      case pos =>
        have h2b := decide_eq_true h2
        rw [h2b]
        clear h2
        go_enter Try.func103, Try.ntmps103
        go_wp2_with (first | ((with_reducible refine gate_dst (N := 3) rfl ?_); refine box_event ?hg (N := 3) ?hd (cs := #[.int .i64 a0_0, .int .i64 a0_1, .slice (some ad) l0_2.length c0_2]) (t := 28) ?hr ?_; (case hd => rfl); (case hg => rfl); (case hr => first | (go_simp; done) | (go_simp; rfl)); intro g3 hg3 w1 hbox hb; have HX1 := Aside0.mk hbox; have HB1 := Aside0.mk (below_step HB.out hb); have HRa1 := Aside0.mk (Kd.C_below HRa.out hb); have HRb1 := Aside0.mk (Kd.C_below HRb.out hb); clear hbox hb hg3) | ((with_reducible refine gate_dst (N := 5) rfl ?_); refine box_event ?hg (N := 5) ?hd (cs := #[.int .i64 a2]) (t := 2) ?hr ?_; (case hd => rfl); (case hg => rfl); (case hr => first | (go_simp; done) | (go_simp; rfl)); intro g5 hg5 w2 hbox hb; have HY2 := Aside0.mk hbox; have HX2 := Aside0.mk (blk_below HX1.out hb); have HB2 := Aside0.mk (below_step HB1.out hb); have HRa2 := Aside0.mk (Kd.C_below HRa1.out hb); have HRb2 := Aside0.mk (Kd.C_below HRb1.out hb); clear hbox hb hg5))
        obtain ⟨ad1, e1, k1⟩ := HKa.out _ HB2.out
        obtain ⟨ad2, e2, k2⟩ := HKb.out _ HB2.out
        obtain ⟨bd1, e3, k3⟩ := HKc.out _ HB2.out
        injection e1 with e1
        injection e2 with e2
        injection e3 with e3
        subst e1 e2 e3
        rw [Int.toNat_natCast] at k1 k2 k3
        have hs2 := (blk_cell HX2.out 2).trans rfl
        have ho0 := (blk_cell HY2.out 0).trans rfl
        go_quiet (fail)
        go_wp2_with fail
        go_ret
        exact ⟨rfl, pw_below_drewN HB2.out nq⟩
      case neg =>
        have h2b := decide_eq_false h2
        rw [h2b]
        clear h2
        go_enter Try.func103, Try.ntmps103
        go_wp2_with (first | ((with_reducible refine gate_dst (N := 3) rfl ?_); refine box_event ?hg (N := 3) ?hd (cs := #[.int .i64 a0_0, .int .i64 a0_1, .slice (some ad) l0_2.length c0_2]) (t := 28) ?hr ?_; (case hd => rfl); (case hg => rfl); (case hr => first | (go_simp; done) | (go_simp; rfl)); intro g3 hg3 w1 hbox hb; have HX1 := Aside0.mk hbox; have HB1 := Aside0.mk (below_step HB.out hb); have HRa1 := Aside0.mk (Kd.C_below HRa.out hb); have HRb1 := Aside0.mk (Kd.C_below HRb.out hb); clear hbox hb hg3) | ((with_reducible refine gate_dst (N := 5) rfl ?_); refine box_event ?hg (N := 5) ?hd (cs := #[.int .i64 a2]) (t := 2) ?hr ?_; (case hd => rfl); (case hg => rfl); (case hr => first | (go_simp; done) | (go_simp; rfl)); intro g5 hg5 w2 hbox hb; have HY2 := Aside0.mk hbox; have HX2 := Aside0.mk (blk_below HX1.out hb); have HB2 := Aside0.mk (below_step HB1.out hb); have HRa2 := Aside0.mk (Kd.C_below HRa1.out hb); have HRb2 := Aside0.mk (Kd.C_below HRb1.out hb); clear hbox hb hg5))
        obtain ⟨ad1, e1, k1⟩ := HKa.out _ HB2.out
        obtain ⟨ad2, e2, k2⟩ := HKb.out _ HB2.out
        obtain ⟨bd1, e3, k3⟩ := HKc.out _ HB2.out
        injection e1 with e1
        injection e2 with e2
        injection e3 with e3
        subst e1 e2 e3
        rw [Int.toNat_natCast] at k1 k2 k3
        have hs2 := (blk_cell HX2.out 2).trans rfl
        have ho0 := (blk_cell HY2.out 0).trans rfl
        go_quiet (fail)
        go_wp2_with (first | (go_at_call 120; refine (slices_ContainsFunc_int64_int64.calls 121 #[.pointer (some ⟨g5, 0, none⟩)] (fun _ => True) (fun x => Go.bits .and .i64 x a2 != 0) eg (some bd) c1 l1 _ (goesPred g5 a2 _ (blk_drewN HY2.out nq)) (fun _ _ => trivial) (Kd.C_below HRb2.out (pw_below_drewN (Below.refl _ _) nq)) HM.out).mono ?_; rintro e w4 ⟨rfl, hb⟩; have HB4 := Aside0.mk (below_step (pw_below_drewN HB2.out nq) hb); clear hb))
        go_ret
        exact ⟨by rw [← HAny.out]; rfl, HB4.out⟩
-- eachFleet: what it calls a function with, and the frame of such a call. (for 65)
def placeOf (W H : Nat) (ships : List Int) (j : Nat) : List Int := placesOf W H (rd ships (j : Int)).toNat
/-- The fleets that begin with a list, in order (d ships are still to come). -/
def fleetsFrom (W H : Nat) (ships : List Int) : Nat → List Int → List (List Int)
  | 0, list => [list]
  | d + 1, list => (placeOf W H ships list.length).flatMap fun own => if goesV ships list own = true then fleetsFrom W H ships d (list ++ [own]) else []
/-- Behind a call of the function: only its own blocks (M) have turned, and what is its own now (M') was so or is new. -/
def Frame (M M' : Nat → Prop) (W W' : World) : Prop := W'.os = W.os ∧ W'.tape = W.tape ∧ W'.output = W.output ∧ W.heap.size ≤ W'.heap.size ∧ (∀ k, k < W.heap.size → ¬ M k → W'.heap[k]? = W.heap[k]?) ∧ ∀ k, M' k → M k ∨ W.heap.size ≤ k
theorem Frame.refl (M : Nat → Prop) (W : World) : Frame M M W W := ⟨rfl, rfl, rfl, Nat.le_refl _, fun _ _ _ => rfl, fun _ h => .inl h⟩
theorem Frame.trans {M M1 M2 : Nat → Prop} {W W1 W2 : World} (h : Frame M M1 W W1) (h2 : Frame M1 M2 W1 W2) : Frame M M2 W W2 := by
  obtain ⟨a1, a2, a3, a4, a5, a6⟩ := h
  obtain ⟨b1, b2, b3, b4, b5, b6⟩ := h2
  refine ⟨b1.trans a1, b2.trans a2, b3.trans a3, Nat.le_trans a4 b4, fun k hk hm => ?_, fun k hk => ?_⟩
  · have hm1 : ¬ M1 k := fun h => by rcases a6 k h with h | h; exact hm h; omega
    exact (b5 k (by omega) hm1).trans (a5 k hk hm)
  · rcases b6 k hk with h | h
    · exact a6 k h
    · exact .inr (by omega)
/-- As Frame; a row that was handed over may be its own now. -/
def FrameX (a M M' : Nat → Prop) (W W' : World) : Prop := W'.os = W.os ∧ W'.tape = W.tape ∧ W'.output = W.output ∧ W.heap.size ≤ W'.heap.size ∧ (∀ k, k < W.heap.size → ¬ M k → W'.heap[k]? = W.heap[k]?) ∧ ∀ k, M' k → M k ∨ W.heap.size ≤ k ∨ a k
theorem Frame.x {a M M' : Nat → Prop} {W W' : World} (h : Frame M M' W W') : FrameX a M M' W W' := ⟨h.1, h.2.1, h.2.2.1, h.2.2.2.1, h.2.2.2.2.1, fun k hk => (h.2.2.2.2.2 k hk).imp id .inl⟩
theorem Frame.transX {a M M1 M2 : Nat → Prop} {W W1 W2 : World} (h : Frame M M1 W W1) (h2 : FrameX a M1 M2 W1 W2) (ha : ∀ k, a k → W.heap.size ≤ k) : Frame M M2 W W2 := by
  obtain ⟨a1, a2, a3, a4, a5, a6⟩ := h
  obtain ⟨b1, b2, b3, b4, b5, b6⟩ := h2
  refine ⟨b1.trans a1, b2.trans a2, b3.trans a3, Nat.le_trans a4 b4, fun k hk hm => ?_, fun k hk => ?_⟩
  · have hm1 : ¬ M1 k := fun h => by rcases a6 k h with h | h; exact hm h; omega
    exact (b5 k (by omega) hm1).trans (a5 k hk hm)
  · rcases b6 k hk with h | h | h
    · exact a6 k h
    · exact .inr (by omega)
    · exact .inr (ha k h)
theorem Frame.below {M : Nat → Prop} {W W' : World} (h : Below W.heap.size W W') : Frame M M W W' := ⟨h.os, h.tape, h.output, h.size, fun k hk _ => h.block k hk, fun _ h => .inl h⟩
theorem Frame.block {M M' : Nat → Prop} {W W' : World} (h : Frame M M' W W') {g : Nat} {o : Obj} (hb : W.heap[g]? = some o) (hm : ¬ M g) : W'.heap[g]? = some o := (h.2.2.2.2.1 g (blk_lt hb) hm).trans hb
theorem Frame.out {M M' : Nat → Prop} {W W' : World} (h : Frame M M' W W') {k : Nat} (hk : k < W.heap.size) (hm : ¬ M k) : ¬ M' k := fun h2 => by
  rcases h.2.2.2.2.2 k h2 with h3 | h3
  · exact hm h3
  · omega
/-- A row of numbers that is read, and is none of the function's. -/
def Clear (M : Nat → Prop) (W : World) (A : Option Addr) (xs : List Int) : Prop := Kd.C (Kd.int .i64) W A xs.length xs ∧ (0 < xs.length → ∀ a, A = some a → a.block < W.heap.size ∧ ¬ M a.block)
theorem Clear.frame {M M' : Nat → Prop} {W W' : World} {A : Option Addr} {xs : List Int} (h : Clear M W A xs) (hf : Frame M M' W W') : Clear M' W' A xs := by
  obtain ⟨hC, hm⟩ := h
  by_cases h0 : 0 < xs.length
  · obtain ⟨a, rfl, _⟩ := Kd.at_int hC 0 (by omega) (by omega)
    obtain ⟨h1, h2⟩ := hm h0 a rfl
    refine ⟨⟨hC.1, hC.2.1, fun hp => ?_⟩, fun _ b hb => ?_⟩
    · obtain ⟨ad, e, hc⟩ := hC.2.2 hp
      injection e with e
      subst e
      refine ⟨_, rfl, fun j p hj => ?_⟩
      obtain ⟨c, hl, hk, hcc⟩ := hc j p hj
      refine ⟨c, hl, hk, fun q u hu => ?_⟩
      have := hcc q u hu
      have hb : W'.heap[a.block]? = W.heap[a.block]? := hf.2.2.2.2.1 _ h1 h2
      simpa [World.cell?, add_block, hb] using this
    · injection hb with hb
      subst hb
      exact ⟨Nat.lt_of_lt_of_le h1 hf.2.2.2.1, hf.out h1 h2⟩
  · have hx : xs = [] := List.eq_nil_of_length_eq_zero (by omega)
    subst hx
    exact ⟨⟨rfl, hC.2.1, fun hp => absurd hp (by simp)⟩, fun h => absurd h (by simp)⟩
/-- The function that is called for each fleet: i fleets have come; M: its own blocks. -/
structure EachOk (b g : Nat) (lb : Array Value) (fleets : List (List Int)) (I : Nat → (Nat → Prop) → World → Prop) : Prop where
  stay : ∀ i M W W', I i M W → Below W.heap.size W W' → I i M W'
  own : ∀ i M W, I i M W → ∀ k, M k → k < W.heap.size
  call : ∀ i M W A c list, I i M W → fleets[i]? = some list → Clear M W A list → list.length ≤ c → Kd.R (Kd.int .i64) 2 W b (fun _ => True) (.slice A list.length c) list → Calls Try.prog g (#[.slice A list.length c] ++ lb) W fun e w' => e = .returned (.tuple #[]) ∧ ∃ M', I (i + 1) M' w' ∧ FrameX (fun k => some k = (Value.slice A list.length c).ownBlock) M M' W w'
/-- What a function value that is kept in boxes needs: the sea, the function, all placements, itself. -/
structure FindEnv (W0 H0 : Nat) (ships : List Int) (A2 : Option Addr) (c2 g : Nat) (lb : Array Value) (g2 g3 g4 g7 : Nat) (ad4 : Addr) (c4 : Nat) (rows : List (List Int)) (M : Nat → Prop) (W : World) : Prop where
  sea : W.heap[g2]? = some (.cells #[.int .i64 (W0 : Int), .int .i64 (H0 : Int), .slice A2 ships.length c2] 28 (0, 0))
  each : W.heap[g3]? = some (.cells #[.func (.func g) #[] lb] 76 (0, 0))
  all : W.heap[g4]? = some (.cells #[.slice (some ad4) rows.length c4] 42 (0, 0))
  find : W.heap[g7]? = some (.cells #[.func (.func 105) #[] #[.pointer (some ⟨g2, 0, none⟩), .pointer (some ⟨g3, 0, none⟩), .pointer (some ⟨g4, 0, none⟩), .pointer (some ⟨g7, 0, none⟩)]] 76 (0, 0))
  not2 : ¬ M g2
  not3 : ¬ M g3
  not4 : ¬ M g4
  not7 : ¬ M g7
  cell : ∀ j (hj : j < rows.length), ∃ Aj cj, W.cell? (ad4.add j) = some (.slice Aj rows[j].length cj) ∧ rows[j].length ≤ cj ∧ Clear M W Aj rows[j]
  cells : ad4.block < W.heap.size ∧ ¬ M ad4.block
  ships : Clear M W A2 ships
theorem FindEnv.frame {W0 H0 : Nat} {ships : List Int} {A2 : Option Addr} {c2 g : Nat} {lb : Array Value} {g2 g3 g4 g7 : Nat} {ad4 : Addr} {c4 : Nat} {rows : List (List Int)} {M M' : Nat → Prop} {W W' : World}
    (h : FindEnv W0 H0 ships A2 c2 g lb g2 g3 g4 g7 ad4 c4 rows M W) (hf : Frame M M' W W') : FindEnv W0 H0 ships A2 c2 g lb g2 g3 g4 g7 ad4 c4 rows M' W' where
  sea := hf.block h.sea h.not2
  each := hf.block h.each h.not3
  all := hf.block h.all h.not4
  find := hf.block h.find h.not7
  not2 := hf.out (blk_lt h.sea) h.not2
  not3 := hf.out (blk_lt h.each) h.not3
  not4 := hf.out (blk_lt h.all) h.not4
  not7 := hf.out (blk_lt h.find) h.not7
  cell := fun j hj => by
    obtain ⟨Aj, cj, h1, h2, h3⟩ := h.cell j hj
    refine ⟨Aj, cj, ?_, h2, h3.frame hf⟩
    have hb : W'.heap[ad4.block]? = W.heap[ad4.block]? := hf.2.2.2.2.1 _ h.cells.1 h.cells.2
    simpa [World.cell?, add_block, hb] using h1
  cells := ⟨Nat.lt_of_lt_of_le h.cells.1 hf.2.2.2.1, hf.out h.cells.1 h.cells.2⟩
  ships := h.ships.frame hf
theorem flat_take {α β : Type} (F : α → List β) (P : List α) (j : Nat) (h : j < P.length) : ((P.take (j + 1)).flatMap F).length = ((P.take j).flatMap F).length + (F P[j]).length := by
  rw [List.take_succ_eq_append_getElem h, List.flatMap_append, List.length_append]
  simp
theorem flat_at {α β : Type} (F : α → List β) (P : List α) (j q : Nat) (h : j < P.length) (hq : q < (F P[j]).length) : (P.flatMap F)[((P.take j).flatMap F).length + q]? = (F P[j])[q]? := by
  have e : P.flatMap F = (P.take j).flatMap F ++ (F P[j] ++ (P.drop (j + 1)).flatMap F) := by
    conv => lhs; rw [← List.take_append_drop j P, List.drop_eq_getElem_cons h]
    rw [List.flatMap_append, List.flatMap_cons]
  rw [e, List.getElem?_append_right (by omega), Nat.add_sub_cancel_left, List.getElem?_append_left hq]
theorem clear_new {t : TypeId} {W : World} {base : Nat} {ok M : Nat → Prop} {A : Option Addr} {n c : Nat} {xs : List Int} (ho : Kd.R (Kd.int .i64) t W base ok (.slice A n c) xs) (hM : ∀ k, M k → k < base) : Clear M W A xs := by
  refine ⟨(Kd.R_reads' ho).2.2, fun h0 a ha => ?_⟩
  subst ha
  obtain ⟨g, cap, e, hb, hl, _⟩ := Kd.R_form ho h0
  injection e with e1
  injection e1 with e1
  subst e1
  exact ⟨hl, fun h => by have := hM _ h; simp at this; omega⟩
/-! ### slices_Clone_int64_int64: function 106 -/
-- EXTERNAL: by hand
def slices_Clone_int64_int64.f (l0 : List Int) : Option (List Int) := if l0.length ≤ 17592186044416 then some l0 else none
set_option maxHeartbeats 2000000 in
set_option maxRecDepth 100000 in
theorem slices_Clone_int64_int64.calls (A0 : Option Addr) (c0 : Nat) (l0 : List Int) (r : List Int) (w : World) (hr0 : Kd.C (Kd.int .i64) w A0 l0.length l0) (hc0 : l0.length ≤ c0) (h : slices_Clone_int64_int64.f l0 = some r) :
    Calls Try.prog 106 #[.slice A0 l0.length c0] w fun e w' => ∃ v0_ : Value, e = .returned v0_ ∧ Kd.R (Kd.int .i64) 2 w' w.heap.size (fun _ => True) v0_ r ∧ Below w.heap.size w w' := by
  unfold slices_Clone_int64_int64.f at h
  by_cases hl : l0.length ≤ 17592186044416
  · rw [if_pos hl] at h
    obtain rfl := Option.some.inj h
    clear h
    have HB := Aside0.mk (Below.refl w.heap.size w)
    have HR := Aside0.mk hr0
    clear hr0
    cases A0 with
    | none =>
      have h0 : l0.length = 0 := by
        rcases Nat.eq_zero_or_pos l0.length with h | h
        · exact h
        · obtain ⟨ad, _, e, _⟩ := Kd.C_get HR.out 0 0 (by omega) (by omega)
          cases e
      have hl0 : l0 = [] := List.eq_nil_of_length_eq_zero h0
      subst hl0
      have hE := fun W => Lib.run_eql_slice_nil (P := Try.prog) W 22 2 none 0 c0 0 0 Try.underlying22
      go_enter Try.func106, Try.ntmps106
      go_wp2_with fail
      go_ret
      exact ⟨_, rfl, Kd.R_nil _ _ _ _ _, HB.out⟩
    | some ad =>
      obtain ⟨n, hn⟩ : ∃ n, n = l0.length := ⟨_, rfl⟩
      rw [← hn] at HR hc0 hl ⊢
      have HN := Aside0.mk hn
      have HL := Aside0.mk hl
      clear hn hl
      go_enter Try.func106, Try.ntmps106
      have hE := fun W => Lib.run_eql_slice_nil (P := Try.prog) W 22 2 (some ad) n c0 0 0 Try.underlying22
      go_wp2_with (first | ((with_reducible refine gate_dst (N := 5) rfl ?_); refine Kd.R_lit (Kd.int .i64) _ 2 ?hg (N := 5) ?hd (xs := ([] : List Int)) (inner := []) (ok := fun _ => True) (okp := fun _ => True) ?hr ?hp (fun _ hk => hk) trivial (Below.refl _ _) (Nat.le_refl _) (by simp) ?_; (case hd => rfl); (case hg => rfl); (case hr => first | (go_simp; done) | (go_simp; rfl)); (case hp => exact Reps.none _ _); intro v1 w1 ho hb hg_ hnew_; clear hg_ hnew_; obtain ⟨A5, c5, e5⟩ := Kd.R_slice ho; subst e5; have n1_ := Aside0.mk ho; have n2_ := Aside0.mk hb; clear ho hb) | ((with_reducible refine gate_builtin (b := .append) (xs := #[.tmp 5, .tmp 6]) rfl ?_); at_builtin; refine Kd.R_append_row (Value.int .i64) (0 : Int) (w0 := w) w.heap.size rfl (.tmp 5) (.tmp 6) 22 2 (.int .i64 0) 8 rfl Try.underlying22 info2 rfl (by omega) _ [] l0 (some ad) n c0 (fun _ => True) rfl rfl (fun _ _ => trivial) n1_.out (Kd.C_below HR.out n2_.out) n2_.out (below_size n2_.out) ?hl ?_; (case hl => have := HL.out; rw [List.length_nil]; omega); intro v3 w3 ho hb hg hat; rw [List.nil_append] at ho; have n3_ := Aside0.mk ho; have n4_ := Aside0.mk hb; clear ho hb hg hat))
      go_ret
      exact ⟨_, rfl, n3_.out, n4_.out⟩
  · rw [if_neg hl] at h
    cases h
/-- Plain facts on the verifier's helpers: copies are copies, and a list is equal to itself. -/
theorem wrap_next {i : Nat} {n : Nat} (h : i < n) (hn : n ≤ 9223372036854775807) : wrap64 ((i : Int) + 1) = ((i + 1 : Nat) : Int) := by
  unfold wrap64; omega
theorem rd_nat (l : List Int) (i : Nat) : rd l (i : Int) = l.getD i 0 := rfl
theorem rd_get (l : List Int) (i : Nat) (h : i < l.length) : rd l (i : Int) = l[i] := by
  rw [rd_nat, List.getD_eq_getElem?_getD, List.getElem?_eq_getElem h]; rfl
theorem take_set_next {α : Type} (x y : List α) (i : Nat) (h : i < x.length) (hl : y.length = x.length) (ht : y.take i = x.take i) : (y.set i x[i]).take (i + 1) = x.take (i + 1) := by
  rw [List.take_succ_eq_append_getElem h, List.take_succ_eq_append_getElem (by simpa [hl] using h)]
  congr 1
  · rw [List.take_set_of_le (Nat.le_refl i)]; exact ht
  · simp
theorem toInt64S_l0 (x : List Int) (hx : x.length ≤ 35184372088832) : ∀ (d i : Nat) (y : List Int), i + d = x.length → y.length = x.length → y.take i = x.take i → Ev (fun k => laws_toInt64S.l0 k x y i) x := by
  intro d
  induction d with
  | zero =>
    intro i y hi hl ht
    refine Ev.step (f := fun _ => some x) (fun k => ?_) (Ev.now _)
    simp only [laws_toInt64S.l0]
    rw [if_neg (by omega)]
    have : i = x.length := by omega
    rw [this, List.take_of_length_le (by omega), List.take_of_length_le (by omega)] at ht
    rw [ht]
  | succ d ih =>
    intro i y hi hl ht
    have hlt : i < x.length := by omega
    refine Ev.step (f := fun k => laws_toInt64S.l0 k x (y.set i x[i]) ((i + 1 : Nat) : Int)) (fun k => ?_) (ih (i + 1) _ (by omega) (by simpa using hl) (take_set_next x y i hlt hl ht))
    simp only [laws_toInt64S.l0]
    rw [if_pos (by omega), if_pos (by omega), if_pos (by omega), wrap_next hlt (by omega), rd_get x i hlt, Int.toNat_natCast]
theorem toInt64S_ev (x : List Int) (hx : x.length ≤ 35184372088832) : Ev (fun k => laws_toInt64S.f k x) x := by
  refine Ev.congr (f := fun k => laws_toInt64S.l0 k x (List.replicate x.length 0) ((0 : Nat) : Int)) (fun k => ?_) (toInt64S_l0 x hx x.length 0 _ (by omega) (by simp) (by simp))
  unfold laws_toInt64S.f
  rw [if_pos (by omega), if_pos (by omega), Int.toNat_natCast]; rfl
theorem eqInt64S_l0 (x y : List Int) (hl : x.length = y.length) (hx : x.length ≤ 9223372036854775807) : ∀ (d i : Nat), i + d = x.length → x.take i = y.take i → Ev (fun k => laws_eqInt64S.l0 k x y i) (decide (x = y)) := by
  intro d
  induction d with
  | zero =>
    intro i hi ht
    refine Ev.step (f := fun _ => some (decide (x = y))) (fun k => ?_) (Ev.now _)
    simp only [laws_eqInt64S.l0]
    rw [if_neg (by omega)]
    have : i = x.length := by omega
    rw [this, List.take_of_length_le (by omega), List.take_of_length_le (by omega)] at ht
    simp [ht]
  | succ d ih =>
    intro i hi ht
    have hlt : i < x.length := by omega
    by_cases he : x[i] = y[i]
    · refine Ev.step (f := fun k => laws_eqInt64S.l0 k x y ((i + 1 : Nat) : Int)) (fun k => ?_) (ih (i + 1) (by omega) ?_)
      · simp only [laws_eqInt64S.l0]
        rw [if_pos (by omega), if_pos (by omega), if_pos (by omega), wrap_next hlt (by omega), rd_get x i hlt, rd_get y i (by omega), if_pos he]
      · rw [List.take_succ_eq_append_getElem hlt, List.take_succ_eq_append_getElem (by omega), ht, he]
    · refine Ev.step (f := fun _ => some (decide (x = y))) (fun k => ?_) (Ev.now _)
      simp only [laws_eqInt64S.l0]
      rw [if_pos (by omega), if_pos (by omega), if_pos (by omega), rd_get x i hlt, rd_get y i (by omega), if_neg he]
      have : x ≠ y := fun h => he (by subst h; rfl)
      simp [this]
theorem eqInt64S_ev (x y : List Int) (hx : x.length ≤ 9223372036854775807) : Ev (fun k => laws_eqInt64S.f k x y) (decide (x = y)) := by
  by_cases h : x.length = y.length
  · refine Ev.congr (f := fun k => laws_eqInt64S.l0 k x y ((0 : Nat) : Int)) (fun k => ?_) (eqInt64S_l0 x y h hx x.length 0 (by omega) (by simp))
    unfold laws_eqInt64S.f
    rw [if_pos (by omega)]; rfl
  · refine Ev.congr (f := fun _ => some (decide (x = y))) (fun k => ?_) (Ev.now _)
    unfold laws_eqInt64S.f
    rw [if_neg (by omega)]
    have : x ≠ y := fun e => h (by rw [e])
    simp [this]
theorem eqInt64S_self (x : List Int) (hx : x.length ≤ 9223372036854775807) : Ev (fun k => laws_eqInt64S.f k x x) true := by
  have := eqInt64S_ev x x hx
  simpa using this
-- needs: maps that keep what is known (memo)
/-- What a map keeps is so. -/
def Memo (P : Program) (k : TypeId) (F : Value → Int → Prop) (D : DataW Unit) : Prop :=
  ∀ key kl c, keyOf P k key = some kl → Go.Maps.has D kl = true → D.atKey kl (.lit (.int .i64 0)) = .lit (.int .i64 c) → F key c
theorem Memo.put {P : Program} {k : TypeId} {F : Value → Int → Prop} {D : DataW Unit} (K : Go.Maps.Keyed P k) (hm : Go.Maps.IsMap D) (h : Memo P k F D) {key : Value} {kl : Lit} {c : Int} (hk : keyOf P k key = some kl) (hF : F key c) :
    Memo P k F (D.put kl (.lit (.int .i64 c))) := by
  intro key' kl' c' hk' hh ha
  by_cases e : kl' = kl
  · subst e
    have : key' = key := K.inj hk' hk
    subst this
    rw [Go.Maps.atKey_put_same hm (K.key hk)] at ha
    injection ha with ha
    injection ha with _ ha
    exact ha ▸ hF
  · rw [Go.Maps.has_put_other e] at hh
    rw [Go.Maps.atKey_put_other e] at ha
    exact h key' kl' c' hk' hh ha
/-- Block gm is a map of at most N entries that keeps what is so. -/
def HasMemo (P : Program) (k e : TypeId) (F : Value → Int → Prop) (gm N : Nat) (W : World) : Prop := ∃ D : DataW Unit, W.ownsMap P k (plainElem P e) gm N D ∧ Memo P k F D
theorem HasMemo.mono {P : Program} {k e : TypeId} {F : Value → Int → Prop} {gm N N' : Nat} {W : World} (h : HasMemo P k e F gm N W) (hN : N ≤ N') : HasMemo P k e F gm N' W := by
  obtain ⟨D, h1, h2⟩ := h
  exact ⟨D, h1.mono hN, h2⟩
theorem HasMemo.below {P : Program} {k e : TypeId} {F : Value → Int → Prop} {gm N : Nat} {W W' : World} (h : HasMemo P k e F gm N W) (hb : Below W.heap.size W W') : HasMemo P k e F gm N W' := by
  obtain ⟨D, h1, h2⟩ := h
  exact ⟨D, h1.kept (grown_of_below hb none) (by simp), h2⟩
theorem HasMemo.drew {P : Program} {k e : TypeId} {F : Value → Int → Prop} {gm N : Nat} {W : World} (h : HasMemo P k e F gm N W) : HasMemo P k e F gm N W.drew := by
  obtain ⟨D, h1, h2⟩ := h
  exact ⟨D, h1.drew, h2⟩
section
variable {P : Program} {ops : Array Oper} {S : World → Prop} {ds : List Nat} {md : Region.Mode} {Q : Exit → Act → World → Prop}
/-- A call of a function value in a region of open order. -/
theorem goesF_ {oi : Oper} {N : Option Tmp} {a : Act} {w : World} {K : Act → World → Prop} {g : FuncId} {x : Operand} {lb : Array Value} {as_ : Array Operand} {ts : Array TypeId} (eg : ∀ args w, (callFunc g args).run P w = .ok (.enter g args) w) (args : Array Value)
    (hw : Region.wanted oi (yielded ops a.tmps) = true) (hN : oi.dst = N) (hop : oi.op = .call { callee := .value x, args := as_, argTypes := ts }) (hx : a.eval x = .func (.func g) #[] lb) (hargs : as_.map a.eval = args)
    (h : Calls P g (args ++ lb) w fun e w' => ∃ v, e = .returned v ∧ K (a.put N v) w') : if Region.wanted oi (yielded ops a.tmps) = true then Oper.wp P oi a w K Q else K (a.put N undef) w := by
  refine call_ g (args ++ lb) hw hN ?_ h
  unfold execOp
  simp [hop, resolve, Deferred.ofValue, invoke, hx, hargs, eg]
end

end Go.Proofs.Ytiancdhpdjmacaa.F
