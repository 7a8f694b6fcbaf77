-- written by the session's program xp.py over the kit's print program, and by hand; texts joined by pack.py
import Derived.Test.YthmfpdkemkjpkaaDoorKWFnExactParseFleet1
import Derived.Test.YthmfpdkemkjpkaaDoorProg
import Derived.Below
import Derived.Deep.Draws
import Derived.Deep.AppendLies
import Derived.Maps.AppendAt
import Derived.OwnWalk
import Derived.Laws.BytesArg
import Derived.Laws.MakeOwn
import Derived.Laws.OwnMore
import Derived.Deep.OwnRows
import Derived.Tactics
import Derived.Lib.ConvBytes
import Derived.Laws.Slices
import Derived.WalkKit
import Derived.KernelRfl
import Derived.RowKit3
import Derived.Deep.LoopGhost
import Derived.Deep.QuietTactic
import Derived.BigQuiet
import Derived.WideLaws
import Derived.Deep.DeepCutAuto
import Derived.Deep.CutBlock
import Derived.Deep.RegionHeld3
import Derived.Laws.Rows
import Derived.Lib.AppendStr
import Derived.ArgAppend
import Derived.Laws.IdiomCopy
import Derived.OrdersHeld
import Derived.Laws.BitsLemmas
import Derived.RowKit
import Derived.Shelf.Strings.Builder1
import Derived.Shelf.Strings.Builder2
import Derived.Shelf.Strings.Count
import Derived.Shelf.Strings.Search3
import Derived.Ground.SlgnProg
import Derived.Shelf.Strings.OnBuilder
import Derived.Lib.SlicesCompact
import Derived.Shelf.SlGeneric
import Derived.Shelf.SlicesG.CompactI
import Derived.Shelf.SortG.Plain
import Derived.Shelf.SortG.SortNone
import Derived.Lib.OwnBridge
import Derived.Sort.OwnSortedInts
import Derived.Shelf.Abstract
import Derived.Ground.GgzProg
import Derived.Shelf.SlIterI.Sorted
import Derived.Lib.RowBridge
import Derived.Laws.RangeAny
import Derived.RegionTactic
import Derived.ChangeAlike
import Derived.Lib.Strings
import Derived.Lib.Join
import Derived.ProofKit
import Derived.ChangeSlices
import Derived.WideShapes
namespace Go.Proofs.YthmfpdkemkjpkaaDoor.F
open Go.RowKit Go.Proofs.YthmfpdkemkjpkaaDoorW.PrintWords Go.Proofs.YthmfpdkemkjpkaaDoorW.PrintLast Go.Proofs.YthmfpdkemkjpkaaDoorW.PrintMore
attribute [local go_sem] max2_int min2_int max_two min_two max_three min_three max_four min_four   -- for this text's walks alone
set_option linter.unusedVariables false
set_option linter.unusedSimpArgs false

theorem oda {p : Prop} [Decidable p] (h : decide p = true := by first | (with_reducible assumption) | assumption) : p := of_decide_eq_true h
theorem hb_ {B : Nat} {w W : World} (h : Below B w W := by repeat (first | (with_reducible first | exact HB.out | apply below_alloc | apply pw_below_drewN | apply below_drew1) | exact HB.out)) : Below B w W := h
theorem goesA_ {P : Program} {ops : Array Oper} {Q : Exit → Act → World → Prop} {rest : List Oper} {oi : Oper} {a : Act} {w : World} (N : Option Tmp) (hd : oi.dst = N) (hg : oi.guard = none) {f : FuncId} {fn : Func} {as_ : Array Operand} {ts : Array TypeId} (hf : P.funcs[f]? = some fn) (hname : (fn.name == "runtime.NumGoroutine") = false) (hb : fn.body.isSome = true) (args : Array Value) (hop : oi.op = .call { callee := .value (.func f), args := as_, argTypes := ts }) (h : Calls P f args w fun e w' => ∃ v, e = .returned v ∧ wpList P ops Q rest (a.put N v) w') (hargs : as_.map a.eval = args := by (try simp only [List.map_toArray, List.map_cons, List.map_nil]); first | done | rfl | (simp only [List.length_drop, List.length_take]; rfl)) : wpList P ops Q (oi :: rest) a w := goesL_ N hd hg hf hname hb args hop hargs h
def flg_ (n m : Nat) : Array Bool := ((List.range n).map fun i => m.testBit i).toArray
theorem sz_ {α : Type} {l : List α} {i : Nat} {a : α} : l.toArray.setIfInBounds i a = (l.set i a).toArray := List.setIfInBounds_toArray ..
theorem s0_ {α : Type} {a b : α} {l : List α} : (a :: l).set 0 b = b :: l := List.set_cons_zero ..
theorem s1_ {α : Type} {a b : α} {l : List α} {n : Nat} : (a :: l).set (n + 1) b = a :: l.set n b := List.set_cons_succ ..
def errW : Option Int → Value
  | none => .nilIface
  | some c => .iface 0 (.int .i64 c)
theorem errW_none : errW none = .nilIface := rfl
theorem errW_some (c : Int) : errW (some c) = .iface 0 (.int .i64 c) := rfl

theorem info2 : (Tryd.prog.info? 2).map (fun i => (i.zero, i.size, i.bytes)) = some (some (.int .i64 0), 1, 8) := by kernel_rfl
theorem info5 : (Tryd.prog.info? 5).map (fun i => (i.zero, i.size, i.bytes)) = some (some (.int .u8 0), 1, 1) := by kernel_rfl
theorem info9 : (Tryd.prog.info? 9).map (fun i => (i.zero, i.size, i.bytes)) = some (some (.string ⟨#[]⟩), 1, 16) := by kernel_rfl
-- the values' own types
/-! #### struct type 71 -/
structure S71 where
  f0 : Bool
  f1 : Int
def z71 : S71 := ⟨false, (0 : Int)⟩
def k71 : Kd S71 := Kd.iso (Kd.pair Kd.bool (Kd.int .i64)) (fun x : S71 => (x.f0, x.f1))
theorem k71_open {w : World} {x : S71} {cs : List Value} (h : k71.K w x cs) : cs = [.bool x.f0, .int .i64 x.f1] := by
  obtain ⟨_, _, rfl, rfl, rfl⟩ := h
  exact rfl
theorem k71_mkM (w : World) (base : Nat) (ok : Nat → Prop) (x : S71)  : k71.M w base ok x [.bool x.f0, .int .i64 x.f1] := ⟨[.bool x.f0], [.int .i64 x.f1], rfl, rfl, rfl⟩
def rd_T71 (xs : List S71) (i : Int) : S71 := xs.getD i.toNat z71
theorem at_T71 {w : World} {A : Option Addr} {n : Nat} {xs : List S71} (h : Kd.C k71 w A n xs) (i : Int) (h0 : 0 ≤ i) (h1 : i < n) : ∃ ad , A = some ad ∧ w.cell? (ad.add (i.toNat * 2)) = some (.bool (rd_T71 xs i).f0) ∧ w.cell? ⟨(ad.add (i.toNat * 2)).block, (ad.add (i.toNat * 2)).off + 1, none⟩ = some (.int .i64 (rd_T71 xs i).f1) := by
  obtain ⟨ad, c, e, _, hK, hc0⟩ := Kd.C_get h z71 i h0 h1
  have hc : ∀ j u, c[j]? = some u → w.cell? (ad.add (i.toNat * 2 + j)) = some u := hc0
  obtain rfl := k71_open hK
  exact ⟨ad, e, hc 0 _ rfl, by rw [← add_field _ _ 1 (by omega)]; exact hc 1 _ rfl⟩

/-! #### struct type 28 -/
structure S28 where
  f0 : Int
  f1 : Int
  f2 : (List Int)
def z28 : S28 := ⟨(0 : Int), (0 : Int), ([] : List Int)⟩
/-! ### laws_markInt64S: function 11 -/
def laws_markInt64S.l0 : Nat → List Int → Int → Int → Option (Int × List Int)
 | 0, _, _, _ => none
 | k + 1, x0, x1, x5 => if x5 < (x0.length : Int) then (if 0 ≤ x5 then (laws_markInt64S.l0 k (x0.set (x5 : Int).toNat x1) (wrap64 (x1 + 1)) (wrap64 (x5 + 1))) else (none)) else (some (x1, x0))
def laws_markInt64S.f (k : Nat) (l0 : List Int) (a1 : Int) : Option (Int × List Int) := laws_markInt64S.l0 k l0 a1 0
set_option maxHeartbeats 8000000 in
set_option maxRecDepth 100000 in
theorem laws_markInt64S.calls (k : Nat) (P0_ : Nat → Prop) (u9000_ : Value) (l0 : List Int) (a1 : Int) (r1 : Int) (r2 : List Int) (w0 w : World) (hB : Below w0.heap.size w0 w) (ho0 : Kd.R (Kd.int .i64) 2 w w0.heap.size P0_ u9000_ l0) (h : laws_markInt64S.f k l0 a1 = some (r1, r2)) :
  Calls Tryd.prog 11 #[u9000_, .int .i64 a1] w fun e w' => e = .returned (.int .i64 r1) ∧ Kd.R (Kd.int .i64) 2 w' w0.heap.size (fun k_ => (P0_ k_ ∨ w.heap.size ≤ k_)) u9000_ r2 ∧ Below w0.heap.size w0 w' ∧ Kept w w' (fun k_ => P0_ k_) := by
 have HO0 := Aside0.mk (show Kd.R (Kd.int .i64) 2 w w0.heap.size (fun k_ => (P0_ k_ ∨ w.heap.size ≤ k_)) u9000_ l0 from Kd.R_mono ho0 (fun k_ hk => (.inl hk)))
 have HK := Aside0.mk (Kept.refl w (fun k_ => P0_ k_))
 have HW0 := Aside0.mk hB.size
 have HB := Aside0.mk hB
 clear hB
 have H : (laws_markInt64S.l0 k l0 a1 0) = some (r1, r2) := h
 clear h
 have H' := Aside0.mk H
 clear H
 go_enter Tryd.func11, Tryd.ntmps11
 go_wp2
 go_loopg [1, 5] k (fun kq v1 v5 w' => ∃ (x0_1 : List Int) (x1_1 : Int) (x5_1 : Int), v1 = .int .i64 x1_1 ∧ v5 = .int .i64 x5_1 ∧ Aside0 (laws_markInt64S.l0 kq x0_1 x1_1 x5_1 = some (r1, r2)) ∧ Aside0 (kq ≤ k) ∧ Aside0 (Kd.R (Kd.int .i64) 2 w' w0.heap.size (fun k_ => (P0_ k_ ∨ w.heap.size ≤ k_)) u9000_ x0_1) ∧ Aside0 (Kept w w' (fun k_ => P0_ k_)) ∧ Aside0 (Below w0.heap.size w0 w'))
 case atStart => exact ⟨(l0), (a1), (0), (by first | rfl | (simp; done) | (simp [*]; done)), (by first | rfl | (simp; done) | (simp [*]; done)), H', ⟨Nat.le_refl _⟩, ⟨by (with_reducible repeat (first | apply Kd.R_alloc | apply Kd.R_drewN | apply Kd.R_drew)); exact HO0.out⟩, ⟨by repeat (first | (with_reducible first | exact HK.out | apply Kept.alloc | apply Kept.drewN | apply Kept.drew) | exact HK.out)⟩, ⟨by repeat (first | (with_reducible first | exact HB.out | apply below_alloc | apply pw_below_drewN | apply below_drew1) | exact HB.out)⟩⟩
 case round =>
  clear H'
  (try clear c1); (try clear p2)
  obtain ⟨x0_1, x1_1, x5_1, rfl, rfl, HA, HK1, HO_0, HK, HB⟩ := hrel
  cases gk with
  | zero => exact absurd HA.out (by simp [laws_markInt64S.l0])
  | succ k1 =>
   have H := HA.out
   clear HA
   simp only [laws_markInt64S.l0] at H
   by_cases c3 : x5_1 < (x0_1.length : Int)
   ·rw [if_pos c3] at H
    have c3b0 : decide (x5_1 < (x0_1.length : Int)) = true := decide_eq_true c3
    clear c3
    by_cases c4 : 0 ≤ x5_1
    ·rw [if_pos c4] at H
     have c4b0 : decide (0 ≤ x5_1) = true := decide_eq_true c4
     clear c4
     obtain ⟨y404, hy404⟩ : ∃ y_ : List Int, y_ = (x0_1.set (x5_1 : Int).toNat x1_1) := ⟨_, rfl⟩
     replace H : (laws_markInt64S.l0 k1 y404 (wrap64 (x1_1 + 1)) (wrap64 (x5_1 + 1))) = some (r1, r2) := by first | (rw [hy404]; with_reducible exact H) | (have H2_ := (Option.bind_some _ _).symm.trans H; rw [hy404]; with_reducible exact H2_) | (have H2_ := (Option.bind_some _ _).symm.trans H; with_reducible exact H2_) | with_reducible exact H | (rw [hy404]; exact H) | exact H
     have Ny404 := Aside0.mk hy404
     clear hy404
     have H' := Aside0.mk H
     clear H
     obtain ⟨Ao6, co6, eo6⟩ := Kd.R_slice HO_0.out
     subst eo6
     have p5 : 0 ≤ (x5_1 : Int) := oda
     have q5 : (x5_1 : Int) < ((x0_1.length : Int) : Int) := oda
     obtain ⟨go5, co5, eo5, gb5, gl5, cl5, HG5⟩ := Kd.R_form HO_0.out (by omega)
     (first | cases eo5 | (injection eo5 with ea_ en_ ec_; (first | subst ea_ | (injection ea_ with ea_; subst ea_)); subst ec_; clear en_))
     have GB5 := Aside0.mk gb5
     have GG5 := Aside0.mk HG5
     clear gb5 gl5 HG5
     have HMgo5 := Aside0.mk (show (P0_ go5 ∨ w.heap.size ≤ go5) from (HO_0.out.1 _ rfl))
     obtain ⟨hx5_0, hf5_0⟩ := Kd.R_celln 0 HO_0.out (x5_1 : Int) p5 q5
     replace p5 := eq_true p5
     replace q5 := eq_true q5
     have HP7 := Kd.R_putg HO_0.out (x5_1 : Int) x1_1
     go_wp2_with (first | ((with_reducible refine gate_store (t := 2) (p := 15) rfl ?_); refine store_event (t := 2) (p := 15) (v := ?vo_w8) (w1 := (wr.setCell ⟨go5, (x5_1 : Int).toNat, none⟩ (.int .i64 x1_1))) ?hg ?ho ?hn ?hr ?_; (case ho => rfl); (case hg => rfl); (case hn => rfl); (case hr => first | (go_simp; done) | (go_simp; rfl)); intro w8 hw; have hg : wr.grownBy w8 (some go5) := (by rw [hw]; exact HP7.2); have hp_ : Kd.R (Kd.int .i64) 2 w8 w0.heap.size (fun k_ => (P0_ k_ ∨ w.heap.size ≤ k_)) (.slice (some ⟨go5, 0, none⟩) x0_1.length co6) y404 := (by rw [hw, Ny404.out]; exact HP7.1); clear HP7; have n0_ := Aside0.mk (hp_); have n1_ := Aside0.mk ((by rw [hw]; exact below_set (HB.out) GB5.out : Below w0.heap.size w0 w8)); have n2_ := Aside0.mk (Kept.of_grown (S := (fun k_ => P0_ k_)) hg (by repeat (first | (with_reducible first | exact HK.out | apply Kept.alloc | apply Kept.drewN | apply Kept.drew) | exact HK.out)) (fun k_ e_ => (HO_0.out.1 k_ e_))); clear HO_0; clear HB; clear HK; have HO_0 := n0_; have HB := n1_; have HK := n2_; clear n0_ n1_ n2_; clear hg hw hp_))
     go_roundg k1
     case measure => have := HK1.out; omega
     case rel => exact ⟨(y404), (wrap64 (x1_1 + 1)), (wrap64 (x5_1 + 1)), (by first | rfl | (simp; done) | (simp [*]; done)), (by first | rfl | (simp; done) | (simp [*]; done)), H', ⟨by have := HK1.out; omega⟩, ⟨by (with_reducible repeat (first | apply Kd.R_alloc | apply Kd.R_drewN | apply Kd.R_drew)); exact HO_0.out⟩, ⟨by repeat (first | (with_reducible first | exact HK.out | apply Kept.alloc | apply Kept.drewN | apply Kept.drew) | exact HK.out)⟩, ⟨by repeat (first | (with_reducible first | exact HB.out | apply below_alloc | apply pw_below_drewN | apply below_drew1) | exact HB.out)⟩⟩
    ·rw [if_neg c4] at H
     exact absurd H (by simp)
   ·rw [if_neg c3] at H
    have c3b0 : decide (x5_1 < (x0_1.length : Int)) = false := decide_eq_false c3
    clear c3
    simp only [Option.some.injEq, Prod.mk.injEq] at H
    obtain ⟨rfl, rfl⟩ := H
    obtain ⟨Ao9, co9, eo9⟩ := Kd.R_slice HO_0.out
    subst eo9
    go_wp2
    go_ret
    exact ⟨by first | rfl | (simp [errW_none, errW_some] <;> rfl) | (simp [*, errW_none, errW_some] <;> rfl), by (with_reducible repeat (first | apply Kd.R_alloc | apply Kd.R_drewN | apply Kd.R_drew)); exact HO_0.out, by repeat (first | (with_reducible first | exact HB.out | apply below_alloc | apply pw_below_drewN | apply below_drew1) | exact HB.out), by repeat (first | (with_reducible first | exact HK.out | apply Kept.alloc | apply Kept.drewN | apply Kept.drew) | exact HK.out)⟩
/-! ### laws_markSea: function 10 -/
def laws_markSea.f (k : Nat) (a0_0 : Int) (a0_1 : Int) (l0_2 : List Int) (a1 : Int) : Option (Int × List Int) := (laws_markInt64S.f k l0_2 a1).bind fun bt406 => (some (bt406.1, bt406.2))
set_option maxHeartbeats 8000000 in
set_option maxRecDepth 100000 in
theorem laws_markSea.calls (k : Nat) (a0_0 : Int) (a0_1 : Int) (P0_2_ : Nat → Prop) (u9000_ : Value) (l0_2 : List Int) (a1 : Int) (r1 : Int) (r2 : List Int) (w0 w : World) (hB : Below w0.heap.size w0 w) (ho0_2 : Kd.R (Kd.int .i64) 2 w w0.heap.size P0_2_ u9000_ l0_2) (h : laws_markSea.f k a0_0 a0_1 l0_2 a1 = some (r1, r2)) :
  Calls Tryd.prog 10 #[.agg #[.int .i64 a0_0, .int .i64 a0_1, u9000_], .int .i64 a1] w fun e w' => e = .returned (.int .i64 r1) ∧ Kd.R (Kd.int .i64) 2 w' w0.heap.size (fun k_ => (P0_2_ k_ ∨ w.heap.size ≤ k_)) u9000_ r2 ∧ Below w0.heap.size w0 w' ∧ Kept w w' (fun k_ => P0_2_ k_) := by
 have hu28 := Tryd.underlying28
 have HO0_2 := Aside0.mk (show Kd.R (Kd.int .i64) 2 w w0.heap.size (fun k_ => (P0_2_ k_ ∨ w.heap.size ≤ k_)) u9000_ l0_2 from Kd.R_mono ho0_2 (fun k_ hk => (.inl hk)))
 have HK := Aside0.mk (Kept.refl w (fun k_ => P0_2_ k_))
 have HW0 := Aside0.mk hB.size
 have HB := Aside0.mk hB
 clear hB
 have H : ((laws_markInt64S.f k l0_2 a1).bind fun bt406 => (some (bt406.1, bt406.2))) = some (r1, r2) := h
 clear h
 replace H := Option.bind_eq_some_iff.mp H
 obtain ⟨⟨t406, t407⟩, A30, H⟩ := H
 replace H : (some (t406, t407)) = some (r1, r2) := H
 have A3 := Aside0.mk A30
 clear A30
 simp only [Option.some.injEq, Prod.mk.injEq] at H
 obtain ⟨rfl, rfl⟩ := H
 obtain ⟨Ao4, co4, eo4⟩ := Kd.R_slice HO0_2.out
 subst eo4
 go_enter Tryd.func10, Tryd.ntmps10
 go_wp2_with (first | ((with_reducible refine gate_dst (N := 2) rfl ?_); refine box_event ?hg (N := 2) ?hd (cs := #[.int .i64 a0_0, .int .i64 a0_1, .slice Ao4 l0_2.length co4]) (t := 28) ?hr ?_; (case hd => rfl); (case hg => rfl); (case hr => first | (go_simp; done) | (go_simp; rfl)); intro gb405 hg w5 hbox hb; have n0_ := Aside0.mk (Kd.R_below (by (with_reducible repeat (first | apply Kd.R_alloc | apply Kd.R_drewN | apply Kd.R_drew)); exact HO0_2.out) hb); have n1_ := Aside0.mk (Kept.below (S := (fun k_ => P0_2_ k_)) (by repeat (first | (with_reducible first | exact HK.out | apply Kept.alloc | apply Kept.drewN | apply Kept.drew) | exact HK.out)) hb); have n2_ := Aside0.mk (below_step hb_ hb); have n3_ := Aside0.mk (hbox); have n4_ := Aside0.mk ((by rw [hg]; exact (by first | exact HK.out.1 | exact (show Kept w _ (fun k_ => P0_2_ k_) from by repeat (first | (with_reducible first | exact HK.out | apply Kept.alloc | apply Kept.drewN | apply Kept.drew) | exact HK.out)).1) : w.heap.size ≤ gb405)); have n5_ := Aside0.mk ((by rw [hg]; exact (below_size hb_) : w0.heap.size ≤ gb405)); clear HO0_2; clear HK; clear HB; have HO0_2 := n0_; have HK := n1_; have HB := n2_; have BK405 := n3_; have GW405 := n4_; have GE405 := n5_; clear n0_ n1_ n2_ n3_ n4_ n5_; clear hb hbox hg; have hcz6_0 : w5.cell? ⟨gb405, 0, none⟩ = some (.int .i64 a0_0) := (blk_cell BK405.out 0).trans rfl; have hcz6_1 : w5.cell? ⟨gb405, 1, none⟩ = some (.int .i64 a0_1) := (blk_cell BK405.out 1).trans rfl; have hcz6_2 : w5.cell? ⟨gb405, 2, none⟩ = some (.slice Ao4 l0_2.length co4) := (blk_cell BK405.out 2).trans rfl; have hfz6_0 := blk_frozen BK405.out 0; have hfz6_1 := blk_frozen BK405.out 1; have hfz6_2 := blk_frozen BK405.out 2) | ((with_reducible refine gate_callee (f := 11) rfl ?_); refine goesA_ (some 8) rfl rfl Tryd.func11 (by kernel_rfl) rfl #[.slice Ao4 l0_2.length co4, .int .i64 a1] rfl ?_; (with_reducible refine (laws_markInt64S.calls k (fun k_ => some k_ = (.slice Ao4 l0_2.length co4 : Value).ownBlock) (.slice Ao4 l0_2.length co4) l0_2 a1 t406 t407 w0 _ ?side1 ?side2 A3.out).mono ?_); (case side1 => repeat (first | (with_reducible first | exact HB.out | apply below_alloc | apply pw_below_drewN | apply below_drew1 | refine below_set ?_ GE405.out) | exact HB.out)); (case side2 => exact Kd.R_tight rfl HO0_2.out); rintro e w7 ⟨rfl, hy0, hb, hkp⟩; refine ⟨_, rfl, ?_⟩; have n0_ := Aside0.mk (Kd.R_reok rfl hy0 (fun k_ e_ => HO0_2.out.1 k_ e_)); have n1_ := Aside0.mk (blk_kept (by (with_reducible repeat (first | refine blk_drewN ?_ _ | refine blk_drew ?_ | refine blk_alloc ?_ _)); exact BK405.out) hkp (fun hs_ => (fun e_ => (Kd.R_ne HO0_2.out BK405.out (by decide)) e_) hs_)); have n2_ := Aside0.mk (Kept.then_ (S := (fun k_ => P0_2_ k_)) (by repeat (first | (with_reducible first | exact HK.out | apply Kept.alloc | apply Kept.drewN | apply Kept.drew | refine Kept.setCell ?_ (.inr GW405.out) _) | exact HK.out)) hkp (fun k_ hs_ => (fun e_ => (HO0_2.out.1 k_ e_.symm)) hs_)); have n3_ := Aside0.mk (hb); clear HO0_2; clear BK405; clear HK; clear HB; have HO0_2 := n0_; have BK405 := n1_; have HK := n2_; have HB := n3_; clear n0_ n1_ n2_ n3_; (try clear hb); (try clear hkp); (try clear hy0)))
 go_ret
 exact ⟨by first | rfl | (simp [errW_none, errW_some] <;> rfl) | (simp [*, errW_none, errW_some] <;> rfl), by (with_reducible repeat (first | apply Kd.R_alloc | apply Kd.R_drewN | apply Kd.R_drew)); exact HO0_2.out, by repeat (first | (with_reducible first | exact HB.out | apply below_alloc | apply pw_below_drewN | apply below_drew1 | refine below_set ?_ GE405.out) | exact HB.out), by repeat (first | (with_reducible first | exact HK.out | apply Kept.alloc | apply Kept.drewN | apply Kept.drew | refine Kept.setCell ?_ (.inr GW405.out) _) | exact HK.out)⟩
/-! ### laws_heldInt64S: function 12 -/
def laws_heldInt64S.l0 : Nat → List Int → Int → Int → Option (Int)
 | 0, _, _, _ => none
 | k + 1, x0, x1, x5 => if x5 < (x0.length : Int) then (if 0 ≤ x5 then (if (rd x0 x5) = x1 then (laws_heldInt64S.l0 k x0 (wrap64 (x1 + 1)) (wrap64 (x5 + 1))) else (some (-1))) else (none)) else (some x1)
def laws_heldInt64S.f (k : Nat) (l0 : List Int) (a1 : Int) : Option (Int) := laws_heldInt64S.l0 k l0 a1 0
set_option maxHeartbeats 8000000 in
set_option maxRecDepth 100000 in
theorem laws_heldInt64S.calls (k : Nat) (A0 : Option Addr) (c0 : Nat) (l0 : List Int) (a1 : Int) (r : Int) (w : World) (hr0 : Kd.C (Kd.int .i64) w A0 l0.length l0) (hc0 : l0.length ≤ c0) (h : laws_heldInt64S.f k l0 a1 = some r) :
  Calls Tryd.prog 12 #[.slice A0 l0.length c0, .int .i64 a1] w fun e w' => e = .returned (.int .i64 r) ∧ Drawn0 w w' := by
 have HR0 := Aside0.mk hr0
 have HC0 := Aside0.mk hc0
 clear hr0 hc0
 have H : (laws_heldInt64S.l0 k l0 a1 0) = some r := h
 clear h
 have H' := Aside0.mk H
 clear H
 go_enter Tryd.func12, Tryd.ntmps12
 go_wp2
 go_loopg [1, 5] k (fun kq v1 v5 w' => ∃ (x1_1 : Int) (x5_1 : Int), v1 = .int .i64 x1_1 ∧ v5 = .int .i64 x5_1 ∧ Aside0 (laws_heldInt64S.l0 kq l0 x1_1 x5_1 = some r) ∧ Aside0 (kq ≤ k) ∧ Drawn0 w w')
 case atStart => exact ⟨(a1), (0), (by first | rfl | (simp; done) | (simp [*]; done)), (by first | rfl | (simp; done) | (simp [*]; done)), H', ⟨Nat.le_refl _⟩, by repeat (first | exact Drawn0.refl _ | apply Drawn0.step)⟩
 case round =>
  clear H'
  (try clear c1); (try clear p2)
  obtain ⟨x1_1, x5_1, rfl, rfl, HA, HK1, ⟨m1, rfl⟩⟩ := hrel
  cases gk with
  | zero => exact absurd HA.out (by simp [laws_heldInt64S.l0])
  | succ k1 =>
   have H := HA.out
   clear HA
   simp only [laws_heldInt64S.l0] at H
   by_cases c3 : x5_1 < (l0.length : Int)
   ·rw [if_pos c3] at H
    have c3b0 : decide (x5_1 < (l0.length : Int)) = true := decide_eq_true c3
    clear c3
    by_cases c4 : 0 ≤ x5_1
    ·rw [if_pos c4] at H
     have c4b0 : decide (0 ≤ x5_1) = true := decide_eq_true c4
     clear c4
     by_cases c5 : (rd l0 x5_1) = x1_1
     ·rw [if_pos c5] at H
      have c5b0 : ((rd l0 x5_1) == x1_1) = true := beq_iff_eq.mpr c5
      have c5b1 : ((rd l0 x5_1) != x1_1) = false := bne_eq_false_iff_eq.mpr c5
      clear c5
      have H' := Aside0.mk H
      clear H
      have p408 : 0 ≤ (x5_1 : Int) := oda
      have q408 : x5_1 < (l0.length : Int) := oda
      obtain ⟨ad408, e408, hx408_0⟩ := Kd.at_int HR0.out x5_1 p408 q408
      cases e408
      replace p408 := eq_true p408
      replace q408 := eq_true q408
      go_wp2
      go_roundg k1
      case measure => have := HK1.out; omega
      case rel => exact ⟨(wrap64 (x1_1 + 1)), (wrap64 (x5_1 + 1)), (by first | rfl | (simp; done) | (simp [*]; done)), (by first | rfl | (simp; done) | (simp [*]; done)), H', ⟨by have := HK1.out; omega⟩, by repeat (first | exact Drawn0.refl _ | apply Drawn0.step)⟩
     ·rw [if_neg c5] at H
      have c5b0 : ((rd l0 x5_1) == x1_1) = false := beq_eq_false_iff_ne.mpr c5
      have c5b1 : ((rd l0 x5_1) != x1_1) = true := bne_iff_ne.mpr c5
      obtain rfl := Option.some.inj H
      have p408 : 0 ≤ (x5_1 : Int) := oda
      have q408 : x5_1 < (l0.length : Int) := oda
      obtain ⟨ad408, e408, hx408_0⟩ := Kd.at_int HR0.out x5_1 p408 q408
      cases e408
      replace p408 := eq_true p408
      replace q408 := eq_true q408
      go_wp2
      go_ret
      exact ⟨by first | rfl | (simp; done) | (simp [*]; done), by repeat (first | exact Drawn0.refl _ | apply Drawn0.step)⟩
    ·rw [if_neg c4] at H
     exact absurd H (by simp)
   ·rw [if_neg c3] at H
    have c3b0 : decide (x5_1 < (l0.length : Int)) = false := decide_eq_false c3
    clear c3
    obtain rfl := Option.some.inj H
    go_wp2
    go_ret
    exact ⟨by first | rfl | (simp; done) | (simp [*]; done), by repeat (first | exact Drawn0.refl _ | apply Drawn0.step)⟩
/-! ### impl_within: function 24 -/
def impl_within.f (a0 : Int) (a1 : Int) (a2 : Int) : Option (Bool) := if a1 ≤ a0 then (some (decide (a0 ≤ a2))) else (some false)
set_option maxHeartbeats 8000000 in
set_option maxRecDepth 100000 in
theorem impl_within.calls (a0 : Int) (a1 : Int) (a2 : Int) (r : Bool) (w : World) (h : impl_within.f a0 a1 a2 = some r) :
  Calls Tryd.prog 24 #[.int .i64 a0, .int .i64 a1, .int .i64 a2] w fun e w' => e = .returned (.bool r) ∧ Drawn0 w w' := by
 have H : (if a1 ≤ a0 then (some (decide (a0 ≤ a2))) else (some false)) = some r := h
 clear h
 by_cases c4 : a1 ≤ a0
 ·rw [if_pos c4] at H
  have c4b0 : decide (a1 ≤ a0) = true := decide_eq_true c4
  clear c4
  obtain rfl := Option.some.inj H
  go_enter Tryd.func24, Tryd.ntmps24
  go_wp2
  go_ret
  exact ⟨by first | rfl | (simp; done) | (simp [*]; done), by repeat (first | exact Drawn0.refl _ | apply Drawn0.step)⟩
 ·rw [if_neg c4] at H
  have c4b0 : decide (a1 ≤ a0) = false := decide_eq_false c4
  clear c4
  obtain rfl := Option.some.inj H
  go_enter Tryd.func24, Tryd.ntmps24
  go_wp2
  go_ret
  exact ⟨by first | rfl | (simp; done) | (simp [*]; done), by repeat (first | exact Drawn0.refl _ | apply Drawn0.step)⟩
/-! ### impl_size_int64: function 25 -/
def impl_size_int64.f (l0 : List Int) : Option (Int) := some (l0.length : Int)
set_option maxHeartbeats 8000000 in
set_option maxRecDepth 100000 in
theorem impl_size_int64.calls (A0 : Option Addr) (c0 : Nat) (l0 : List Int) (r : Int) (w : World) (hr0 : Kd.C (Kd.int .i64) w A0 l0.length l0) (hc0 : l0.length ≤ c0) (h : impl_size_int64.f l0 = some r) :
  Calls Tryd.prog 25 #[.slice A0 l0.length c0] w fun e w' => e = .returned (.int .i64 r) ∧ Drawn0 w w' := by
 have HR0 := Aside0.mk hr0
 have HC0 := Aside0.mk hc0
 clear hr0 hc0
 have H : (some (l0.length : Int)) = some r := h
 clear h
 obtain rfl := Option.some.inj H
 go_enter Tryd.func25, Tryd.ntmps25
 go_wp2
 go_ret
 exact ⟨by first | rfl | (simp; done) | (simp [*]; done), by repeat (first | exact Drawn0.refl _ | apply Drawn0.step)⟩
/-! ### impl_IsSea: function 17 -/
mutual
def impl_IsSea.j0 : Nat → Bool → Int → Int → List Int → Option (Bool)
 | 0, _, _, _, _ => none
 | k + 1, x21, x226000, x226001, x226002 => if x21 = true then (some false) else (impl_IsSea.l0 k x226002 (x226002.length : Int) 0 x226000 x226001 x226002)
def impl_IsSea.l0 : Nat → List Int → Int → Int → Int → Int → List Int → Option (Bool)
 | 0, _, _, _, _, _, _ => none
 | k + 1, x23, x24, x25, x226000, x226001, x226002 => if x25 < x24 then (if 0 ≤ x25 then (if x25 < (x23.length : Int) then ((impl_within.f (rd x23 x25) 1 5).bind fun t231 => (if t231 = true then (if x25 > 0 then (if 0 ≤ (wrap64 (x25 - 1)) then (if (wrap64 (x25 - 1)) < (x226002.length : Int) then (if (rd x23 x25) > (rd x226002 (wrap64 (x25 - 1))) then (some false) else (impl_IsSea.l0 k x23 x24 (wrap64 (x25 + 1)) x226000 x226001 x226002)) else (none)) else (none)) else (impl_IsSea.l0 k x23 x24 (wrap64 (x25 + 1)) x226000 x226001 x226002)) else (some false))) else (none)) else (none)) else (some true)
end
def impl_IsSea.f (k : Nat) (a0_0 : Int) (a0_1 : Int) (l0_2 : List Int) : Option (Bool) := (impl_within.f a0_0 1 5).bind fun t226 => (if t226 = true then ((impl_within.f a0_1 1 5).bind fun t227 => (if t227 = true then ((impl_size_int64.f l0_2).bind fun t228 => ((impl_within.f t228 1 3).bind fun t229 => (impl_IsSea.j0 k (!t229) a0_0 a0_1 l0_2))) else (impl_IsSea.j0 k true a0_0 a0_1 l0_2))) else (impl_IsSea.j0 k true a0_0 a0_1 l0_2))
set_option maxHeartbeats 8000000 in
set_option maxRecDepth 100000 in
theorem impl_IsSea.calls (k : Nat) (a0_0 : Int) (a0_1 : Int) (A0_2 : Option Addr) (c0_2 : Nat) (l0_2 : List Int) (r : Bool) (w : World) (hr0_2 : Kd.C (Kd.int .i64) w A0_2 l0_2.length l0_2) (hc0_2 : l0_2.length ≤ c0_2) (h : impl_IsSea.f k a0_0 a0_1 l0_2 = some r) :
  Calls Tryd.prog 17 #[.agg #[.int .i64 a0_0, .int .i64 a0_1, .slice A0_2 l0_2.length c0_2]] w fun e w' => e = .returned (.bool r) ∧ Below w.heap.size w w' := by
 have hu28 := Tryd.underlying28
 have HR0_2 := Aside0.mk hr0_2
 have HC0_2 := Aside0.mk hc0_2
 clear hr0_2 hc0_2
 have HB := Aside0.mk (Below.refl w.heap.size w)
 have H : ((impl_within.f a0_0 1 5).bind fun t226 => (if t226 = true then ((impl_within.f a0_1 1 5).bind fun t227 => (if t227 = true then ((impl_size_int64.f l0_2).bind fun t228 => ((impl_within.f t228 1 3).bind fun t229 => (impl_IsSea.j0 k (!t229) a0_0 a0_1 l0_2))) else (impl_IsSea.j0 k true a0_0 a0_1 l0_2))) else (impl_IsSea.j0 k true a0_0 a0_1 l0_2))) = some r := h
 clear h
 have HC2 := Aside0.mk H
 clear H
 go_enter Tryd.func17, Tryd.ntmps17
 go_upto_region 1 with (first | ((with_reducible refine gate_dst (N := 1) rfl ?_); refine box_event ?hg (N := 1) ?hd (cs := #[.int .i64 a0_0, .int .i64 a0_1, .slice A0_2 l0_2.length c0_2]) (t := 28) ?hr ?_; (case hd => rfl); (case hg => rfl); (case hr => first | (go_simp; done) | (go_simp; rfl)); intro gb225 hg w3 hbox hb; have n0_ := Aside0.mk (below_step hb_ hb); have n1_ := Aside0.mk (hbox); have n2_ := Aside0.mk ((by rw [hg]; exact (below_size hb_) : w.heap.size ≤ gb225)); have n3_ := Aside0.mk ((by rw [hg]; exact (below_size hb_) : w.heap.size ≤ gb225)); clear HB; have HB := n0_; have BK225 := n1_; have GW225 := n2_; have GE225 := n3_; clear n0_ n1_ n2_ n3_; clear hb hbox hg))
 (try simp only [Act.put, List.setIfInBounds_toArray, List.set_cons_zero, List.set_cons_succ])
 go_cut [21] (fun v21 wc => ∃ (kq : Nat) (x21_1 : Bool), v21 = .bool x21_1 ∧ Aside0 (impl_IsSea.j0 kq x21_1 a0_0 a0_1 l0_2 = some r) ∧ Aside0 (kq ≤ k) ∧ Aside0 (wc.heap[gb225]? = some (.cells #[.int .i64 a0_0, .int .i64 a0_1, (.slice A0_2 l0_2.length c0_2)] 28 (0, 0))) ∧ Aside0 (Below w.heap.size w wc))
 case first =>
  have H := HC2.out
  clear HC2
  replace H := Option.bind_eq_some_iff.mp H
  obtain ⟨t226, A40, H⟩ := H
  replace H : (if t226 = true then ((impl_within.f a0_1 1 5).bind fun t227 => (if t227 = true then ((impl_size_int64.f l0_2).bind fun t228 => ((impl_within.f t228 1 3).bind fun t229 => (impl_IsSea.j0 k (!t229) a0_0 a0_1 l0_2))) else (impl_IsSea.j0 k true a0_0 a0_1 l0_2))) else (impl_IsSea.j0 k true a0_0 a0_1 l0_2)) = some r := H
  have A4 := Aside0.mk A40
  clear A40
  by_cases c5 : t226 = true
  ·subst c5
   have H1 : ((impl_within.f a0_1 1 5).bind fun t227 => (if t227 = true then ((impl_size_int64.f l0_2).bind fun t228 => ((impl_within.f t228 1 3).bind fun t229 => (impl_IsSea.j0 k (!t229) a0_0 a0_1 l0_2))) else (impl_IsSea.j0 k true a0_0 a0_1 l0_2))) = some r := by rw [if_pos rfl] at H; exact H
   clear H
   have H := H1
   clear H1
   replace H := Option.bind_eq_some_iff.mp H
   obtain ⟨t227, A60, H⟩ := H
   replace H : (if t227 = true then ((impl_size_int64.f l0_2).bind fun t228 => ((impl_within.f t228 1 3).bind fun t229 => (impl_IsSea.j0 k (!t229) a0_0 a0_1 l0_2))) else (impl_IsSea.j0 k true a0_0 a0_1 l0_2)) = some r := H
   have A6 := Aside0.mk A60
   clear A60
   by_cases c7 : t227 = true
   ·subst c7
    have H1 : ((impl_size_int64.f l0_2).bind fun t228 => ((impl_within.f t228 1 3).bind fun t229 => (impl_IsSea.j0 k (!t229) a0_0 a0_1 l0_2))) = some r := by rw [if_pos rfl] at H; exact H
    clear H
    have H := H1
    clear H1
    replace H := Option.bind_eq_some_iff.mp H
    obtain ⟨t228, A80, H⟩ := H
    replace H : ((impl_within.f t228 1 3).bind fun t229 => (impl_IsSea.j0 k (!t229) a0_0 a0_1 l0_2)) = some r := H
    have A8 := Aside0.mk A80
    clear A80
    replace H := Option.bind_eq_some_iff.mp H
    obtain ⟨t229, A90, H⟩ := H
    replace H : (impl_IsSea.j0 k (!t229) a0_0 a0_1 l0_2) = some r := H
    have A9 := Aside0.mk A90
    clear A90
    have H' := Aside0.mk H
    clear H
    have hcz10_0 : w3.cell? ⟨gb225, 0, none⟩ = some (.int .i64 a0_0) := (blk_cell BK225.out 0).trans rfl
    have hcz10_1 : w3.cell? ⟨gb225, 1, none⟩ = some (.int .i64 a0_1) := (blk_cell BK225.out 1).trans rfl
    have hcz10_2 : w3.cell? ⟨gb225, 2, none⟩ = some (.slice A0_2 l0_2.length c0_2) := (blk_cell BK225.out 2).trans rfl
    have hfz10_0 := blk_frozen BK225.out 0
    have hfz10_1 := blk_frozen BK225.out 1
    have hfz10_2 := blk_frozen BK225.out 2
    go_wp2_with (first | ((with_reducible refine gate_callee (f := 24) rfl ?_); refine goesA_ (some 7) rfl rfl Tryd.func24 (by kernel_rfl) rfl #[.int .i64 a0_0, .int .i64 1, .int .i64 5] rfl ?_; (with_reducible refine (impl_within.calls a0_0 1 5 true _ A4.out).mono ?_); rintro e w' ⟨rfl, ⟨nd, rfl⟩⟩; refine ⟨_, rfl, ?_⟩) | (go_at_call 24; (with_reducible refine (impl_within.calls a0_1 1 5 true _ A6.out).mono ?_); rintro e w' ⟨rfl, ⟨nd, rfl⟩⟩) | (go_at_call 25; (with_reducible refine (impl_size_int64.calls _ _ l0_2 t228 _ ?side1 ?side2 A8.out).mono ?_); (case side1 => repeat (first | exact (Kd.C_below HR0_2.out (by repeat (first | (with_reducible first | exact HB.out | apply below_alloc | apply pw_below_drewN | apply below_drew1 | refine below_set ?_ GE225.out) | exact HB.out))) | (with_reducible refine Kd.C_alloc ?_ _) | (with_reducible refine Kd.C_drewN ?_ _) | (with_reducible refine Kd.C_drew ?_))); (case side2 => exact HC0_2.out); rintro e w' ⟨rfl, ⟨nd, rfl⟩⟩) | (go_at_call 24; (with_reducible refine (impl_within.calls t228 1 3 t229 _ A9.out).mono ?_); rintro e w' ⟨rfl, ⟨nd, rfl⟩⟩))
    go_meet
    case rel => exact ⟨_, (!t229), (by first | rfl | (simp; done) | (simp [*]; done)), H', ⟨by first | omega | exact Nat.le_refl _⟩, ⟨by (with_reducible repeat (first | refine blk_drewN ?_ _ | refine blk_drew ?_ | refine blk_alloc ?_ _)); exact BK225.out⟩, ⟨by repeat (first | (with_reducible first | exact HB.out | apply below_alloc | apply pw_below_drewN | apply below_drew1 | refine below_set ?_ GE225.out) | exact HB.out)⟩⟩
   ·replace c7 := Bool.eq_false_iff.mpr c7
    subst c7
    have H1 : (impl_IsSea.j0 k true a0_0 a0_1 l0_2) = some r := by rw [if_neg (show ¬ (false = true) by decide)] at H; exact H
    clear H
    have H := H1
    clear H1
    have H' := Aside0.mk H
    clear H
    have hcz11_0 : w3.cell? ⟨gb225, 0, none⟩ = some (.int .i64 a0_0) := (blk_cell BK225.out 0).trans rfl
    have hcz11_1 : w3.cell? ⟨gb225, 1, none⟩ = some (.int .i64 a0_1) := (blk_cell BK225.out 1).trans rfl
    have hcz11_2 : w3.cell? ⟨gb225, 2, none⟩ = some (.slice A0_2 l0_2.length c0_2) := (blk_cell BK225.out 2).trans rfl
    have hfz11_0 := blk_frozen BK225.out 0
    have hfz11_1 := blk_frozen BK225.out 1
    have hfz11_2 := blk_frozen BK225.out 2
    go_wp2_with (first | ((with_reducible refine gate_callee (f := 24) rfl ?_); refine goesA_ (some 7) rfl rfl Tryd.func24 (by kernel_rfl) rfl #[.int .i64 a0_0, .int .i64 1, .int .i64 5] rfl ?_; (with_reducible refine (impl_within.calls a0_0 1 5 true _ A4.out).mono ?_); rintro e w' ⟨rfl, ⟨nd, rfl⟩⟩; refine ⟨_, rfl, ?_⟩) | (go_at_call 24; (with_reducible refine (impl_within.calls a0_1 1 5 false _ A6.out).mono ?_); rintro e w' ⟨rfl, ⟨nd, rfl⟩⟩))
    go_meet
    case rel => exact ⟨_, (true), (by first | rfl | (simp; done) | (simp [*]; done)), H', ⟨by first | omega | exact Nat.le_refl _⟩, ⟨by (with_reducible repeat (first | refine blk_drewN ?_ _ | refine blk_drew ?_ | refine blk_alloc ?_ _)); exact BK225.out⟩, ⟨by repeat (first | (with_reducible first | exact HB.out | apply below_alloc | apply pw_below_drewN | apply below_drew1 | refine below_set ?_ GE225.out) | exact HB.out)⟩⟩
  ·replace c5 := Bool.eq_false_iff.mpr c5
   subst c5
   have H1 : (impl_IsSea.j0 k true a0_0 a0_1 l0_2) = some r := by rw [if_neg (show ¬ (false = true) by decide)] at H; exact H
   clear H
   have H := H1
   clear H1
   have H' := Aside0.mk H
   clear H
   have hcz12_0 : w3.cell? ⟨gb225, 0, none⟩ = some (.int .i64 a0_0) := (blk_cell BK225.out 0).trans rfl
   have hcz12_1 : w3.cell? ⟨gb225, 1, none⟩ = some (.int .i64 a0_1) := (blk_cell BK225.out 1).trans rfl
   have hcz12_2 : w3.cell? ⟨gb225, 2, none⟩ = some (.slice A0_2 l0_2.length c0_2) := (blk_cell BK225.out 2).trans rfl
   have hfz12_0 := blk_frozen BK225.out 0
   have hfz12_1 := blk_frozen BK225.out 1
   have hfz12_2 := blk_frozen BK225.out 2
   go_wp2_with (first | ((with_reducible refine gate_callee (f := 24) rfl ?_); refine goesA_ (some 7) rfl rfl Tryd.func24 (by kernel_rfl) rfl #[.int .i64 a0_0, .int .i64 1, .int .i64 5] rfl ?_; (with_reducible refine (impl_within.calls a0_0 1 5 false _ A4.out).mono ?_); rintro e w' ⟨rfl, ⟨nd, rfl⟩⟩; refine ⟨_, rfl, ?_⟩))
   go_meet
   case rel => exact ⟨_, (true), (by first | rfl | (simp; done) | (simp [*]; done)), H', ⟨by first | omega | exact Nat.le_refl _⟩, ⟨by (with_reducible repeat (first | refine blk_drewN ?_ _ | refine blk_drew ?_ | refine blk_alloc ?_ _)); exact BK225.out⟩, ⟨by repeat (first | (with_reducible first | exact HB.out | apply below_alloc | apply pw_below_drewN | apply below_drew1 | refine below_set ?_ GE225.out) | exact HB.out)⟩⟩
 case rest =>
  clear HC2
  (try clear c1); (try clear c2); (try clear p2); (try clear c5); (try clear c7); (try clear hcz10_0); (try clear hcz10_1); (try clear hcz10_2); (try clear hcz11_0); (try clear hcz11_1); (try clear hcz11_2); (try clear hcz12_0); (try clear hcz12_1); (try clear hcz12_2); (try clear hfz10_0); (try clear hfz10_1); (try clear hfz10_2); (try clear hfz11_0); (try clear hfz11_1); (try clear hfz11_2); (try clear hfz12_0); (try clear hfz12_1); (try clear hfz12_2)
  obtain ⟨kq, x21_1, rfl, HA, HJ1, BK225, HB⟩ := hcut
  cases kq with
  | zero => exact absurd HA.out (by simp [impl_IsSea.j0])
  | succ kj1 =>
   have H := HA.out
   clear HA
   simp only [impl_IsSea.j0] at H
   by_cases c13 : x21_1 = true
   ·subst c13
    have H1 : (some false) = some r := by rw [if_pos rfl] at H; exact H
    clear H
    have H := H1
    clear H1
    obtain rfl := Option.some.inj H
    go_wp2
    go_ret
    exact ⟨by first | rfl | (simp [errW_none, errW_some] <;> rfl) | (simp [*, errW_none, errW_some] <;> rfl), by repeat (first | (with_reducible first | exact HB.out | apply below_alloc | apply pw_below_drewN | apply below_drew1 | refine below_set ?_ GE225.out) | exact HB.out)⟩
   ·replace c13 := Bool.eq_false_iff.mpr c13
    subst c13
    have H1 : (impl_IsSea.l0 kj1 l0_2 (l0_2.length : Int) 0 a0_0 a0_1 l0_2) = some r := by rw [if_neg (show ¬ (false = true) by decide)] at H; exact H
    clear H
    have H := H1
    clear H1
    have H' := Aside0.mk H
    clear H
    have hcz14_0 : wc.cell? ⟨gb225, 0, none⟩ = some (.int .i64 a0_0) := (blk_cell BK225.out 0).trans rfl
    have hcz14_1 : wc.cell? ⟨gb225, 1, none⟩ = some (.int .i64 a0_1) := (blk_cell BK225.out 1).trans rfl
    have hcz14_2 : wc.cell? ⟨gb225, 2, none⟩ = some (.slice A0_2 l0_2.length c0_2) := (blk_cell BK225.out 2).trans rfl
    have hfz14_0 := blk_frozen BK225.out 0
    have hfz14_1 := blk_frozen BK225.out 1
    have hfz14_2 := blk_frozen BK225.out 2
    go_wp2
    go_loopg [25] kj1 (fun kq v25 w' => ∃ (x25_2 : Int), v25 = .int .i64 x25_2 ∧ Aside0 (impl_IsSea.l0 kq l0_2 (l0_2.length : Int) x25_2 a0_0 a0_1 l0_2 = some r) ∧ Aside0 (kq ≤ kj1) ∧ Aside0 (w'.heap[gb225]? = some (.cells #[.int .i64 a0_0, .int .i64 a0_1, (.slice A0_2 l0_2.length c0_2)] 28 (0, 0))) ∧ Aside0 (Below w.heap.size w w'))
    case atStart => exact ⟨(0), (by first | rfl | (simp; done) | (simp [*]; done)), H', ⟨Nat.le_refl _⟩, ⟨by (with_reducible repeat (first | refine blk_drewN ?_ _ | refine blk_drew ?_ | refine blk_alloc ?_ _)); exact BK225.out⟩, ⟨by repeat (first | (with_reducible first | exact HB.out | apply below_alloc | apply pw_below_drewN | apply below_drew1 | refine below_set ?_ GE225.out) | exact HB.out)⟩⟩
    case round =>
     clear H'
     (try clear c1); (try clear c2); (try clear p2); (try clear c5); (try clear c7); (try clear c13); (try clear hcz10_0); (try clear hcz10_1); (try clear hcz10_2); (try clear hcz11_0); (try clear hcz11_1); (try clear hcz11_2); (try clear hcz12_0); (try clear hcz12_1); (try clear hcz12_2); (try clear hcz14_0); (try clear hcz14_1); (try clear hcz14_2); (try clear hfz10_0); (try clear hfz10_1); (try clear hfz10_2); (try clear hfz11_0); (try clear hfz11_1); (try clear hfz11_2); (try clear hfz12_0); (try clear hfz12_1); (try clear hfz12_2); (try clear hfz14_0); (try clear hfz14_1); (try clear hfz14_2); (try clear p2)
     obtain ⟨x25_2, rfl, HA, HK2, BK225, HB⟩ := hrel
     cases gk with
     | zero => exact absurd HA.out (by simp [impl_IsSea.l0])
     | succ k2 =>
      have H := HA.out
      clear HA
      simp only [impl_IsSea.l0] at H
      by_cases c15 : x25_2 < (l0_2.length : Int)
      ·rw [if_pos c15] at H
       have c15b0 : decide (x25_2 < (l0_2.length : Int)) = true := decide_eq_true c15
       clear c15
       by_cases c16 : 0 ≤ x25_2
       ·rw [if_pos c16] at H
        have c16b0 : decide (0 ≤ x25_2) = true := decide_eq_true c16
        clear c16
        by_cases c17 : x25_2 < (l0_2.length : Int)
        ·rw [if_pos c17] at H
         have c17b0 : decide (x25_2 < (l0_2.length : Int)) = true := decide_eq_true c17
         clear c17
         replace H := Option.bind_eq_some_iff.mp H
         obtain ⟨t231, A180, H⟩ := H
         replace H : (if t231 = true then (if x25_2 > 0 then (if 0 ≤ (wrap64 (x25_2 - 1)) then (if (wrap64 (x25_2 - 1)) < (l0_2.length : Int) then (if (rd l0_2 x25_2) > (rd l0_2 (wrap64 (x25_2 - 1))) then (some false) else (impl_IsSea.l0 k2 l0_2 (l0_2.length : Int) (wrap64 (x25_2 + 1)) a0_0 a0_1 l0_2)) else (none)) else (none)) else (impl_IsSea.l0 k2 l0_2 (l0_2.length : Int) (wrap64 (x25_2 + 1)) a0_0 a0_1 l0_2)) else (some false)) = some r := H
         have A18 := Aside0.mk A180
         clear A180
         by_cases c19 : t231 = true
         ·subst c19
          have H1 : (if x25_2 > 0 then (if 0 ≤ (wrap64 (x25_2 - 1)) then (if (wrap64 (x25_2 - 1)) < (l0_2.length : Int) then (if (rd l0_2 x25_2) > (rd l0_2 (wrap64 (x25_2 - 1))) then (some false) else (impl_IsSea.l0 k2 l0_2 (l0_2.length : Int) (wrap64 (x25_2 + 1)) a0_0 a0_1 l0_2)) else (none)) else (none)) else (impl_IsSea.l0 k2 l0_2 (l0_2.length : Int) (wrap64 (x25_2 + 1)) a0_0 a0_1 l0_2)) = some r := by rw [if_pos rfl] at H; exact H
          clear H
          have H := H1
          clear H1
          by_cases c20 : x25_2 > 0
          ·rw [if_pos c20] at H
           have c20b0 : decide (0 < x25_2) = true := decide_eq_true c20
           clear c20
           obtain ⟨ji21, hji21⟩ : ∃ j_ : Int, (wrap64 (x25_2 - 1)) = j_ := ⟨_, rfl⟩
           replace H : (if 0 ≤ (ji21) then (if (ji21) < (l0_2.length : Int) then (if (rd l0_2 x25_2) > (rd l0_2 (ji21)) then (some false) else (impl_IsSea.l0 k2 l0_2 (l0_2.length : Int) (wrap64 (x25_2 + 1)) a0_0 a0_1 l0_2)) else (none)) else (none)) = some r := by first | (rw [hji21] at H; exact H) | (simp only [hji21] at H ⊢; exact H)
           (try rw [hji21] at A18)
           have hji21w : (IntKind.i64.wrap (x25_2 - 1)) = ji21 := (i64_w _).trans hji21
           by_cases c22 : 0 ≤ (ji21)
           ·rw [if_pos c22] at H
            have c22b0 : decide (0 ≤ (ji21)) = true := decide_eq_true c22
            clear c22
            by_cases c23 : (ji21) < (l0_2.length : Int)
            ·rw [if_pos c23] at H
             have c23b0 : decide ((ji21) < (l0_2.length : Int)) = true := decide_eq_true c23
             clear c23
             by_cases c24 : (rd l0_2 x25_2) > (rd l0_2 (ji21))
             ·rw [if_pos c24] at H
              have c24b0 : decide ((rd l0_2 (ji21)) < (rd l0_2 x25_2)) = true := decide_eq_true c24
              clear c24
              obtain rfl := Option.some.inj H
              have p230 : 0 ≤ (x25_2 : Int) := oda
              have q230 : x25_2 < (l0_2.length : Int) := oda
              obtain ⟨ad230, e230, hx230_0⟩ := Kd.at_int HR0_2.out x25_2 p230 q230
              cases e230
              replace hx230_0 := (HB.out.cell (World.block_lt_of_cell? w _ hx230_0)).trans hx230_0
              replace p230 := eq_true p230
              replace q230 := eq_true q230
              go_wp2_with (first | ((with_reducible refine gate_callee (f := 24) rfl ?_); refine goesA_ (some 31) rfl rfl Tryd.func24 (by kernel_rfl) rfl #[.int .i64 (rd l0_2 x25_2), .int .i64 1, .int .i64 5] rfl ?_; (with_reducible refine (impl_within.calls (rd l0_2 x25_2) 1 5 true _ A18.out).mono ?_); rintro e w' ⟨rfl, ⟨nd, rfl⟩⟩; refine ⟨_, rfl, ?_⟩; have hcz25_0 : wr.cell? ⟨gb225, 0, none⟩ = some (.int .i64 a0_0) := (blk_cell BK225.out 0).trans rfl; have hcz25_1 : wr.cell? ⟨gb225, 1, none⟩ = some (.int .i64 a0_1) := (blk_cell BK225.out 1).trans rfl; have hcz25_2 : wr.cell? ⟨gb225, 2, none⟩ = some (.slice (some ad230) l0_2.length c0_2) := (blk_cell BK225.out 2).trans rfl; have hfz25_0 := blk_frozen BK225.out 0; have hfz25_1 := blk_frozen BK225.out 1; have hfz25_2 := blk_frozen BK225.out 2; have p232 : 0 ≤ ((ji21) : Int) := oda; have q232 : (ji21) < (l0_2.length : Int) := oda; obtain ⟨ad232, e232, hx232_0⟩ := Kd.at_int HR0_2.out (ji21) p232 q232; obtain rfl : ad230 = ad232 := (by injection e232); replace hx232_0 := (HB.out.cell (World.block_lt_of_cell? w _ hx232_0)).trans hx232_0; replace p232 := eq_true p232; replace q232 := eq_true q232))
              go_ret
              exact ⟨by first | rfl | (simp [errW_none, errW_some] <;> rfl) | (simp only [← hji21]; first | rfl | (simp [errW_none, errW_some] <;> rfl)) | (simp [*, errW_none, errW_some] <;> rfl), by repeat (first | (with_reducible first | exact HB.out | apply below_alloc | apply pw_below_drewN | apply below_drew1 | refine below_set ?_ GE225.out) | exact HB.out)⟩
             ·rw [if_neg c24] at H
              have c24b0 : decide ((rd l0_2 (ji21)) < (rd l0_2 x25_2)) = false := decide_eq_false c24
              clear c24
              have H' := Aside0.mk H
              clear H
              have p230 : 0 ≤ (x25_2 : Int) := oda
              have q230 : x25_2 < (l0_2.length : Int) := oda
              obtain ⟨ad230, e230, hx230_0⟩ := Kd.at_int HR0_2.out x25_2 p230 q230
              cases e230
              replace hx230_0 := (HB.out.cell (World.block_lt_of_cell? w _ hx230_0)).trans hx230_0
              replace p230 := eq_true p230
              replace q230 := eq_true q230
              go_wp2_with (first | ((with_reducible refine gate_callee (f := 24) rfl ?_); refine goesA_ (some 31) rfl rfl Tryd.func24 (by kernel_rfl) rfl #[.int .i64 (rd l0_2 x25_2), .int .i64 1, .int .i64 5] rfl ?_; (with_reducible refine (impl_within.calls (rd l0_2 x25_2) 1 5 true _ A18.out).mono ?_); rintro e w' ⟨rfl, ⟨nd, rfl⟩⟩; refine ⟨_, rfl, ?_⟩; have hcz26_0 : wr.cell? ⟨gb225, 0, none⟩ = some (.int .i64 a0_0) := (blk_cell BK225.out 0).trans rfl; have hcz26_1 : wr.cell? ⟨gb225, 1, none⟩ = some (.int .i64 a0_1) := (blk_cell BK225.out 1).trans rfl; have hcz26_2 : wr.cell? ⟨gb225, 2, none⟩ = some (.slice (some ad230) l0_2.length c0_2) := (blk_cell BK225.out 2).trans rfl; have hfz26_0 := blk_frozen BK225.out 0; have hfz26_1 := blk_frozen BK225.out 1; have hfz26_2 := blk_frozen BK225.out 2; have p232 : 0 ≤ ((ji21) : Int) := oda; have q232 : (ji21) < (l0_2.length : Int) := oda; obtain ⟨ad232, e232, hx232_0⟩ := Kd.at_int HR0_2.out (ji21) p232 q232; obtain rfl : ad230 = ad232 := (by injection e232); replace hx232_0 := (HB.out.cell (World.block_lt_of_cell? w _ hx232_0)).trans hx232_0; replace p232 := eq_true p232; replace q232 := eq_true q232))
              go_roundg k2
              case measure => have := HJ1.out; have := HK2.out; omega
              case rel => exact ⟨(wrap64 (x25_2 + 1)), (by first | rfl | (simp; done) | (simp [*]; done)), H', ⟨by have := HJ1.out; have := HK2.out; omega⟩, ⟨by (with_reducible repeat (first | refine blk_drewN ?_ _ | refine blk_drew ?_ | refine blk_alloc ?_ _)); exact BK225.out⟩, ⟨by repeat (first | (with_reducible first | exact HB.out | apply below_alloc | apply pw_below_drewN | apply below_drew1 | refine below_set ?_ GE225.out) | exact HB.out)⟩⟩
            ·rw [if_neg c23] at H
             exact absurd H (by simp)
           ·rw [if_neg c22] at H
            exact absurd H (by simp)
          ·rw [if_neg c20] at H
           have c20b0 : decide (0 < x25_2) = false := decide_eq_false c20
           clear c20
           have H' := Aside0.mk H
           clear H
           have p230 : 0 ≤ (x25_2 : Int) := oda
           have q230 : x25_2 < (l0_2.length : Int) := oda
           obtain ⟨ad230, e230, hx230_0⟩ := Kd.at_int HR0_2.out x25_2 p230 q230
           cases e230
           replace hx230_0 := (HB.out.cell (World.block_lt_of_cell? w _ hx230_0)).trans hx230_0
           replace p230 := eq_true p230
           replace q230 := eq_true q230
           go_wp2_with (first | ((with_reducible refine gate_callee (f := 24) rfl ?_); refine goesA_ (some 31) rfl rfl Tryd.func24 (by kernel_rfl) rfl #[.int .i64 (rd l0_2 x25_2), .int .i64 1, .int .i64 5] rfl ?_; (with_reducible refine (impl_within.calls (rd l0_2 x25_2) 1 5 true _ A18.out).mono ?_); rintro e w' ⟨rfl, ⟨nd, rfl⟩⟩; refine ⟨_, rfl, ?_⟩))
           go_roundg k2
           case measure => have := HJ1.out; have := HK2.out; omega
           case rel => exact ⟨(wrap64 (x25_2 + 1)), (by first | rfl | (simp; done) | (simp [*]; done)), H', ⟨by have := HJ1.out; have := HK2.out; omega⟩, ⟨by (with_reducible repeat (first | refine blk_drewN ?_ _ | refine blk_drew ?_ | refine blk_alloc ?_ _)); exact BK225.out⟩, ⟨by repeat (first | (with_reducible first | exact HB.out | apply below_alloc | apply pw_below_drewN | apply below_drew1 | refine below_set ?_ GE225.out) | exact HB.out)⟩⟩
         ·replace c19 := Bool.eq_false_iff.mpr c19
          subst c19
          have H1 : (some false) = some r := by rw [if_neg (show ¬ (false = true) by decide)] at H; exact H
          clear H
          have H := H1
          clear H1
          obtain rfl := Option.some.inj H
          have p230 : 0 ≤ (x25_2 : Int) := oda
          have q230 : x25_2 < (l0_2.length : Int) := oda
          obtain ⟨ad230, e230, hx230_0⟩ := Kd.at_int HR0_2.out x25_2 p230 q230
          cases e230
          replace hx230_0 := (HB.out.cell (World.block_lt_of_cell? w _ hx230_0)).trans hx230_0
          replace p230 := eq_true p230
          replace q230 := eq_true q230
          go_wp2_with (first | ((with_reducible refine gate_callee (f := 24) rfl ?_); refine goesA_ (some 31) rfl rfl Tryd.func24 (by kernel_rfl) rfl #[.int .i64 (rd l0_2 x25_2), .int .i64 1, .int .i64 5] rfl ?_; (with_reducible refine (impl_within.calls (rd l0_2 x25_2) 1 5 false _ A18.out).mono ?_); rintro e w' ⟨rfl, ⟨nd, rfl⟩⟩; refine ⟨_, rfl, ?_⟩))
          go_ret
          exact ⟨by first | rfl | (simp [errW_none, errW_some] <;> rfl) | (simp [*, errW_none, errW_some] <;> rfl), by repeat (first | (with_reducible first | exact HB.out | apply below_alloc | apply pw_below_drewN | apply below_drew1 | refine below_set ?_ GE225.out) | exact HB.out)⟩
        ·rw [if_neg c17] at H
         exact absurd H (by simp)
       ·rw [if_neg c16] at H
        exact absurd H (by simp)
      ·rw [if_neg c15] at H
       have c15b0 : decide (x25_2 < (l0_2.length : Int)) = false := decide_eq_false c15
       clear c15
       obtain rfl := Option.some.inj H
       go_wp2
       go_ret
       exact ⟨by first | rfl | (simp [errW_none, errW_some] <;> rfl) | (simp [*, errW_none, errW_some] <;> rfl), by repeat (first | (with_reducible first | exact HB.out | apply below_alloc | apply pw_below_drewN | apply below_drew1 | refine below_set ?_ GE225.out) | exact HB.out)⟩
def Tryd.lays169_ren : Go.Shelf.Ren := ⟨fun | 169 => 37 | n => n, fun | 70 => 57 | 9 => 9 | 0 => 0 | 72 => 59 | 37 => 51 | 127 => 75 | 3 => 3 | 5 => 5 | n => n, fun | n => n⟩
theorem Tryd.lays169 : Go.Proofs.Lays.n169 Tryd.prog Tryd.lays169_ren := {
  mixed := by kernel_rfl
  f169 := Tryd.func37.trans (congrArg some (by kernel_rfl))
  t0 := Tryd.underlying0
  a0 := Tryd.isAgg0
  z0 := Tryd.sizeOf0
  v0 := Tryd.zeroValue0
  t3 := Tryd.underlying3
  a3 := Tryd.isAgg3
  z3 := Tryd.sizeOf3
  v3 := Tryd.zeroValue3
  t9 := Tryd.underlying9
  a9 := Tryd.isAgg9
  z9 := Tryd.sizeOf9
  v9 := Tryd.zeroValue9
  t37 := Tryd.underlying51
  a37 := Tryd.isAgg51
  z37 := Tryd.sizeOf51
  v37 := Tryd.zeroValue51
  t70 := Tryd.underlying57
  a70 := Tryd.isAgg57
  z70 := Tryd.sizeOf57
  v70 := Tryd.zeroValue57
  t72 := Tryd.underlying59
  a72 := Tryd.isAgg59
  z72 := Tryd.sizeOf59
  v72 := Tryd.zeroValue59
  t127 := Tryd.underlying75
  a127 := Tryd.isAgg75
  z127 := Tryd.sizeOf75
  v127 := Tryd.zeroValue75 }
theorem Tryd.Builder_Extra_169 : Builder.Extra Tryd.prog Tryd.lays169_ren := {
  sizeBuilder := by kernel_rfl
  liesBuilder := by kernel_rfl
  t5 := Tryd.underlying5
  a5 := Tryd.isAgg5
  z5 := Tryd.sizeOf5
  v5 := Tryd.zeroValue5
  infoByte := by kernel_rfl
  cellsByte := by kernel_rfl
  sizeByte := by kernel_rfl
  neB5 := by decide }
theorem Tryd.Builder_String_any (B b : Nat) (l : List UInt8) (w : World) (h : Lib.IsBuilder 59 5 B b (Lib.byteCells l) w) (hBw : B ≤ w.heap.size) :
    Calls Tryd.prog 37 #[.pointer (some ⟨b, 0, none⟩)] w fun e w' => e = .returned (.string ⟨l.toArray⟩) ∧ Below B w w' := Any.Builder_String_any Tryd.lays169 Tryd.Builder_Extra_169 B b l w h hBw
def Tryd.lays165_ren : Go.Shelf.Ren := ⟨fun | 165 => 33 | 240 => 44 | 241 => 45 | 276 => 56 | 277 => 57 | n => n, fun | 70 => 57 | 3 => 3 | 0 => 0 | 4 => 4 | 9 => 9 | 20 => 20 | 72 => 59 | 37 => 51 | 164 => 85 | 5 => 5 | n => n, fun | n => n⟩
theorem Tryd.lays165 : Go.Proofs.Lays.n165 Tryd.prog Tryd.lays165_ren := {
  mixed := by kernel_rfl
  f165 := Tryd.func33.trans (congrArg some (by kernel_rfl))
  f240 := Tryd.func44.trans (congrArg some (by kernel_rfl))
  f241 := Tryd.func45.trans (congrArg some (by kernel_rfl))
  f276 := Tryd.func56.trans (congrArg some (by kernel_rfl))
  f277 := Tryd.func57.trans (congrArg some (by kernel_rfl))
  t0 := Tryd.underlying0
  a0 := Tryd.isAgg0
  z0 := Tryd.sizeOf0
  v0 := Tryd.zeroValue0
  t3 := Tryd.underlying3
  a3 := Tryd.isAgg3
  z3 := Tryd.sizeOf3
  v3 := Tryd.zeroValue3
  t4 := Tryd.underlying4
  a4 := Tryd.isAgg4
  z4 := Tryd.sizeOf4
  v4 := Tryd.zeroValue4
  t9 := Tryd.underlying9
  a9 := Tryd.isAgg9
  z9 := Tryd.sizeOf9
  v9 := Tryd.zeroValue9
  t20 := Tryd.underlying20
  a20 := Tryd.isAgg20
  z20 := Tryd.sizeOf20
  v20 := Tryd.zeroValue20
  t37 := Tryd.underlying51
  a37 := Tryd.isAgg51
  z37 := Tryd.sizeOf51
  v37 := Tryd.zeroValue51
  t70 := Tryd.underlying57
  a70 := Tryd.isAgg57
  z70 := Tryd.sizeOf57
  v70 := Tryd.zeroValue57
  t72 := Tryd.underlying59
  a72 := Tryd.isAgg59
  z72 := Tryd.sizeOf59
  v72 := Tryd.zeroValue59
  t164 := Tryd.underlying85
  a164 := Tryd.isAgg85
  z164 := Tryd.sizeOf85
  v164 := Tryd.zeroValue85 }
theorem Tryd.Builder_Extra_165 : Builder.Extra Tryd.prog Tryd.lays165_ren := {
  sizeBuilder := by kernel_rfl
  liesBuilder := by kernel_rfl
  t5 := Tryd.underlying5
  a5 := Tryd.isAgg5
  z5 := Tryd.sizeOf5
  v5 := Tryd.zeroValue5
  infoByte := by kernel_rfl
  cellsByte := by kernel_rfl
  sizeByte := by kernel_rfl
  neB5 := by decide }
theorem Tryd.Builder_Grow_fresh (B b n : Nat) (w : World) (hB : B ≤ b) (hbk : w.heap[b]? = some (.cells #[.pointer none, .slice none 0 0] 59 (0, 0))) (hBw : B ≤ w.heap.size) (hn : n ≤ 281474976710656) :
    Calls Tryd.prog 33 #[.pointer (some ⟨b, 0, none⟩), .int .i64 n] w fun e w' => e = .returned (.tuple #[]) ∧ (Lib.BuilderAt 59 5 B b (.pointer (some ⟨b, 0, none⟩)) [] w' ∧ Below B w w') := Any.Builder_Grow_fresh Tryd.lays165 Tryd.Builder_Extra_165 B b n w hB hbk hBw hn
def Tryd.lays143_ren : Go.Shelf.Ren := ⟨fun | 143 => 34 | 219 => 46 | 217 => 58 | 225 => 59 | 224 => 60 | 267 => 61 | 266 => 69 | 314 => 70 | n => n, fun | 9 => 9 | 3 => 3 | 4 => 4 | 5 => 5 | 46 => 89 | 146 => 100 | 51 => 99 | n => n, fun | 1 => 0 | n => n⟩
theorem Tryd.lays143 : Go.Proofs.Lays.n143 Tryd.prog Tryd.lays143_ren := {
  mixed := by kernel_rfl
  f143 := Tryd.func34.trans (congrArg some (by kernel_rfl))
  f217 := Tryd.func58.trans (congrArg some (by kernel_rfl))
  f219 := Tryd.func46.trans (congrArg some (by kernel_rfl))
  f224 := Tryd.func60.trans (congrArg some (by kernel_rfl))
  f225 := Tryd.func59.trans (congrArg some (by kernel_rfl))
  f266 := Tryd.func69.trans (congrArg some (by kernel_rfl))
  f267 := Tryd.func61.trans (congrArg some (by kernel_rfl))
  f314 := Tryd.func70.trans (congrArg some (by kernel_rfl))
  t3 := Tryd.underlying3
  a3 := Tryd.isAgg3
  z3 := Tryd.sizeOf3
  v3 := Tryd.zeroValue3
  t4 := Tryd.underlying4
  a4 := Tryd.isAgg4
  z4 := Tryd.sizeOf4
  v4 := Tryd.zeroValue4
  t5 := Tryd.underlying5
  a5 := Tryd.isAgg5
  z5 := Tryd.sizeOf5
  v5 := Tryd.zeroValue5
  t9 := Tryd.underlying9
  a9 := Tryd.isAgg9
  z9 := Tryd.sizeOf9
  v9 := Tryd.zeroValue9
  t46 := Tryd.underlying89
  a46 := Tryd.isAgg89
  z46 := Tryd.sizeOf89
  v46 := Tryd.zeroValue89
  t51 := Tryd.underlying99
  a51 := Tryd.isAgg99
  z51 := Tryd.sizeOf99
  v51 := Tryd.zeroValue99
  t146 := Tryd.underlying100
  a146 := Tryd.isAgg100
  z146 := Tryd.sizeOf100
  v146 := Tryd.zeroValue100
  g1 := by kernel_rfl }
open Go.RowKit Go.Lib in
theorem Tryd.strings_Index_one (s : ByteArray) (c : UInt8) (w : World) :
    Calls Tryd.prog 34 #[.string s, .string ⟨#[c]⟩] w fun e w' => e = .returned (.int .i64 (Lib.indexByte s.data.toList c)) ∧ w' = w := Any.strings_Index_one Tryd.lays143 s c w
def Tryd.lays138_ren : Go.Shelf.Ren := ⟨fun | 138 => 32 | 195 => 42 | 218 => 43 | 143 => 34 | 219 => 46 | 217 => 58 | 225 => 59 | 224 => 60 | 267 => 61 | 266 => 69 | 314 => 70 | n => n, fun | 9 => 9 | 3 => 3 | 4 => 4 | 5 => 5 | 0 => 0 | 46 => 89 | 146 => 100 | 51 => 99 | n => n, fun | 1 => 0 | n => n⟩
theorem Tryd.lays138 : Go.Proofs.Lays.n138 Tryd.prog Tryd.lays138_ren := {
  mixed := by kernel_rfl
  f138 := Tryd.func32.trans (congrArg some (by kernel_rfl))
  f143 := Tryd.func34.trans (congrArg some (by kernel_rfl))
  f195 := Tryd.func42.trans (congrArg some (by kernel_rfl))
  f217 := Tryd.func58.trans (congrArg some (by kernel_rfl))
  f218 := Tryd.func43.trans (congrArg some (by kernel_rfl))
  f219 := Tryd.func46.trans (congrArg some (by kernel_rfl))
  f224 := Tryd.func60.trans (congrArg some (by kernel_rfl))
  f225 := Tryd.func59.trans (congrArg some (by kernel_rfl))
  f266 := Tryd.func69.trans (congrArg some (by kernel_rfl))
  f267 := Tryd.func61.trans (congrArg some (by kernel_rfl))
  f314 := Tryd.func70.trans (congrArg some (by kernel_rfl))
  t0 := Tryd.underlying0
  a0 := Tryd.isAgg0
  z0 := Tryd.sizeOf0
  v0 := Tryd.zeroValue0
  t3 := Tryd.underlying3
  a3 := Tryd.isAgg3
  z3 := Tryd.sizeOf3
  v3 := Tryd.zeroValue3
  t4 := Tryd.underlying4
  a4 := Tryd.isAgg4
  z4 := Tryd.sizeOf4
  v4 := Tryd.zeroValue4
  t5 := Tryd.underlying5
  a5 := Tryd.isAgg5
  z5 := Tryd.sizeOf5
  v5 := Tryd.zeroValue5
  t9 := Tryd.underlying9
  a9 := Tryd.isAgg9
  z9 := Tryd.sizeOf9
  v9 := Tryd.zeroValue9
  t46 := Tryd.underlying89
  a46 := Tryd.isAgg89
  z46 := Tryd.sizeOf89
  v46 := Tryd.zeroValue89
  t51 := Tryd.underlying99
  a51 := Tryd.isAgg99
  z51 := Tryd.sizeOf99
  v51 := Tryd.zeroValue99
  t146 := Tryd.underlying100
  a146 := Tryd.isAgg100
  z146 := Tryd.sizeOf100
  v146 := Tryd.zeroValue100
  g1 := by kernel_rfl }
open Go.RowKit Go.Lib in
theorem Tryd.strings_Count_one (s : ByteArray) (c : UInt8) (w : World) :
    Calls Tryd.prog 32 #[.string s, .string ⟨#[c]⟩] w fun e w' => e = .returned (.int .i64 (Lib.countByte s.data.toList c)) ∧ w' = w := Any.strings_Count_one Tryd.lays138 s c w
def Tryd.lays156_ren : Go.Shelf.Ren := ⟨fun | 156 => 30 | 165 => 33 | 166 => 35 | 169 => 37 | 240 => 44 | 241 => 45 | 276 => 56 | 277 => 57 | n => n, fun | 31 => 43 | 9 => 9 | 3 => 3 | 4 => 4 | 0 => 0 | 20 => 20 | 72 => 59 | 76 => 63 | 70 => 57 | 37 => 51 | 75 => 62 | 127 => 75 | 164 => 85 | 5 => 5 | 80 => 67 | n => n, fun | n => n⟩
theorem Tryd.lays156 : Go.Proofs.Lays.n156 Tryd.prog Tryd.lays156_ren := {
  mixed := by kernel_rfl
  f156 := Tryd.func30.trans (congrArg some (by kernel_rfl))
  f165 := Tryd.func33.trans (congrArg some (by kernel_rfl))
  f166 := Tryd.func35.trans (congrArg some (by kernel_rfl))
  f169 := Tryd.func37.trans (congrArg some (by kernel_rfl))
  f240 := Tryd.func44.trans (congrArg some (by kernel_rfl))
  f241 := Tryd.func45.trans (congrArg some (by kernel_rfl))
  f276 := Tryd.func56.trans (congrArg some (by kernel_rfl))
  f277 := Tryd.func57.trans (congrArg some (by kernel_rfl))
  t0 := Tryd.underlying0
  a0 := Tryd.isAgg0
  z0 := Tryd.sizeOf0
  v0 := Tryd.zeroValue0
  t3 := Tryd.underlying3
  a3 := Tryd.isAgg3
  z3 := Tryd.sizeOf3
  v3 := Tryd.zeroValue3
  t4 := Tryd.underlying4
  a4 := Tryd.isAgg4
  z4 := Tryd.sizeOf4
  v4 := Tryd.zeroValue4
  t9 := Tryd.underlying9
  a9 := Tryd.isAgg9
  z9 := Tryd.sizeOf9
  v9 := Tryd.zeroValue9
  t20 := Tryd.underlying20
  a20 := Tryd.isAgg20
  z20 := Tryd.sizeOf20
  v20 := Tryd.zeroValue20
  t31 := Tryd.underlying43
  a31 := Tryd.isAgg43
  z31 := Tryd.sizeOf43
  v31 := Tryd.zeroValue43
  t37 := Tryd.underlying51
  a37 := Tryd.isAgg51
  z37 := Tryd.sizeOf51
  v37 := Tryd.zeroValue51
  t70 := Tryd.underlying57
  a70 := Tryd.isAgg57
  z70 := Tryd.sizeOf57
  v70 := Tryd.zeroValue57
  t72 := Tryd.underlying59
  a72 := Tryd.isAgg59
  z72 := Tryd.sizeOf59
  v72 := Tryd.zeroValue59
  t75 := Tryd.underlying62
  a75 := Tryd.isAgg62
  z75 := Tryd.sizeOf62
  v75 := Tryd.zeroValue62
  t76 := Tryd.underlying63
  a76 := Tryd.isAgg63
  z76 := Tryd.sizeOf63
  v76 := Tryd.zeroValue63
  t127 := Tryd.underlying75
  a127 := Tryd.isAgg75
  z127 := Tryd.sizeOf75
  v127 := Tryd.zeroValue75
  t164 := Tryd.underlying85
  a164 := Tryd.isAgg85
  z164 := Tryd.sizeOf85
  v164 := Tryd.zeroValue85 }
theorem Tryd.Builder_Extra_156 : Builder.Extra Tryd.prog Tryd.lays156_ren := {
  sizeBuilder := by kernel_rfl
  liesBuilder := by kernel_rfl
  t5 := Tryd.underlying5
  a5 := Tryd.isAgg5
  z5 := Tryd.sizeOf5
  v5 := Tryd.zeroValue5
  infoByte := by kernel_rfl
  cellsByte := by kernel_rfl
  sizeByte := by kernel_rfl
  neB5 := by decide }
theorem Tryd.strings_Join (bk o c : Nat) (xs : List ByteArray) (sep : ByteArray) (w : World) (hcells : ∀ (j : Nat) x, xs[j]? = some x → w.cell? ⟨bk, o + j, none⟩ = some (.string x)) (hbk : bk < w.heap.size) (hN : xs.length ≤ 140737488355328) (hcap : xs.length ≤ c) (hlen : (Lib.join (xs.map (·.data.toList)) sep.data.toList).length ≤ 140737488355328) :
    Calls Tryd.prog 30 #[.slice (some ⟨bk, o, none⟩) xs.length c, .string sep] w fun e w' => e = .returned (.string ⟨(Lib.join (xs.map (·.data.toList)) sep.data.toList).toArray⟩) ∧ Below w.heap.size w w' := Any.strings_Join Tryd.lays156 Tryd.Builder_Extra_156 bk o c xs sep w hcells hbk hN hcap hlen
/-! ### strings_ReplaceAll: function 18 -/
-- EXTERNAL: by hand
-- The bytes that are no slash.
def noS (l : List UInt8) : List UInt8 := l.filter fun b => b != 47
theorem noS_zero : ∀ l : List UInt8, l.count 47 = 0 → noS l = l
  | [], _ => rfl
  | b :: r, h => by
    rw [List.count_cons] at h
    have hb : (b == 47) = false := by
      cases hb : b == 47 with
      | false => rfl
      | true => rw [hb] at h; simp at h
    unfold noS
    rw [List.filter_cons, if_pos (by simp only [bne, hb]; rfl)]
    have := noS_zero r (by omega)
    unfold noS at this
    rw [this]
theorem noS_hit : ∀ (l : List UInt8) (n : Nat), l.count 47 = n + 1 → ∃ j : Nat, Lib.indexByte l 47 = (j : Int) ∧ j < l.length ∧ noS l = l.take j ++ noS (l.drop (j + 1)) ∧ (l.drop (j + 1)).count 47 = n
  | [], n, h => by simp at h
  | b :: r, n, h => by
    rw [List.count_cons] at h
    cases hb : b == 47 with
    | true =>
      rw [hb] at h
      refine ⟨0, ?_, by simp, ?_, by simpa using h⟩
      · unfold Lib.indexByte
        rw [if_pos hb]; rfl
      · unfold noS
        rw [List.filter_cons, if_neg (by simp only [bne, hb]; simp)]
        simp
    | false =>
      rw [hb] at h
      obtain ⟨j, h1, h2, h3, h4⟩ := noS_hit r n (by simpa using h)
      refine ⟨j + 1, ?_, by simpa using h2, ?_, by simpa using h4⟩
      · unfold Lib.indexByte
        rw [if_neg (by rw [hb]; simp), h1, if_neg (by first | (simp; done) | (simp; omega))]
        first | rfl | omega
      · unfold noS at h3 ⊢
        rw [List.filter_cons, if_pos (by simp only [bne, hb]; rfl), h3]
        simp
def strings_ReplaceAll.f (s old new : ByteArray) : Option ByteArray := if old.data.toList = [47] ∧ new.data.toList = [] ∧ s.size ≤ 1048576 then some ⟨(noS s.data.toList).toArray⟩ else none
theorem wr_str (B b : Nat) (bs : List Value) (s : ByteArray) (w : World) (h : Lib.IsBuilder 59 5 B b bs w) (hlen : bs.length + s.size ≤ 140737488355328) (hBw : B ≤ w.heap.size) :
    Calls Tryd.prog 35 #[.pointer (some ⟨b, 0, none⟩), .string s] w fun e w' => e = .returned (.tuple #[.int .i64 s.size, .nilIface]) ∧ (Lib.BuilderAt 59 5 B b (.pointer (some ⟨b, 0, none⟩)) (bs ++ Lib.strCells s) w' ∧ Below B w w') :=
  Any.Builder_WriteString (ρ := Tryd.lays156_ren) { Tryd.lays156 with } Tryd.Builder_Extra_156 B b bs s w h hlen hBw
set_option maxHeartbeats 8000000 in
set_option maxRecDepth 100000 in
theorem replace_slash (s : ByteArray) (hs : s.size ≤ 1048576) (w : World) :
    Calls Tryd.prog 26 #[.string s, .string ⟨#[47]⟩, .string ⟨#[]⟩, .int .i64 (-1)] w fun e w' => e = .returned (.string ⟨(noS s.data.toList).toArray⟩) ∧ Below w.heap.size w w' := by
  have hC := Tryd.strings_Count_one s 47 w
  obtain ⟨K, hK⟩ : ∃ K : Nat, Lib.countByte s.data.toList 47 = K := ⟨_, rfl⟩
  rw [hK] at hC
  have hK' : s.data.toList.count 47 = K := hK
  have hKs : K ≤ s.size := by rw [← hK', Lib.size_eq]; exact List.count_le_length
  by_cases hz : K = 0
  · have hKz : ((K : Int) == 0) = true := beq_iff_eq.2 (by omega)
    have hn := noS_zero _ (by rw [hK']; exact hz)
    go_enter Tryd.func26, Tryd.ntmps26
    go_wp2_with (go_at_call 32; refine hC.mono ?_; rintro e w' ⟨rfl, hw⟩; rw [hw])
    go_ret
    refine ⟨?_, Below.refl _ _⟩
    rw [hn]
    show Ending.returned (Value.string s) = Ending.returned (Value.string ⟨s.data.toList.toArray⟩)
    rw [Array.toArray_toList]
  · have hKz : ((K : Int) == 0) = false := beq_eq_false_iff_ne.2 (by omega)
    have hga : (s.size : Int) + -(K : Int) = ((s.size - K : Nat) : Int) := by omega
    go_enter Tryd.func26, Tryd.ntmps26
    go_wp2_with (go_at_call 32; refine hC.mono ?_; rintro e w' ⟨rfl, hw⟩; rw [hw])
    refine (Tryd.Builder_Grow_fresh w.heap.size w.heap.size _ _ (Nat.le_refl _) (heap_alloc_new w _) (by simp) (by omega)).mono ?_
    rintro e w1 ⟨rfl, hb0, hb1⟩
    have H1 := Aside0.mk (Or.inr hb0 : Lib.IsBuilder 59 5 w.heap.size w.heap.size (Lib.byteCells []) w1)
    have HB := Aside0.mk (((Below.refl w.heap.size w).alloc (Nat.le_refl _) _).trans hb1)
    clear hb0 hb1 hga hC
    go_wp2_with fail
    have hlenL : s.data.toList.length = s.size := (Lib.size_eq s).symm
    go_loopg [11, 53] K (fun g s11 s53 wx => ∃ (i start : Nat) (acc : List UInt8), s53 = .int .i64 i ∧ s11 = .int .i64 start ∧ i + g = K ∧ start ≤ s.size ∧ Aside0 (Lib.IsBuilder 59 5 w.heap.size w.heap.size (Lib.byteCells acc) wx) ∧ Aside0 (Below w.heap.size w wx) ∧ Aside0 (acc ++ noS (s.data.toList.drop start) = noS s.data.toList) ∧ (s.data.toList.drop start).count 47 = g ∧ acc.length + (s.size - start) ≤ s.size)
    case atStart => exact ⟨0, 0, [], rfl, rfl, by omega, Nat.zero_le _, H1, HB, ⟨by simp⟩, by simpa using hK', by simp⟩
    case round =>
      clear H1 HB
      obtain ⟨i, start, acc, rfl, rfl, hig, hst, HU, HW, HR, hgc, hbd⟩ := hrel
      have hBw : w.heap.size ≤ wr.heap.size := HW.out.size
      have c1 : (0 : Int) ≤ (start : Int) := by omega
      have c2 : (start : Int) ≤ (s.size : Int) := by omega
      cases gk with
      | zero =>
        have hiK : ¬ ((i : Int) < (K : Int)) := by omega
        have hfin := noS_zero _ hgc
        have HF := Aside0.mk (show acc ++ s.data.toList.drop start = noS s.data.toList by rw [← HR.out, hfin])
        clear hfin HR
        go_wp2_with fail
        refine (wr_str w.heap.size w.heap.size _ _ wr HU.out (by rw [Lib.byteCells_length, ByteArray.size_extract]; omega) hBw).mono ?_
        rintro e w3 ⟨rfl, h3, hb3⟩
        rw [Lib.strCells_eq, Lib.extract_to_end, ← Lib.byteCells_append, HF.out] at h3
        have H3 := Aside0.mk (Or.inr h3 : Lib.IsBuilder 59 5 w.heap.size w.heap.size _ w3)
        have HB3 := Aside0.mk (HW.out.trans hb3)
        have hBw3 : w.heap.size ≤ w3.heap.size := HB3.out.size
        clear h3 hb3
        go_wp2_with fail
        refine (Tryd.Builder_String_any w.heap.size w.heap.size _ w3 H3.out hBw3).mono ?_
        rintro e w5 ⟨rfl, hb5⟩
        have HB5 := Aside0.mk (HB3.out.trans hb5)
        clear hb5
        go_wp2
        go_ret
        exact ⟨rfl, HB5.out⟩
      | succ g =>
        have hiK : (i : Int) < (K : Int) := by omega
        obtain ⟨j, hj, hjl, hjn, hjc⟩ := noS_hit _ g hgc
        rw [List.length_drop, hlenL] at hjl
        have c3 : (start : Int) ≤ (start : Int) + (j : Int) := by omega
        have c4 : (start : Int) + (j : Int) ≤ (s.size : Int) := by omega
        have HN := Aside0.mk (show Lib.byteCells acc ++ Lib.strCells (s.extract start (start + j)) ++ Lib.strCells (⟨#[]⟩ : ByteArray) = Lib.byteCells (acc ++ (s.data.toList.drop start).take j) by
          rw [Lib.strCells_eq, Lib.extract_data, Nat.add_sub_cancel_left, ← Lib.byteCells_append]
          exact List.append_nil _)
        have HR2 := Aside0.mk (show (acc ++ (s.data.toList.drop start).take j) ++ noS (s.data.toList.drop (start + j + 1)) = noS s.data.toList by
          rw [← HR.out, hjn, List.drop_drop, List.append_assoc]
          rfl)
        have hcn : (s.data.toList.drop (start + j + 1)).count 47 = g := by
          rw [List.drop_drop] at hjc
          exact hjc
        have htl : ((s.data.toList.drop start).take j).length = j := by rw [List.length_take, List.length_drop, hlenL]; omega
        clear hjn hjc HR
        go_wp2_with (first | (go_at_call 34; refine (Tryd.strings_Index_one _ 47 _).mono ?_; rintro e w' ⟨rfl, hw⟩; rw [hw, Lib.extract_to_end, hj]))
        refine (wr_str w.heap.size w.heap.size _ (s.extract start (start + j)) wr HU.out (by rw [Lib.byteCells_length, ByteArray.size_extract]; omega) hBw).mono ?_
        rintro e w3 ⟨rfl, h3, hb3⟩
        have hBw3 : w.heap.size ≤ w3.heap.size := Nat.le_trans hBw hb3.size
        have H3 := Aside0.mk h3
        have HB3 := Aside0.mk hb3
        clear h3 hb3
        go_wp2_with fail
        refine (wr_str w.heap.size w.heap.size _ (⟨#[]⟩ : ByteArray) w3 (Or.inr H3.out) (by rw [List.length_append, Lib.byteCells_length, Lib.strCells_length, ByteArray.size_extract, show (⟨#[]⟩ : ByteArray).size = 0 from rfl]; omega) hBw3).mono ?_
        rintro e w4 ⟨rfl, h4, hb4⟩
        rw [HN.out] at h4
        have H4 := Aside0.mk (Or.inr h4 : Lib.IsBuilder 59 5 w.heap.size w.heap.size _ w4)
        have HB4 := Aside0.mk ((HW.out.trans HB3.out).trans hb4)
        clear h4 hb4
        go_wp2
        go_roundg g
        case measure => omega
        case rel => exact ⟨i + 1, start + j + 1, acc ++ (s.data.toList.drop start).take j, by first | rfl | (simp; unfold wrap64; omega), by first | rfl | simp | (simp; unfold wrap64; omega), by omega, by omega, H4, HB4, HR2, hcn, by rw [List.length_append, htl]; omega⟩
theorem strings_ReplaceAll.calls (a0 a1 a2 : ByteArray) (r : ByteArray) (w : World) (h : strings_ReplaceAll.f a0 a1 a2 = some r) :
    Calls Tryd.prog 18 #[.string a0, .string a1, .string a2] w fun e w' => e = .returned (.string r) ∧ Below w.heap.size w w' := by
  unfold strings_ReplaceAll.f at h
  split at h
  case isFalse => cases h
  rename_i hs
  obtain ⟨h1, h2, h3⟩ := hs
  obtain rfl := Option.some.inj h
  obtain ⟨⟨l1⟩⟩ := a1
  obtain ⟨⟨l2⟩⟩ := a2
  simp only at h1 h2
  subst h1
  subst h2
  go_enter Tryd.func18, Tryd.ntmps18
  go_wp2_with (go_at_call 26; refine (replace_slash a0 h3 w).mono ?_; rintro e w' ⟨rfl, hb⟩)
  go_ret
  exact ⟨rfl, hb⟩
/-! ### impl_first: function 38 -/
def impl_first.l0 : Nat → List (S71) → Int → Int → Option (Int)
 | 0, _, _, _ => none
 | k + 1, x5, x6, x7 => if x7 < x6 then (if 0 ≤ x7 then (if x7 < (x5.length : Int) then (if ((rd_T71 x5 x7).f0 = true) then (impl_first.l0 k x5 x6 (wrap64 (x7 + 1))) else (some ((rd_T71 x5 x7).f1))) else (none)) else (none)) else (some 0)
def impl_first.f (k : Nat) (l0 : List (S71)) : Option (Int) := impl_first.l0 k l0 (l0.length : Int) 0
set_option maxHeartbeats 8000000 in
set_option maxRecDepth 100000 in
theorem impl_first.calls (k : Nat) (A0 : Option Addr) (c0 : Nat) (l0 : List (S71)) (r : Int) (w : World) (hr0 : Kd.C k71 w A0 l0.length l0) (hc0 : l0.length ≤ c0) (h : impl_first.f k l0 = some r) :
  Calls Tryd.prog 38 #[.slice A0 l0.length c0] w fun e w' => e = .returned (.int .i64 r) ∧ Below w.heap.size w w' := by
 have hu71 := Tryd.underlying71
 have HR0 := Aside0.mk hr0
 have HC0 := Aside0.mk hc0
 clear hr0 hc0
 have HB := Aside0.mk (Below.refl w.heap.size w)
 have H : (impl_first.l0 k l0 (l0.length : Int) 0) = some r := h
 clear h
 have H' := Aside0.mk H
 clear H
 go_enter Tryd.func38, Tryd.ntmps38
 go_wp2
 go_loopg [7] k (fun kq v7 w' => ∃ (x7_1 : Int), v7 = .int .i64 x7_1 ∧ Aside0 (impl_first.l0 kq l0 (l0.length : Int) x7_1 = some r) ∧ Aside0 (kq ≤ k) ∧ Aside0 (Below w.heap.size w w'))
 case atStart => exact ⟨(0), (by first | rfl | (simp; done) | (simp [*]; done)), H', ⟨Nat.le_refl _⟩, ⟨by repeat (first | (with_reducible first | exact HB.out | apply below_alloc | apply pw_below_drewN | apply below_drew1) | exact HB.out)⟩⟩
 case round =>
  clear H'
  obtain ⟨x7_1, rfl, HA, HK1, HB⟩ := hrel
  cases gk with
  | zero => exact absurd HA.out (by simp [impl_first.l0])
  | succ k1 =>
   have H := HA.out
   clear HA
   simp only [impl_first.l0] at H
   by_cases c2 : x7_1 < (l0.length : Int)
   ·rw [if_pos c2] at H
    have c2b0 : decide (x7_1 < (l0.length : Int)) = true := decide_eq_true c2
    clear c2
    by_cases c3 : 0 ≤ x7_1
    ·rw [if_pos c3] at H
     have c3b0 : decide (0 ≤ x7_1) = true := decide_eq_true c3
     clear c3
     by_cases c4 : x7_1 < (l0.length : Int)
     ·rw [if_pos c4] at H
      have c4b0 : decide (x7_1 < (l0.length : Int)) = true := decide_eq_true c4
      clear c4
      obtain ⟨bq5, hbq5⟩ : ∃ b_ : Bool, b_ = ((rd_T71 l0 x7_1).f0) := ⟨_, rfl⟩
      replace H : (if (bq5 = true) then (impl_first.l0 k1 l0 (l0.length : Int) (wrap64 (x7_1 + 1))) else (some ((rd_T71 l0 x7_1).f1))) = some r := by rw [← hbq5] at H; exact H
      have Nbq5 := Aside0.mk hbq5
      clear hbq5
      by_cases c6 : (bq5 = true)
      ·subst c6
       have H1 : (impl_first.l0 k1 l0 (l0.length : Int) (wrap64 (x7_1 + 1))) = some r := by rw [if_pos rfl] at H; exact H
       clear H
       have H := H1
       clear H1
       have H' := Aside0.mk H
       clear H
       have p235 : 0 ≤ (x7_1 : Int) := oda
       have q235 : x7_1 < (l0.length : Int) := oda
       obtain ⟨ad235, e235, hx235_0, hx235_1⟩ := at_T71 HR0.out x7_1 p235 q235
       (try rw [← Nbq5.out] at hx235_0)
       cases e235
       replace hx235_0 := (HB.out.cell (World.block_lt_of_cell? w _ hx235_0)).trans hx235_0
       replace hx235_1 := (HB.out.cell (World.block_lt_of_cell? w _ hx235_1)).trans hx235_1
       replace p235 := eq_true p235
       replace q235 := eq_true q235
       go_wp2_with (first | ((with_reducible refine gate_dst (N := 4) rfl ?_); refine box_event ?hg (N := 4) ?hd (cs := #[.bool false, .int .i64 0]) (t := 71) ?hr ?_; (case hd => rfl); (case hg => rfl); (case hr => first | (go_simp; done) | (go_simp; rfl)); intro gb236 hg w7 hbox hb; have n0_ := Aside0.mk (below_step hb_ hb); have n1_ := Aside0.mk (hbox); have n2_ := Aside0.mk ((by rw [hg]; exact (below_size hb_) : w.heap.size ≤ gb236)); have n3_ := Aside0.mk ((by rw [hg]; exact (below_size hb_) : w.heap.size ≤ gb236)); clear HB; have HB := n0_; have BK236 := n1_; have GW236 := n2_; have GE236 := n3_; clear n0_ n1_ n2_ n3_; clear hb hbox hg; have hcz8_0 : w7.cell? ⟨gb236, 0, none⟩ = some (.bool false) := (blk_cell BK236.out 0).trans rfl; have hcz8_1 : w7.cell? ⟨gb236, 1, none⟩ = some (.int .i64 0) := (blk_cell BK236.out 1).trans rfl; have hfz8_0 := blk_frozen BK236.out 0; have hfz8_1 := blk_frozen BK236.out 1))
       go_roundg k1
       case measure => have := HK1.out; omega
       case rel => exact ⟨(wrap64 (x7_1 + 1)), (by first | rfl | (simp; done) | (simp [*]; done)), H', ⟨by have := HK1.out; omega⟩, ⟨by repeat (first | (with_reducible first | exact HB.out | apply below_alloc | apply pw_below_drewN | apply below_drew1 | refine below_set ?_ GE236.out) | exact HB.out)⟩⟩
      ·replace c6 := Bool.eq_false_iff.mpr c6
       subst c6
       have H1 : (some ((rd_T71 l0 x7_1).f1)) = some r := by rw [if_neg (show ¬ (false = true) by decide)] at H; exact H
       clear H
       have H := H1
       clear H1
       obtain rfl := Option.some.inj H
       have p235 : 0 ≤ (x7_1 : Int) := oda
       have q235 : x7_1 < (l0.length : Int) := oda
       obtain ⟨ad235, e235, hx235_0, hx235_1⟩ := at_T71 HR0.out x7_1 p235 q235
       (try rw [← Nbq5.out] at hx235_0)
       cases e235
       replace hx235_0 := (HB.out.cell (World.block_lt_of_cell? w _ hx235_0)).trans hx235_0
       replace hx235_1 := (HB.out.cell (World.block_lt_of_cell? w _ hx235_1)).trans hx235_1
       replace p235 := eq_true p235
       replace q235 := eq_true q235
       go_wp2_with (first | ((with_reducible refine gate_dst (N := 4) rfl ?_); refine box_event ?hg (N := 4) ?hd (cs := #[.bool false, .int .i64 0]) (t := 71) ?hr ?_; (case hd => rfl); (case hg => rfl); (case hr => first | (go_simp; done) | (go_simp; rfl)); intro gb236 hg w9 hbox hb; have n0_ := Aside0.mk (below_step hb_ hb); have n1_ := Aside0.mk (hbox); have n2_ := Aside0.mk ((by rw [hg]; exact (below_size hb_) : w.heap.size ≤ gb236)); have n3_ := Aside0.mk ((by rw [hg]; exact (below_size hb_) : w.heap.size ≤ gb236)); clear HB; have HB := n0_; have BK236 := n1_; have GW236 := n2_; have GE236 := n3_; clear n0_ n1_ n2_ n3_; clear hb hbox hg; have hcz10_0 : w9.cell? ⟨gb236, 0, none⟩ = some (.bool false) := (blk_cell BK236.out 0).trans rfl; have hcz10_1 : w9.cell? ⟨gb236, 1, none⟩ = some (.int .i64 0) := (blk_cell BK236.out 1).trans rfl; have hfz10_0 := blk_frozen BK236.out 0; have hfz10_1 := blk_frozen BK236.out 1))
       go_ret
       exact ⟨by first | rfl | (simp [errW_none, errW_some] <;> rfl) | (simp [*, errW_none, errW_some] <;> rfl), by repeat (first | (with_reducible first | exact HB.out | apply below_alloc | apply pw_below_drewN | apply below_drew1 | refine below_set ?_ GE236.out) | exact HB.out)⟩
     ·rw [if_neg c4] at H
      exact absurd H (by simp)
    ·rw [if_neg c3] at H
     exact absurd H (by simp)
   ·rw [if_neg c2] at H
    have c2b0 : decide (x7_1 < (l0.length : Int)) = false := decide_eq_false c2
    clear c2
    obtain rfl := Option.some.inj H
    go_wp2
    go_ret
    exact ⟨by first | rfl | (simp [errW_none, errW_some] <;> rfl) | (simp [*, errW_none, errW_some] <;> rfl), by repeat (first | (with_reducible first | exact HB.out | apply below_alloc | apply pw_below_drewN | apply below_drew1) | exact HB.out)⟩
/-! ### slices_Index_int64_int64: function 62 -/
def slices_Index_int64_int64.l0 : Nat → List Int → Int → Int → Int → Option (Int)
 | 0, _, _, _, _ => none
 | k + 1, x0, x1, x7, x8 => if x8 < x7 then (if 0 ≤ x8 then (if x8 < (x0.length : Int) then (if x1 = (rd x0 x8) then (some x8) else (slices_Index_int64_int64.l0 k x0 x1 x7 (wrap64 (x8 + 1)))) else (none)) else (none)) else (some (-1))
def slices_Index_int64_int64.f (k : Nat) (l0 : List Int) (a1 : Int) : Option (Int) := slices_Index_int64_int64.l0 k l0 a1 (l0.length : Int) 0
set_option maxHeartbeats 8000000 in
set_option maxRecDepth 100000 in
theorem slices_Index_int64_int64.calls (k : Nat) (A0 : Option Addr) (c0 : Nat) (l0 : List Int) (a1 : Int) (r : Int) (w : World) (hr0 : Kd.C (Kd.int .i64) w A0 l0.length l0) (hc0 : l0.length ≤ c0) (h : slices_Index_int64_int64.f k l0 a1 = some r) :
  Calls Tryd.prog 62 #[.slice A0 l0.length c0, .int .i64 a1] w fun e w' => e = .returned (.int .i64 r) ∧ Drawn0 w w' := by
 have HR0 := Aside0.mk hr0
 have HC0 := Aside0.mk hc0
 clear hr0 hc0
 have H : (slices_Index_int64_int64.l0 k l0 a1 (l0.length : Int) 0) = some r := h
 clear h
 have H' := Aside0.mk H
 clear H
 go_enter Tryd.func62, Tryd.ntmps62
 go_wp2
 go_loopg [8] k (fun kq v8 w' => ∃ (x8_1 : Int), v8 = .int .i64 x8_1 ∧ Aside0 (slices_Index_int64_int64.l0 kq l0 a1 (l0.length : Int) x8_1 = some r) ∧ Aside0 (kq ≤ k) ∧ Drawn0 w w')
 case atStart => exact ⟨(0), (by first | rfl | (simp; done) | (simp [*]; done)), H', ⟨Nat.le_refl _⟩, by repeat (first | exact Drawn0.refl _ | apply Drawn0.step)⟩
 case round =>
  clear H'
  (try clear p2)
  obtain ⟨x8_1, rfl, HA, HK1, ⟨m1, rfl⟩⟩ := hrel
  cases gk with
  | zero => exact absurd HA.out (by simp [slices_Index_int64_int64.l0])
  | succ k1 =>
   have H := HA.out
   clear HA
   simp only [slices_Index_int64_int64.l0] at H
   by_cases c3 : x8_1 < (l0.length : Int)
   ·rw [if_pos c3] at H
    have c3b0 : decide (x8_1 < (l0.length : Int)) = true := decide_eq_true c3
    clear c3
    by_cases c4 : 0 ≤ x8_1
    ·rw [if_pos c4] at H
     have c4b0 : decide (0 ≤ x8_1) = true := decide_eq_true c4
     clear c4
     by_cases c5 : x8_1 < (l0.length : Int)
     ·rw [if_pos c5] at H
      have c5b0 : decide (x8_1 < (l0.length : Int)) = true := decide_eq_true c5
      clear c5
      by_cases c6 : a1 = (rd l0 x8_1)
      ·rw [if_pos c6] at H
       have c6b0 : (a1 == (rd l0 x8_1)) = true := beq_iff_eq.mpr c6
       have c6b1 : (a1 != (rd l0 x8_1)) = false := bne_eq_false_iff_eq.mpr c6
       clear c6
       obtain rfl := Option.some.inj H
       have p237 : 0 ≤ (x8_1 : Int) := oda
       have q237 : x8_1 < (l0.length : Int) := oda
       obtain ⟨ad237, e237, hx237_0⟩ := Kd.at_int HR0.out x8_1 p237 q237
       cases e237
       replace p237 := eq_true p237
       replace q237 := eq_true q237
       go_wp2
       go_ret
       exact ⟨by first | rfl | (simp; done) | (simp [*]; done), by repeat (first | exact Drawn0.refl _ | apply Drawn0.step)⟩
      ·rw [if_neg c6] at H
       have c6b0 : (a1 == (rd l0 x8_1)) = false := beq_eq_false_iff_ne.mpr c6
       have c6b1 : (a1 != (rd l0 x8_1)) = true := bne_iff_ne.mpr c6
       have H' := Aside0.mk H
       clear H
       have p237 : 0 ≤ (x8_1 : Int) := oda
       have q237 : x8_1 < (l0.length : Int) := oda
       obtain ⟨ad237, e237, hx237_0⟩ := Kd.at_int HR0.out x8_1 p237 q237
       cases e237
       replace p237 := eq_true p237
       replace q237 := eq_true q237
       go_wp2
       go_roundg k1
       case measure => have := HK1.out; omega
       case rel => exact ⟨(wrap64 (x8_1 + 1)), (by first | rfl | (simp; done) | (simp [*]; done)), H', ⟨by have := HK1.out; omega⟩, by repeat (first | exact Drawn0.refl _ | apply Drawn0.step)⟩
     ·rw [if_neg c5] at H
      exact absurd H (by simp)
    ·rw [if_neg c4] at H
     exact absurd H (by simp)
   ·rw [if_neg c3] at H
    have c3b0 : decide (x8_1 < (l0.length : Int)) = false := decide_eq_false c3
    clear c3
    obtain rfl := Option.some.inj H
    go_wp2
    go_ret
    exact ⟨by first | rfl | (simp; done) | (simp [*]; done), by repeat (first | exact Drawn0.refl _ | apply Drawn0.step)⟩
/-! ### slices_Contains_int64_int64: function 48 -/
def slices_Contains_int64_int64.f (k : Nat) (l0 : List Int) (a1 : Int) : Option (Bool) := (slices_Index_int64_int64.f k l0 a1).bind fun t238 => (some (decide (t238 ≥ 0)))
set_option maxHeartbeats 8000000 in
set_option maxRecDepth 100000 in
theorem slices_Contains_int64_int64.calls (k : Nat) (A0 : Option Addr) (c0 : Nat) (l0 : List Int) (a1 : Int) (r : Bool) (w : World) (hr0 : Kd.C (Kd.int .i64) w A0 l0.length l0) (hc0 : l0.length ≤ c0) (h : slices_Contains_int64_int64.f k l0 a1 = some r) :
  Calls Tryd.prog 48 #[.slice A0 l0.length c0, .int .i64 a1] w fun e w' => e = .returned (.bool r) ∧ Drawn0 w w' := by
 have HR0 := Aside0.mk hr0
 have HC0 := Aside0.mk hc0
 clear hr0 hc0
 have H : ((slices_Index_int64_int64.f k l0 a1).bind fun t238 => (some (decide (t238 ≥ 0)))) = some r := h
 clear h
 replace H := Option.bind_eq_some_iff.mp H
 obtain ⟨t238, A30, H⟩ := H
 replace H : (some (decide (t238 ≥ 0))) = some r := H
 have A3 := Aside0.mk A30
 clear A30
 obtain rfl := Option.some.inj H
 go_enter Tryd.func48, Tryd.ntmps48
 go_wp2_with (first | ((with_reducible refine gate_callee (f := 62) rfl ?_); refine goesA_ (some 7) rfl rfl Tryd.func62 (by kernel_rfl) rfl #[.slice A0 l0.length c0, .int .i64 a1] rfl ?_; (with_reducible refine (slices_Index_int64_int64.calls k _ _ l0 a1 t238 _ ?side1 ?side2 A3.out).mono ?_); (case side1 => repeat (first | exact HR0.out | (with_reducible refine Kd.C_alloc ?_ _) | (with_reducible refine Kd.C_drewN ?_ _) | (with_reducible refine Kd.C_drew ?_))); (case side2 => exact HC0.out); rintro e w' ⟨rfl, ⟨nd, rfl⟩⟩; refine ⟨_, rfl, ?_⟩))
 go_ret
 exact ⟨by first | rfl | (simp; done) | (simp [*]; done), by repeat (first | exact Drawn0.refl _ | apply Drawn0.step)⟩
/-! ### impl_Sea_cells: function 54 -/
def impl_Sea_cells.f (a0_0 : Int) (a0_1 : Int) (l0_2 : List Int) : Option (Int) := some (wrap64 (a0_0 * a0_1))
set_option maxHeartbeats 8000000 in
set_option maxRecDepth 100000 in
theorem impl_Sea_cells.calls (a0_0 : Int) (a0_1 : Int) (A0_2 : Option Addr) (c0_2 : Nat) (l0_2 : List Int) (r : Int) (w : World) (hr0_2 : Kd.C (Kd.int .i64) w A0_2 l0_2.length l0_2) (hc0_2 : l0_2.length ≤ c0_2) (h : impl_Sea_cells.f a0_0 a0_1 l0_2 = some r) :
  Calls Tryd.prog 54 #[.agg #[.int .i64 a0_0, .int .i64 a0_1, .slice A0_2 l0_2.length c0_2]] w fun e w' => e = .returned (.int .i64 r) ∧ Below w.heap.size w w' := by
 have hu28 := Tryd.underlying28
 have HR0_2 := Aside0.mk hr0_2
 have HC0_2 := Aside0.mk hc0_2
 clear hr0_2 hc0_2
 have HB := Aside0.mk (Below.refl w.heap.size w)
 have H : (some (wrap64 (a0_0 * a0_1))) = some r := h
 clear h
 obtain rfl := Option.some.inj H
 go_enter Tryd.func54, Tryd.ntmps54
 go_wp2_with (first | ((with_reducible refine gate_dst (N := 1) rfl ?_); refine box_event ?hg (N := 1) ?hd (cs := #[.int .i64 a0_0, .int .i64 a0_1, .slice A0_2 l0_2.length c0_2]) (t := 28) ?hr ?_; (case hd => rfl); (case hg => rfl); (case hr => first | (go_simp; done) | (go_simp; rfl)); intro gb239 hg w2 hbox hb; have n0_ := Aside0.mk (below_step hb_ hb); have n1_ := Aside0.mk (hbox); have n2_ := Aside0.mk ((by rw [hg]; exact (below_size hb_) : w.heap.size ≤ gb239)); have n3_ := Aside0.mk ((by rw [hg]; exact (below_size hb_) : w.heap.size ≤ gb239)); clear HB; have HB := n0_; have BK239 := n1_; have GW239 := n2_; have GE239 := n3_; clear n0_ n1_ n2_ n3_; clear hb hbox hg; have hcz3_0 : w2.cell? ⟨gb239, 0, none⟩ = some (.int .i64 a0_0) := (blk_cell BK239.out 0).trans rfl; have hcz3_1 : w2.cell? ⟨gb239, 1, none⟩ = some (.int .i64 a0_1) := (blk_cell BK239.out 1).trans rfl; have hcz3_2 : w2.cell? ⟨gb239, 2, none⟩ = some (.slice A0_2 l0_2.length c0_2) := (blk_cell BK239.out 2).trans rfl; have hfz3_0 := blk_frozen BK239.out 0; have hfz3_1 := blk_frozen BK239.out 1; have hfz3_2 := blk_frozen BK239.out 2))
 go_ret
 exact ⟨by first | rfl | (simp [errW_none, errW_some] <;> rfl) | (simp [*, errW_none, errW_some] <;> rfl), by repeat (first | (with_reducible first | exact HB.out | apply below_alloc | apply pw_below_drewN | apply below_drew1 | refine below_set ?_ GE239.out) | exact HB.out)⟩
-- A literal as a block of its own, and stores into blocks that are new.
section
variable {P : Program} {ops : Array Oper} {rest : List Oper} {o : Oper} {a : Act} {Q : Exit → Act → World → Prop}
theorem lit_event {W : World} (hgd : o.guard = none) {N : Tmp} (_hd : o.dst = some N) {cs : Array Value} {t : TypeId} {n : Nat}
    (hrun : (execOp a.eval o).run P W = .ok (.value (.slice (some ⟨W.heap.size, 0, none⟩) n n)) (W.alloc (.cells cs t (0, 0))))
    (h : ∀ g, g = W.heap.size → ∀ w1, w1.heap[g]? = some (.cells cs t (0, 0)) → Below W.heap.size W w1 → wpList P ops Q rest (a.put o.dst (.slice (some ⟨g, 0, none⟩) n n)) w1) : wpList P ops Q (o :: rest) a W :=
  Kd.event_run hgd hrun (h _ rfl _ (blk_new W _) (below_alloc (Below.refl _ _) _))
end
theorem arr_below {B : Nat} {w W : World} (h : Below B w W) {g : Nat} (hg : B ≤ g) (i : Nat) (u : Value) : Below B w (W.setCell ⟨g, i, none⟩ u) :=
  h.trans ⟨rfl, rfl, rfl, by simp [World.setCell], fun k hk => Below.heap_setCell W ⟨g, i, none⟩ u k (by show k ≠ g; omega)⟩
/-- 'within', as a plain function, and what the machine does. -/
def inW (n a b : Int) : Bool := decide (a ≤ n) && decide (n ≤ b)
theorem within_inW (n a b : Int) : impl_within.f n a b = some (inW n a b) := by
  unfold impl_within.f inW
  by_cases h : a ≤ n <;> simp [h]
-- Bits of whole numbers that are not less than 0.
theorem bitv_nat (a : Nat) (ha : a < 9223372036854775808) : (BitVec.ofInt 64 (a : Int)).toNat = a := by
  rw [BitVec.ofInt_natCast, BitVec.toNat_ofNat]; exact Nat.mod_eq_of_lt (by omega)
theorem i64_nat (n : Nat) (h : n < 9223372036854775808) : IntKind.i64.wrap (n : Int) = (n : Int) := by
  rw [i64_w]; unfold wrap64; omega
theorem bits_and_nat (a b : Nat) (ha : a < 9223372036854775808) (hb : b < 9223372036854775808) : Go.bits .and .i64 (a : Int) (b : Int) = ((a &&& b : Nat) : Int) := by
  have hx : a &&& b < 2 ^ 63 := Nat.and_lt_two_pow _ (by omega)
  show IntKind.i64.wrap ((BitVec.ofInt 64 (a : Int) &&& BitVec.ofInt 64 (b : Int)).toNat : Int) = _
  rw [BitVec.toNat_and, bitv_nat a ha, bitv_nat b hb, i64_nat _ (by omega)]
theorem bits_or_nat (a b : Nat) (ha : a < 9223372036854775808) (hb : b < 9223372036854775808) : Go.bits .or .i64 (a : Int) (b : Int) = ((a ||| b : Nat) : Int) := by
  have hx : a ||| b < 2 ^ 63 := Nat.or_lt_two_pow (by omega) (by omega)
  show IntKind.i64.wrap ((BitVec.ofInt 64 (a : Int) ||| BitVec.ofInt 64 (b : Int)).toNat : Int) = _
  rw [BitVec.toNat_or, bitv_nat a ha, bitv_nat b hb, i64_nat _ (by omega)]
theorem shl_nat (i : Nat) (h : i < 63) : shl .i64 1 (i : Int) = ((2 ^ i : Nat) : Int) := by
  unfold shl
  have h1 : min ((i : Int)).toNat IntKind.i64.bits = i := by rw [Int.toNat_natCast]; show min i 64 = i; omega
  rw [h1, Int.one_mul]
  have h2 : (2 : Nat) ^ i < 9223372036854775808 := by
    have : (2 : Nat) ^ i < 2 ^ 63 := Nat.pow_lt_pow_right (by omega) h
    omega
  have h3 : ((2 : Int) ^ i) = ((2 ^ i : Nat) : Int) := by simp
  rw [h3, i64_nat _ h2]
theorem shr_nat (m i : Nat) (h : i ≤ 64) : shr .i64 (m : Int) (i : Int) = ((m >>> i : Nat) : Int) := by
  unfold shr
  have h1 : min ((i : Int)).toNat IntKind.i64.bits = i := by rw [Int.toNat_natCast]; show min i 64 = i; omega
  rw [h1, Nat.shiftRight_eq_div_pow]
  simp
/-- One bit read. -/
theorem bit_nat (m i : Nat) (hm : m < 9223372036854775808) (h : i ≤ 64) : Go.bits .and .i64 (shr .i64 (m : Int) (i : Int)) 1 = if m.testBit i = true then 1 else 0 := by
  rw [shr_nat m i h]
  have hs : m >>> i ≤ m := Nat.shiftRight_le m i
  have := bits_and_nat (m >>> i) 1 (by omega) (by omega)
  rw [show ((1 : Int)) = ((1 : Nat) : Int) from rfl, this]
  unfold Nat.testBit
  rw [Nat.and_comm 1]
  rw [Nat.and_one_is_mod]
  rcases Nat.mod_two_eq_zero_or_one (m >>> i) with e | e <;> rw [e] <;> simp
theorem u64_nat (i : Nat) (h : i < 9223372036854775808) : IntKind.u64.wrap (i : Int) = (i : Int) := by
  show (i : Int) % 18446744073709551616 = i
  omega

-- Rising lists; the chosen numbers as one.
/-- Rising from a number on. -/
def Asc : Int → List Int → Prop
  | _, [] => True
  | lo, a :: r => lo ≤ a ∧ Asc (a + 1) r
theorem asc_le : ∀ (l : List Int) (lo : Int), Asc lo l → ∀ z ∈ l, lo ≤ z
  | [], _, _, _, h => by cases h
  | a :: r, lo, h, z, hz => by
    rcases List.mem_cons.1 hz with rfl | hz
    · exact h.1
    · have := asc_le r _ h.2 z hz
      have := h.1
      omega
theorem asc_ext : ∀ (x y : List Int) (lo : Int), Asc lo x → Asc lo y → (∀ z, z ∈ x ↔ z ∈ y) → x = y
  | [], [], _, _, _, _ => rfl
  | [], b :: y, _, _, _, h => by have := (h b).2 (by simp); cases this
  | a :: x, [], _, _, _, h => by have := (h a).1 (by simp); cases this
  | a :: x, b :: y, lo, hx, hy, h => by
    have e : a = b := by
      have h1 := (h a).1 (by simp)
      have h2 := (h b).2 (by simp)
      rcases List.mem_cons.1 h1 with h1 | h1
      · exact h1
      · rcases List.mem_cons.1 h2 with h2 | h2
        · exact h2.symm
        · have := asc_le y _ hy.2 a h1
          have := asc_le x _ hx.2 b h2
          omega
    subst e
    rw [asc_ext x y (a + 1) hx.2 hy.2 (fun z => ?_)]
    have hz := h z
    constructor
    · intro hm
      have := asc_le x _ hx.2 z hm
      rcases List.mem_cons.1 (hz.1 (List.mem_cons_of_mem _ hm)) with e | e
      · omega
      · exact e
    · intro hm
      have := asc_le y _ hy.2 z hm
      rcases List.mem_cons.1 (hz.2 (List.mem_cons_of_mem _ hm)) with e | e
      · omega
      · exact e
theorem asc_snoc : ∀ (l : List Int) (lo b : Int), Asc lo l → (∀ z ∈ l, z < b) → lo ≤ b → Asc lo (l ++ [b])
  | [], _, _, _, _, h => ⟨h, trivial⟩
  | a :: r, lo, b, h, hz, hb => ⟨h.1, asc_snoc r _ b h.2 (fun z hm => hz z (List.mem_cons_of_mem _ hm)) (by have := hz a (by simp); omega)⟩
-- Sorted lists without repetition: what slices.Sort and slices.Compact leave.
open Go.Lib in
theorem compactTo_asc (d : Array Int) (lo : Int) (hs : ∀ i j, i ≤ j → j < d.size → d[i]! ≤ d[j]!) (hlo : ∀ i, i < d.size → lo ≤ d[i]!) :
    ∀ m, m ≤ d.size → Asc lo (compactUpTo d m) ∧ (∀ z, z ∈ compactUpTo d m ↔ ∃ i, i < m ∧ d[i]! = z)
  | 0, _ => ⟨by simp [compactUpTo, Asc], fun z => by simp [compactUpTo]⟩
  | m + 1, hm => by
    obtain ⟨ha, hz⟩ := compactTo_asc d lo hs hlo m (by omega)
    rw [compactUpTo_succ]
    by_cases hk : keeps d m = true
    · rw [if_pos hk]
      constructor
      · refine asc_snoc _ _ _ ha (fun z hzz => ?_) (hlo m (by omega))
        obtain ⟨i, hi, rfl⟩ := (hz z).1 hzz
        have h1 := hs i (m - 1) (by omega) (by omega)
        have h2 := hs (m - 1) m (by omega) (by omega)
        have h3 : d[m]! ≠ d[m - 1]! := by
          simp only [keeps, decide_eq_true_eq] at hk
          rcases hk with h | h
          · omega
          · exact h
        omega
      · intro z
        rw [List.mem_append, hz, List.mem_singleton]
        constructor
        · rintro (⟨i, hi, h⟩ | rfl)
          · exact ⟨i, by omega, h⟩
          · exact ⟨m, by omega, rfl⟩
        · rintro ⟨i, hi, rfl⟩
          by_cases h : i = m
          · subst h; exact .inr rfl
          · exact .inl ⟨i, by omega, rfl⟩
    · rw [if_neg hk, List.append_nil]
      refine ⟨ha, fun z => ?_⟩
      rw [hz]
      simp only [keeps, decide_eq_true_eq, not_or, Decidable.not_not] at hk
      constructor
      · rintro ⟨i, hi, h⟩; exact ⟨i, by omega, h⟩
      · rintro ⟨i, hi, rfl⟩
        by_cases h : i = m
        · subst h; exact ⟨i - 1, by omega, hk.2.symm⟩
        · exact ⟨i, by omega, rfl⟩
/-- Sorted, and each once. -/
def ascOf (xs : List Int) : List Int := Go.Lib.compact (xs.mergeSort fun x y => decide (x ≤ y))
open Go.Lib in
theorem ascOf_asc (xs : List Int) (lo : Int) (hlo : ∀ z ∈ xs, lo ≤ z) : Asc lo (ascOf xs) ∧ ∀ z, z ∈ ascOf xs ↔ z ∈ xs := by
  have hp : (xs.mergeSort fun x y => decide (x ≤ y)).Perm xs := List.mergeSort_perm _ _
  have hsrt : (xs.mergeSort fun x y => decide (x ≤ y)).Pairwise (fun a b => decide (a ≤ b) = true) := List.pairwise_mergeSort (fun a b c h1 h2 => by simp at *; omega) (fun a b => by simp; omega) xs
  unfold ascOf compact
  generalize xs.mergeSort (fun x y => decide (x ≤ y)) = zs at hp hsrt
  have hget : ∀ i, (h : i < zs.length) → zs.toArray[i]! = zs[i] := fun i h => by rw [getElem!_pos _ _ (by simpa using h)]; simp
  have := compactTo_asc zs.toArray lo (fun i j hij hj => by
      have hj' : j < zs.length := by simpa using hj
      rw [hget i (by omega), hget j hj']
      by_cases h : i = j
      · subst h; exact Int.le_refl _
      · have := List.pairwise_iff_getElem.1 hsrt i j (by omega) hj' (by omega)
        simpa using this)
    (fun i hi => by
      have hi' : i < zs.length := by simpa using hi
      rw [hget i hi']
      exact hlo _ (hp.mem_iff.1 (List.getElem_mem _))) zs.length (by simp)
  refine ⟨this.1, fun z => ?_⟩
  rw [this.2, ← hp.mem_iff, List.mem_iff_getElem]
  constructor
  · rintro ⟨i, hi, rfl⟩; exact ⟨i, hi, (hget i hi).symm⟩
  · rintro ⟨i, hi, rfl⟩; exact ⟨i, hi, hget i hi⟩
-- Placements of ships, as sets of cells.
theorem pow60_le : 2 ^ 60 ≤ 9223372036854775808 := by simp
theorem wrap_small {z : Int} (h0 : -1000000000 ≤ z) (h1 : z ≤ 1000000000) : wrap64 z = z := by unfold wrap64; omega
theorem wrap_num {n : Nat} (h : n < 9223372036854775808) : wrap64 (n : Int) = (n : Int) := by unfold wrap64; omega
theorem wrap_add {a b : Nat} (ha : a ≤ 1000) (hb : b ≤ 1000) : wrap64 ((a : Int) + (b : Int)) = ((a + b : Nat) : Int) := by unfold wrap64; omega
theorem wrap_one {a : Nat} (ha : a ≤ 1000) : wrap64 ((a : Int) + 1) = ((a + 1 : Nat) : Int) := by unfold wrap64; omega
theorem wrap_mul {a b c : Nat} (h : a * b = c) (hc : c ≤ 1000) : wrap64 ((a : Int) * (b : Int)) = (c : Int) := by
  rw [← Int.natCast_mul, h]; exact wrap_num (by omega)
theorem wrap_pow {q : Nat} (h : q < 60) : wrap64 ((2 : Int) ^ min q 64) = ((2 ^ q : Nat) : Int) := by
  rw [Nat.min_eq_left (by omega), show (2 : Int) ^ q = ((2 ^ q : Nat) : Int) by rw [Int.natCast_pow]; rfl]
  exact wrap_num (Nat.lt_of_lt_of_le (Nat.pow_lt_pow_right (by omega) h) pow60_le)
/-- The cells c, c + s, .. (n of them), as a set. -/
def rowN (c s : Nat) : Nat → Nat
  | 0 => 0
  | n + 1 => rowN c s n ||| 2 ^ (c + n * s)
theorem rowN_bit (c s : Nat) : ∀ n j, (rowN c s n).testBit j = true ↔ ∃ i, i < n ∧ j = c + i * s
  | 0, j => by simp [rowN]
  | n + 1, j => by
    unfold rowN
    rw [Nat.testBit_or, Bool.or_eq_true, rowN_bit c s n j, Nat.testBit_two_pow]
    simp only [decide_eq_true_eq]
    constructor
    · rintro (⟨i, h, e⟩ | e)
      · exact ⟨i, by omega, e⟩
      · exact ⟨n, by omega, e.symm⟩
    · rintro ⟨i, h, e⟩
      by_cases hi : i = n
      · subst hi; exact .inr e.symm
      · exact .inl ⟨i, by omega, e⟩
theorem rowN_lt (c s n b : Nat) (h : ∀ i, i < n → c + i * s < b) : rowN c s n < 2 ^ b := by
  refine Nat.lt_pow_two_of_testBit _ fun j hj => ?_
  cases hb : (rowN c s n).testBit j with
  | false => rfl
  | true =>
    obtain ⟨i, hi, e⟩ := (rowN_bit c s n j).1 hb
    have := h i hi
    omega
theorem rowN_pos (c s n : Nat) (h : 0 < n) : 0 < rowN c s n := by
  have : (rowN c s n).testBit c = true := (rowN_bit c s n c).2 ⟨0, h, by omega⟩
  rcases Nat.eq_zero_or_pos (rowN c s n) with e | e
  · rw [e] at this; simp at this
  · exact e
/-- Of the two directions the first ones: whether the ship fits, its cells. -/
def placeOk (w h n c j : Nat) : Bool := if j = 0 then decide (c % w + n ≤ w) else decide (c / w + n ≤ h)
def placeSet (w n c j : Nat) : Int := ((rowN c (if j = 0 then 1 else w) n : Nat) : Int)
def placeFew (w h n c : Nat) : Nat → List Int
  | 0 => []
  | j + 1 => if placeOk w h n c j then placeFew w h n c j ++ [placeSet w n c j] else placeFew w h n c j
theorem placeFew_len (w h n c : Nat) : ∀ j, (placeFew w h n c j).length ≤ j
  | 0 => Nat.le_refl _
  | j + 1 => by
    have := placeFew_len w h n c j
    unfold placeFew
    split
    · simp; omega
    · omega
/-- The placements that begin at a cell; all before a cell. -/
def placeAt (w h n c : Nat) : List Int := (if c % w + n ≤ w then [(rowN c 1 n : Int)] else []) ++ (if c / w + n ≤ h then [(rowN c w n : Int)] else [])
def placeTo (w h n : Nat) : Nat → List Int
  | 0 => []
  | k + 1 => placeTo w h n k ++ placeAt w h n k
theorem placeFew_two (w h n c : Nat) : placeFew w h n c 2 = placeAt w h n c := by
  unfold placeAt placeFew placeFew placeFew placeOk placeSet
  by_cases h1 : c % w + n ≤ w <;> by_cases h2 : c / w + n ≤ h <;> simp [h1, h2]
theorem place_small_ {w h : Nat} (hw : w ≤ 5) (hh : h ≤ 5) : w * h ≤ 25 := by
  have := Nat.mul_le_mul hw hh
  omega
theorem placeAt_num {w h n c : Nat} (hw : 1 ≤ w) (hw5 : w ≤ 5) (hh : h ≤ 5) (hn : 1 ≤ n) (hc : c < w * h) : ∀ z ∈ placeAt w h n c, ∃ m : Nat, z = (m : Int) ∧ 0 < m ∧ m < 33554432 := by
  intro z hz
  unfold placeAt at hz
  have hdm := Nat.div_add_mod c w
  have hml := Nat.mod_lt c (show 0 < w by omega)
  have hdh : c / w < h := Nat.div_lt_of_lt_mul hc
  generalize c / w = y at *
  generalize c % w = x at *
  have hwy : w * (y + 1) ≤ w * h := Nat.mul_le_mul_left w hdh
  have hwh : w * h ≤ 25 := by
    have := Nat.mul_le_mul hw5 hh
    omega
  rw [Nat.mul_add, Nat.mul_one] at hwy
  rcases List.mem_append.1 hz with hz | hz
  · split at hz
    · rw [List.mem_singleton] at hz
      subst hz
      refine ⟨_, rfl, rowN_pos _ _ _ hn, rowN_lt c 1 n 25 fun i hi => ?_⟩
      omega
    · cases hz
  · split at hz
    · rw [List.mem_singleton] at hz
      subst hz
      refine ⟨_, rfl, rowN_pos _ _ _ hn, rowN_lt c w n 25 fun i hi => ?_⟩
      rename_i hyn
      have h1 : w * (y + i + 1) ≤ w * h := Nat.mul_le_mul_left w (by omega)
      rw [Nat.mul_add, Nat.mul_add, Nat.mul_one, Nat.mul_comm w i] at h1
      omega
    · cases hz
theorem placeTo_num {w h n : Nat} (hw : 1 ≤ w) (hw5 : w ≤ 5) (hh : h ≤ 5) (hn : 1 ≤ n) : ∀ k, k ≤ w * h → ∀ z ∈ placeTo w h n k, ∃ m : Nat, z = (m : Int) ∧ 0 < m ∧ m < 33554432
  | 0, _, z, hz => by cases hz
  | k + 1, hk, z, hz => by
    rcases List.mem_append.1 hz with hz | hz
    · exact placeTo_num hw hw5 hh hn k (by omega) z hz
    · exact placeAt_num hw hw5 hh hn (by omega) z hz
theorem placeAt_len (w h n c : Nat) : (placeAt w h n c).length ≤ 2 := by
  unfold placeAt
  split <;> split <;> simp
theorem placeTo_len (w h n : Nat) : ∀ k, (placeTo w h n k).length ≤ 2 * k
  | 0 => by simp [placeTo]
  | k + 1 => by
    have := placeTo_len w h n k
    have := placeAt_len w h n k
    simp only [placeTo, List.length_append]
    omega
/-- All placements of a length, ascending. -/
def placesOf (w h n : Nat) : List Int := ascOf (placeTo w h n (w * h))
theorem placesOf_asc {w h n : Nat} (hw : 1 ≤ w) (hw5 : w ≤ 5) (hh : h ≤ 5) (hn : 1 ≤ n) : Asc 0 (placesOf w h n) ∧ ∀ z, z ∈ placesOf w h n ↔ z ∈ placeTo w h n (w * h) :=
  ascOf_asc _ 0 (fun z hz => by obtain ⟨m, e, _⟩ := placeTo_num hw hw5 hh hn _ (Nat.le_refl _) z hz; omega)
theorem placesOf_num {w h n : Nat} (hw : 1 ≤ w) (hw5 : w ≤ 5) (hh : h ≤ 5) (hn : 1 ≤ n) : ∀ z ∈ placesOf w h n, ∃ m : Nat, z = (m : Int) ∧ 0 < m ∧ m < 33554432 :=
  fun z hz => placeTo_num hw hw5 hh hn _ (Nat.le_refl _) z (((placesOf_asc hw hw5 hh hn).2 z).1 hz)
def dirA (j : Nat) : Int := if j = 0 then 1 else 0
def dirB (j : Nat) : Int := if j = 0 then 0 else 1
theorem place_dir {wn hn nn x y kk j : Nat} (hw : 1 ≤ wn ∧ wn ≤ 5 ∧ 1 ≤ hn ∧ hn ≤ 5 ∧ 1 ≤ nn ∧ nn ≤ 5) (hxl : x < wn) (hyl : y < hn) (hx : kk % wn = x) (hy : kk / wn = y) (hj : j < 2) :
    ∃ (eA eB sB fA fB : Int) (st : Nat) (bA bB : Bool), wrap64 (((nn - 1 : Nat) : Int) * dirA j) = eA ∧ wrap64 (((nn - 1 : Nat) : Int) * dirB j) = eB ∧ wrap64 (dirB j * (wn : Int)) = sB ∧ wrap64 (dirA j + sB) = (st : Int) ∧ st = (if j = 0 then 1 else wn) ∧ wrap64 ((x : Int) + eA) = fA ∧ wrap64 ((y : Int) + eB) = fB ∧ decide ((wn : Int) ≤ fA) = bA ∧ decide ((hn : Int) ≤ fB) = bB ∧ placeOk wn hn nn kk j = (!bA && !bB) := by
  obtain ⟨m, hm⟩ : ∃ m, nn - 1 = m := ⟨_, rfl⟩
  rw [hm]
  have h01 : j = 0 ∨ j = 1 := by omega
  rcases h01 with rfl | rfl
  · refine ⟨m, 0, 0, ((x + m : Nat) : Int), y, 1, _, _, ?_, ?_, ?_, ?_, rfl, ?_, ?_, rfl, rfl, ?_⟩
    · show wrap64 ((m : Int) * 1) = _
      rw [Int.mul_one]; exact wrap_small (by omega) (by omega)
    · show wrap64 ((m : Int) * 0) = _
      rw [Int.mul_zero]; exact wrap_small (by omega) (by omega)
    · show wrap64 (0 * (wn : Int)) = _
      rw [Int.zero_mul]; exact wrap_small (by omega) (by omega)
    · exact wrap_small (z := 1) (by omega) (by omega)
    · exact wrap_add (by omega) (by omega)
    · rw [Int.add_zero]; exact wrap_small (by omega) (by omega)
    · unfold placeOk
      rw [if_pos rfl, hx]
      have h1 : decide ((hn : Int) ≤ (y : Int)) = false := decide_eq_false (by omega)
      rw [h1]
      by_cases hq : x + nn ≤ wn
      · rw [decide_eq_true hq, decide_eq_false (by omega)]; rfl
      · rw [decide_eq_false hq, decide_eq_true (by omega)]; rfl
  · refine ⟨0, m, wn, x, ((y + m : Nat) : Int), wn, _, _, ?_, ?_, ?_, ?_, rfl, ?_, ?_, rfl, rfl, ?_⟩
    · show wrap64 ((m : Int) * 0) = _
      rw [Int.mul_zero]; exact wrap_small (by omega) (by omega)
    · show wrap64 ((m : Int) * 1) = _
      rw [Int.mul_one]; exact wrap_small (by omega) (by omega)
    · show wrap64 (1 * (wn : Int)) = _
      rw [Int.one_mul]; exact wrap_small (by omega) (by omega)
    · show wrap64 (0 + (wn : Int)) = _
      rw [Int.zero_add]; exact wrap_small (by omega) (by omega)
    · rw [Int.add_zero]; exact wrap_small (by omega) (by omega)
    · exact wrap_add (by omega) (by omega)
    · unfold placeOk
      rw [if_neg (by omega), hy]
      have h1 : decide ((wn : Int) ≤ (x : Int)) = false := decide_eq_false (by omega)
      rw [h1]
      by_cases hq : y + nn ≤ hn
      · rw [decide_eq_true hq, decide_eq_false (by omega)]; rfl
      · rw [decide_eq_false hq, decide_eq_true (by omega)]; rfl
theorem place_bits {kk st i : Nat} (h : ∀ a, a < i + 1 → kk + a * st < 60) : ∃ (pp qq ee : Nat), wrap64 ((i : Int) * (st : Int)) = (pp : Int) ∧ wrap64 ((kk : Int) + (pp : Int)) = (qq : Int) ∧ shl .i64 1 (qq : Int) = (ee : Int) ∧ wrap64 ((2 : Int) ^ min qq 64) = (ee : Int) ∧ Go.bits .or .i64 ((rowN kk st i : Nat) : Int) (ee : Int) = ((rowN kk st (i + 1) : Nat) : Int) ∧ (0 : Int) ≤ (qq : Int) ∧ ¬ (qq : Int) < 0 := by
  have hi := h i (Nat.lt_succ_self i)
  obtain ⟨pp, hpp⟩ : ∃ pp : Nat, i * st = pp := ⟨_, rfl⟩
  rw [hpp] at hi
  have hr : rowN kk st i < 9223372036854775808 := Nat.lt_of_lt_of_le (rowN_lt kk st i 60 (fun a ha => h a (by omega))) pow60_le
  have he : 2 ^ (kk + pp) < 9223372036854775808 := Nat.lt_of_lt_of_le (Nat.pow_lt_pow_right (by omega) hi) pow60_le
  refine ⟨pp, kk + pp, 2 ^ (kk + pp), wrap_mul hpp (by omega), wrap_add (by omega) (by omega), shl_nat _ (by omega), wrap_pow hi, ?_, by omega, by omega⟩
  rw [bits_or_nat _ _ hr he]
  show _ = ((rowN kk st i ||| 2 ^ (kk + i * st) : Nat) : Int)
  rw [hpp]
theorem place_reach {wn hn nn N kk st j : Nat} (hw : 1 ≤ wn ∧ wn ≤ 5 ∧ 1 ≤ hn ∧ hn ≤ 5 ∧ 1 ≤ nn ∧ nn ≤ 5) (hm : N ≤ 25) (hk : kk ≤ N) (hs : st = (if j = 0 then 1 else wn)) : ∀ i, i < nn → kk + i * st < 60 := by
  intro i hi
  have h3 : st ≤ 5 := by rw [hs]; split <;> omega
  have h4 : i * st ≤ 4 * 5 := Nat.mul_le_mul (by omega) h3
  omega
theorem place_room {wn hn nn N kk j : Nat} (hm : N ≤ 25) (hk : kk ≤ N) (hj : j ≤ 2) : ((placeTo wn hn nn kk ++ placeFew wn hn nn kk j).length + 1) * 8 ≤ 140737488355328 := by
  have h1 := placeTo_len wn hn nn kk
  have h2 := placeFew_len wn hn nn kk j
  rw [List.length_append]
  omega
def Tryd.sortI_ren : Go.Shelf.Ren := ⟨fun | 53 => 63 | 64 => 72 | 63 => 71 | 78 => 83 | 79 => 84 | 70 => 74 | 71 => 75 | 72 => 76 | 73 => 77 | 74 => 78 | 75 => 79 | 59 => 80 | 76 => 81 | 77 => 82 | 88 => 85 | 89 => 86 | 90 => 87 | 91 => 88 | 92 => 89 | 68 => 90 | 96 => 91 | n => n, fun | 22 => 22 | 23 => 2 | 3 => 3 | 51 => 89 | 0 => 0 | 67 => 99 | 69 => 45 | 4 => 4 | 61 => 107 | 60 => 106 | 44 => 112 | 5 => 5 | 9 => 9 | 75 => 116 | 79 => 120 | 83 => 122 | 84 => 123 | n => n, fun | n => n⟩
theorem Tryd.sortI : Go.Proofs.SlLaysN.n53 Tryd.prog Tryd.sortI_ren := {
  mixed := by kernel_rfl
  f53 := ⟨Tryd.f63.name, by decide, Tryd.func63.trans (congrArg some (by kernel_rfl))⟩
  f59 := ⟨Tryd.f80.name, by decide, Tryd.func80.trans (congrArg some (by kernel_rfl))⟩
  f63 := ⟨Tryd.f71.name, by decide, Tryd.func71.trans (congrArg some (by kernel_rfl))⟩
  f64 := Tryd.func72.trans (congrArg some (by kernel_rfl))
  f68 := ⟨Tryd.f90.name, by decide, Tryd.func90.trans (congrArg some (by kernel_rfl))⟩
  f70 := ⟨Tryd.f74.name, by decide, Tryd.func74.trans (congrArg some (by kernel_rfl))⟩
  f71 := ⟨Tryd.f75.name, by decide, Tryd.func75.trans (congrArg some (by kernel_rfl))⟩
  f72 := ⟨Tryd.f76.name, by decide, Tryd.func76.trans (congrArg some (by kernel_rfl))⟩
  f73 := ⟨Tryd.f77.name, by decide, Tryd.func77.trans (congrArg some (by kernel_rfl))⟩
  f74 := ⟨Tryd.f78.name, by decide, Tryd.func78.trans (congrArg some (by kernel_rfl))⟩
  f75 := ⟨Tryd.f79.name, by decide, Tryd.func79.trans (congrArg some (by kernel_rfl))⟩
  f76 := ⟨Tryd.f81.name, by decide, Tryd.func81.trans (congrArg some (by kernel_rfl))⟩
  f77 := ⟨Tryd.f82.name, by decide, Tryd.func82.trans (congrArg some (by kernel_rfl))⟩
  f78 := Tryd.func83.trans (congrArg some (by kernel_rfl))
  f79 := Tryd.func84.trans (congrArg some (by kernel_rfl))
  f88 := ⟨Tryd.f85.name, by decide, Tryd.func85.trans (congrArg some (by kernel_rfl))⟩
  f89 := Tryd.func86.trans (congrArg some (by kernel_rfl))
  f90 := Tryd.func87.trans (congrArg some (by kernel_rfl))
  f91 := ⟨Tryd.f88.name, by decide, Tryd.func88.trans (congrArg some (by kernel_rfl))⟩
  f92 := ⟨Tryd.f89.name, by decide, Tryd.func89.trans (congrArg some (by kernel_rfl))⟩
  f96 := ⟨Tryd.f91.name, by decide, Tryd.func91.trans (congrArg some (by kernel_rfl))⟩
  t0 := Tryd.underlying0
  a0 := Tryd.isAgg0
  z0 := Tryd.sizeOf0
  v0 := Tryd.zeroValue0
  t3 := Tryd.underlying3
  a3 := Tryd.isAgg3
  z3 := Tryd.sizeOf3
  v3 := Tryd.zeroValue3
  t4 := Tryd.underlying4
  a4 := Tryd.isAgg4
  z4 := Tryd.sizeOf4
  v4 := Tryd.zeroValue4
  t5 := Tryd.underlying5
  a5 := Tryd.isAgg5
  z5 := Tryd.sizeOf5
  v5 := Tryd.zeroValue5
  t9 := Tryd.underlying9
  a9 := Tryd.isAgg9
  z9 := Tryd.sizeOf9
  v9 := Tryd.zeroValue9
  t22 := Tryd.underlying22
  a22 := Tryd.isAgg22
  z22 := Tryd.sizeOf22
  v22 := Tryd.zeroValue22
  t23 := Tryd.underlying2
  a23 := Tryd.isAgg2
  z23 := Tryd.sizeOf2
  v23 := Tryd.zeroValue2
  t44 := Tryd.underlying112
  a44 := Tryd.isAgg112
  z44 := Tryd.sizeOf112
  v44 := Tryd.zeroValue112
  t51 := Tryd.underlying89
  a51 := Tryd.isAgg89
  z51 := Tryd.sizeOf89
  v51 := Tryd.zeroValue89
  t60 := Tryd.underlying106
  a60 := Tryd.isAgg106
  z60 := Tryd.sizeOf106
  v60 := Tryd.zeroValue106
  t61 := Tryd.underlying107
  a61 := Tryd.isAgg107
  z61 := Tryd.sizeOf107
  v61 := Tryd.zeroValue107
  t67 := Tryd.underlying99
  a67 := Tryd.isAgg99
  z67 := Tryd.sizeOf99
  v67 := Tryd.zeroValue99
  t69 := Tryd.underlying45
  a69 := Tryd.isAgg45
  z69 := Tryd.sizeOf45
  v69 := Tryd.zeroValue45
  t75 := Tryd.underlying116
  a75 := Tryd.isAgg116
  z75 := Tryd.sizeOf116
  v75 := Tryd.zeroValue116
  t79 := Tryd.underlying120
  a79 := Tryd.isAgg120
  z79 := Tryd.sizeOf120
  v79 := Tryd.zeroValue120
  t83 := Tryd.underlying122
  a83 := Tryd.isAgg122
  z83 := Tryd.sizeOf122
  v83 := Tryd.zeroValue122
  t84 := Tryd.underlying123
  a84 := Tryd.isAgg123
  z84 := Tryd.sizeOf123
  v84 := Tryd.zeroValue123 }
def Tryd.compactI_ren : Go.Shelf.Ren := ⟨fun | 43 => 64 | n => n, fun | 22 => 22 | 23 => 2 | 3 => 3 | 4 => 4 | 0 => 0 | n => n, fun | n => n⟩
theorem Tryd.compactI : Go.Proofs.SlLaysN.n43 Tryd.prog Tryd.compactI_ren := {
  mixed := by kernel_rfl
  f43 := ⟨Tryd.f64.name, by decide, Tryd.func64.trans (congrArg some (by kernel_rfl))⟩
  t0 := Tryd.underlying0
  a0 := Tryd.isAgg0
  z0 := Tryd.sizeOf0
  v0 := Tryd.zeroValue0
  t3 := Tryd.underlying3
  a3 := Tryd.isAgg3
  z3 := Tryd.sizeOf3
  v3 := Tryd.zeroValue3
  t4 := Tryd.underlying4
  a4 := Tryd.isAgg4
  z4 := Tryd.sizeOf4
  v4 := Tryd.zeroValue4
  t22 := Tryd.underlying22
  a22 := Tryd.isAgg22
  z22 := Tryd.sizeOf22
  v22 := Tryd.zeroValue22
  t23 := Tryd.underlying2
  a23 := Tryd.isAgg2
  z23 := Tryd.sizeOf2
  v23 := Tryd.zeroValue2
  i23 := by kernel_rfl }
-- slices.Sort, slices.Compact over a row of the call's own, by the shelf's contracts.
theorem own_none {t : TypeId} {w : World} {base : Nat} {ok : Nat → Prop} {xs : List Int} (h : Kd.R (Kd.int .i64) t w base ok (.slice none 0 0) xs) : xs = [] := by
  have := (Kd.R_reads' h).1
  exact List.eq_nil_of_length_eq_zero this.symm
theorem sort_own {w0 w : World} {ok : Nat → Prop} {v : Value} {xs : List Int} (ho : Kd.R (Kd.int .i64) 2 w w0.heap.size ok v xs) (hb : Below w0.heap.size w0 w) (hl : xs.length < 4611686018427387904) :
    Calls Tryd.prog 63 #[v] w fun e w' => e = .returned (.tuple #[]) ∧ Kd.R (Kd.int .i64) 2 w' w0.heap.size ok v (xs.mergeSort fun x y => decide (x ≤ y)) ∧ Below w0.heap.size w0 w' := by
  by_cases hv : v = .slice none 0 0
  · subst hv
    obtain rfl := own_none ho
    refine (AnyG.slices_Sort_int_none Tryd.sortI none 0 w).mono ?_
    rintro e w' ⟨rfl, rfl⟩
    exact ⟨rfl, by rw [List.mergeSort_nil]; exact ho, hb⟩
  · have hown := Kd.own_of_R ho
    obtain ⟨g, cap, rfl, hbg, hgl, hnc, hcm, hz, hH⟩ := Go.Lib.holds_of_ownsRow (enc := Value.int .i64) hown hv
    refine (AnyG.slices_Sort_int Tryd.sortI g 0 cap xs w hH hgl hl).mono ?_
    rintro e w' ⟨rfl, n, os, rfl⟩
    have hlen : (xs.mergeSort fun x y => decide (x ≤ y)).length = xs.length := List.length_mergeSort _
    rcases hown.2 with ⟨e0, _⟩ | ⟨g', cap', cur, e0, hbg', hh, h1, h2, h3, h4⟩
    · cases e0
    injection e0 with e1 _ e3
    injection e1 with e1
    injection e1 with e1
    subst e1 e3
    refine ⟨rfl, Kd.R_of_own ?_ ?_, ?_⟩
    · have := ownsRow_sortedI (n := n) (os := os) hlen hbg hh h1 h2 h3
      rw [hlen]
      exact this
    · exact ho.1
    · have hp := Go.Lib.below_putRow (enc := Value.int .i64) (q := n) (d := (xs.mergeSort fun x y => decide (x ≤ y)).toArray) hb hbg
      refine ⟨hp.os, hp.tape, hp.output, Nat.le_trans hp.size (by simp [Go.Sort.grow]), fun k hk => ?_⟩
      rw [← hp.block k hk]
      exact Array.getElem?_append_left (Nat.lt_of_lt_of_le hk hp.size)
theorem compact_own {w0 w : World} {ok : Nat → Prop} {v : Value} {xs : List Int} (ho : Kd.R (Kd.int .i64) 2 w w0.heap.size ok v xs) (hb : Below w0.heap.size w0 w) (hl : xs.length ≤ 4611686018427387904) :
    Calls Tryd.prog 64 #[v] w fun e w' => ∃ v1, e = .returned v1 ∧ Kd.R (Kd.int .i64) 2 w' w0.heap.size ok v1 (Go.Lib.compact xs) ∧ Below w0.heap.size w0 w' := by
  by_cases hv : v = .slice none 0 0
  · subst hv
    obtain rfl := own_none ho
    refine (AnyG.slices_Compact_int_empty Tryd.compactI none 0 w).mono ?_
    rintro e w' ⟨rfl, rfl⟩
    exact ⟨_, rfl, ho, hb⟩
  · have hown := Kd.own_of_R ho
    obtain ⟨g, cap, rfl, hbg, hgl, hnc, hcm, hz, hH⟩ := Go.Lib.holds_of_ownsRow (enc := Value.int .i64) hown hv
    refine (AnyG.slices_Compact_int Tryd.compactI g 0 cap xs w hH (by omega) (by omega)).mono ?_
    rintro e w' ⟨rfl, q, rfl⟩
    have hle := Go.Lib.compact_length_le xs
    refine ⟨_, rfl, Kd.R_of_own ?_ ?_, ?_⟩
    · have := Go.Lib.ownsRow_putRow (q := q) (ys := Go.Lib.compact xs ++ List.replicate (xs.length - (Go.Lib.compact xs).length) 0) hown (by simp; omega) hle
      rw [List.take_left] at this
      exact this
    · exact ho.1
    · exact Go.Lib.below_putRow hb hbg
/-! ### impl_Sea_placements: function 49 -/
-- EXTERNAL: by hand
-- impl_Sea_cells
-- placesOf sort_own wrap_pow bits_or_nat
def impl_Sea_placements.f (a0_0 a0_1 : Int) (l0_2 : List Int) (a1 : Int) : Option (List Int) := if inW a0_0 1 5 = true ∧ inW a0_1 1 5 = true ∧ inW a1 1 5 = true then some (placesOf a0_0.toNat a0_1.toNat a1.toNat) else none
theorem inW_nat {a : Int} (h : inW a 1 5 = true) : ∃ n : Nat, a = (n : Int) ∧ 1 ≤ n ∧ n ≤ 5 := by
  unfold inW at h
  simp only [Bool.and_eq_true, decide_eq_true_eq] at h
  exact ⟨a.toNat, by omega, by omega, by omega⟩
theorem place_small {w h : Nat} (hw : w ≤ 5) (hh : h ≤ 5) : w * h ≤ 25 := by
  have := Nat.mul_le_mul hw hh
  omega
theorem place_rem (c w : Nat) : Int.tmod (c : Int) (w : Int) = ((c % w : Nat) : Int) := by rw [Int.ofNat_tmod]
theorem place_quo (c w : Nat) : Int.tdiv (c : Int) (w : Int) = ((c / w : Nat) : Int) := by rw [Int.ofNat_tdiv]
set_option maxHeartbeats 4000000 in
set_option maxRecDepth 100000 in
theorem impl_Sea_placements.calls (a0_0 a0_1 : Int) (A0_2 : Option Addr) (c0_2 : Nat) (l0_2 : List Int) (a1 : Int) (r : List Int) (w : World) (hr0_2 : Kd.C (Kd.int .i64) w A0_2 l0_2.length l0_2) (hc0_2 : l0_2.length ≤ c0_2) (h : impl_Sea_placements.f a0_0 a0_1 l0_2 a1 = some r) :
    Calls Tryd.prog 49 #[.agg #[.int .i64 a0_0, .int .i64 a0_1, .slice A0_2 l0_2.length c0_2], .int .i64 a1] w fun e w' => ∃ v0_ : Value, e = .returned v0_ ∧ Kd.R (Kd.int .i64) 2 w' w.heap.size (fun _ => True) v0_ r ∧ Below w.heap.size w w' := by
  unfold impl_Sea_placements.f at h
  split at h
  case isFalse => cases h
  rename_i hcond
  obtain rfl := Option.some.inj h
  clear h
  obtain ⟨wn, rfl, hw1, hw5⟩ := inW_nat hcond.1
  obtain ⟨hn, rfl, hh1, hh5⟩ := inW_nat hcond.2.1
  obtain ⟨nn, rfl, hn1, hn5⟩ := inW_nat hcond.2.2
  simp only [Int.toNat_natCast]
  clear hcond
  have HW := Aside0.mk (show 1 ≤ wn ∧ wn ≤ 5 ∧ 1 ≤ hn ∧ hn ≤ 5 ∧ 1 ≤ nn ∧ nn ≤ 5 from ⟨hw1, hw5, hh1, hh5, hn1, hn5⟩)
  have HM := Aside0.mk (place_small hw5 hh5)
  have hmul : wrap64 ((wn : Int) * (hn : Int)) = ((wn * hn : Nat) : Int) := by
    have h1 := place_small hw5 hh5
    rw [← Int.natCast_mul]
    exact wrap_small (by omega) (by omega)
  unfold placesOf
  obtain ⟨N, hN⟩ : ∃ N, wn * hn = N := ⟨_, rfl⟩
  rw [hN] at hmul HM ⊢
  have HMul := Aside0.mk hmul
  clear hmul
  have HNN := Aside0.mk hN
  clear hN
  have hne2 : ((wn : Int) = 0) = False := eq_false (by omega)
  have hne3 : (wn = 0) = False := eq_false (by omega)
  have HB := Aside0.mk (Below.refl w.heap.size w)
  have HR := Aside0.mk hr0_2
  have HC := Aside0.mk hc0_2
  have hu28 := Tryd.underlying28
  have hu106 := Tryd.underlying95
  have hcells : Tryd.prog.cellsOf 95 = 2 := by kernel_rfl
  have hne0 : ((wn : Int) == 0) = false := beq_eq_false_iff_ne.mpr (by omega)
  have hne1 : ((wn : Int) != 0) = true := bne_iff_ne.mpr (by omega)
  clear hr0_2 hc0_2
  clear hw1 hw5 hh1 hh5 hn1 hn5
  go_enter Tryd.func49, Tryd.ntmps49
  go_wp2_with (first | ((with_reducible refine gate_dst (N := 2) rfl ?_); refine box_event ?hg (N := 2) ?hd (cs := #[.int .i64 (wn : Int), .int .i64 (hn : Int), .slice A0_2 l0_2.length c0_2]) (t := 28) ?hr ?_; (case hd => rfl); (case hg => rfl); (case hr => first | (go_simp; done) | (go_simp; rfl)); intro g2 hg2 w1 hbox hb; have HX1 := Aside0.mk hbox; have HB1 := Aside0.mk (below_step HB.out hb); have HRR1 := Aside0.mk (Kd.C_below HR.out hb); have hs0 := (blk_cell hbox 0).trans rfl; have hs1 := (blk_cell hbox 1).trans rfl; have hs2 := (blk_cell hbox 2).trans rfl; clear hbox hb hg2) | ((with_reducible refine gate_dst (N := 13) rfl ?_); refine Kd.R_lit (Kd.int .i64) _ 2 ?hg (N := 13) ?hd (xs := ([] : List Int)) (inner := []) (ok := fun _ => True) (okp := fun _ => True) ?hr ?hp (fun _ hk => hk) trivial (Below.refl _ _) (Nat.le_refl _) (by simp) ?_; (case hd => rfl); (case hg => rfl); (case hr => first | (go_simp; done) | (go_simp; rfl)); (case hp => exact (Reps.none _ _)); intro v0 w2 ho hb hg_ hnew_; clear hg_ hnew_; have HO2 := Aside0.mk (Kd.R_lower ho (below_size HB1.out)); have HX2 := Aside0.mk (blk_below HX1.out hb); have HRR2 := Aside0.mk (Kd.C_below HRR1.out hb); have HB2 := Aside0.mk (below_step HB1.out hb); (try clear hs0 hs1 hs2); have hs0 := (blk_cell HX2.out 0).trans rfl; have hs1 := (blk_cell HX2.out 1).trans rfl; have hs2 := (blk_cell HX2.out 2).trans rfl; clear ho hb HX1 HRR1 HB1) | (go_at_call 54; refine (impl_Sea_cells.calls (wn : Int) (hn : Int) A0_2 c0_2 l0_2 _ _ HRR2.out HC.out rfl).mono ?_; rintro e w3 ⟨rfl, hb⟩; have HO3 := Aside0.mk (Kd.R_below HO2.out hb); have HX3 := Aside0.mk (blk_below HX2.out hb); have HB3 := Aside0.mk (below_step HB2.out hb); clear hs0 hs1 hs2 hb HO2 HX2 HRR2 HB2))
  (try rw [HMul.out])
  go_loopg [5, 16] (N) (fun gg s5 s16 wr => ∃ kk : Nat, kk ≤ N ∧ N - kk ≤ gg ∧ s16 = .int .i64 kk ∧ Aside0 (Kd.R (Kd.int .i64) 2 wr w.heap.size (fun _ => True) s5 (placeTo wn hn nn kk)) ∧ Aside0 (wr.heap[g2]? = some (.cells #[.int .i64 (wn : Int), .int .i64 (hn : Int), .slice A0_2 l0_2.length c0_2] 28 (0, 0))) ∧ Aside0 (Below w.heap.size w wr))
  case atStart => exact ⟨0, by omega, by omega, rfl, HO3, HX3, HB3⟩
  case round =>
    obtain ⟨kk, hkk, hgg, rfl, HO4, HX4, HB4⟩ := hrel
    clear HO3 HX3 HB3
    by_cases hlt : kk < N
    case pos =>
      have hltz : decide ((kk : Int) < (N : Int)) = true := decide_eq_true (by omega)
      have hltn : decide (kk < N) = true := decide_eq_true hlt
      have hltz1 := eq_true (show (kk : Int) < (N : Int) by omega)
      have hs0 := (blk_cell HX4.out 0).trans rfl
      have hs1 := (blk_cell HX4.out 1).trans rfl
      obtain ⟨x, hx⟩ : ∃ x, kk % wn = x := ⟨_, rfl⟩
      obtain ⟨y, hy⟩ : ∃ y, kk / wn = y := ⟨_, rfl⟩
      have HXY := Aside0.mk (show x < wn ∧ y < hn ∧ kk = wn * y + x by
        have h1 := Nat.mod_lt kk (show 0 < wn by have := HW.out; omega)
        have h2 := Nat.div_add_mod kk wn
        have h3 : kk / wn < hn := Nat.div_lt_of_lt_mul (by rw [HNN.out]; exact hlt)
        rw [hx] at h1 h2; rw [hy] at h2 h3; exact ⟨h1, h3, h2.symm⟩)
      have hrem : Int.tmod (kk : Int) (wn : Int) = (x : Int) := by rw [place_rem, hx]
      have hquo : Int.tdiv (kk : Int) (wn : Int) = (y : Int) := by rw [place_quo, hy]
      have hquw : wrap64 (y : Int) = (y : Int) := wrap_num (by have := HXY.out; have := HW.out; omega)
      have HXe := Aside0.mk hx
      have HYe := Aside0.mk hy
      clear hx hy
      go_wp2_with fail
      go_quiet (fail)
      clear hrem hquo
      go_wp2_with (first | ((with_reducible refine gate_dst (N := 29) rfl ?_); refine lit_event ?hg (N := 29) ?hd (cs := #[.int .i64 1, .int .i64 0, .int .i64 0, .int .i64 1]) (t := 95) (n := 2) ?hr ?_; (case hd => rfl); (case hg => rfl); (case hr => first | (go_simp; done) | (go_simp; rfl)); intro g1 hg1 w5 hbox hb; have HL1 := Aside0.mk hbox; have HO1 := Aside0.mk (Kd.R_below (Kd.R_drewN HO4.out nq) hb); have HX1 := Aside0.mk (blk_below (blk_drewN HX4.out nq) hb); have HB1 := Aside0.mk (below_step (pw_below_drewN HB4.out nq) hb); have HG := Aside0.mk (show w.heap.size ≤ g1 by have := below_size (pw_below_drewN HB4.out nq); omega); (try clear hs0 hs1); clear hb hbox hg1 HO4 HX4 HB4))
      clear hquw
      obtain ⟨n1, hn1e⟩ : ∃ n1 : Int, ((nn - 1 : Nat) : Int) = n1 := ⟨_, rfl⟩
      have HN1 := Aside0.mk hn1e
      have HN2 := Aside0.mk (show wrap64 ((nn : Int) - 1) = n1 by rw [← hn1e, show ((nn : Int) - 1) = ((nn - 1 : Nat) : Int) by have := HW.out; omega]; exact wrap_num (by have := HW.out; omega))
      clear hn1e
      go_loopg [5, 31] 2 (fun gg s5 s31 wr => ∃ j : Nat, j ≤ 2 ∧ 2 - j ≤ gg ∧ s31 = .int .i64 j ∧ Aside0 (Kd.R (Kd.int .i64) 2 wr w.heap.size (fun _ => True) s5 (placeTo wn hn nn kk ++ placeFew wn hn nn kk j)) ∧ Aside0 (wr.heap[g2]? = some (.cells #[.int .i64 (wn : Int), .int .i64 (hn : Int), .slice A0_2 l0_2.length c0_2] 28 (0, 0))) ∧ Aside0 (wr.heap[g1]? = some (.cells #[.int .i64 1, .int .i64 0, .int .i64 0, .int .i64 1] 95 (0, 0))) ∧ Aside0 (Below w.heap.size w wr))
      case atStart => exact ⟨0, by omega, by omega, rfl, ⟨by rw [show placeFew wn hn nn kk 0 = [] from rfl, List.append_nil]; exact HO1.out⟩, HX1, HL1, HB1⟩
      case round =>
        obtain ⟨j, hj, hgj, rfl, HO, HX, HL, HB⟩ := hrel
        clear HO1 HX1 HL1 HB1
        (try clear hs0 hs1)
        by_cases hj2 : j < 2
        case pos =>
          have hs0 := (blk_cell HX.out 0).trans rfl
          have hs1 := (blk_cell HX.out 1).trans rfl
          have hjz := decide_eq_true (show (j : Int) < 2 by omega)
          have hjn := decide_eq_true hj2
          have hjp := eq_true (show (j : Int) < 2 by omega)
          have HMe := Aside0.mk (show 2 - (j + 1) < gk by omega)
          have HRe := Aside0.mk (show j + 1 ≤ 2 by omega)
          have HJ1 := Aside0.mk (wrap_one (a := j) (by omega))
          have h01 : j = 0 ∨ j = 1 := by omega
          have hc0 : wr.cell? ⟨g1, j * 2, none⟩ = some (.int .i64 (dirA j)) := (blk_cell HL.out _).trans (by rcases h01 with rfl | rfl <;> rfl)
          have hc1 : wr.cell? ⟨g1, j * 2 + 1, none⟩ = some (.int .i64 (dirB j)) := (blk_cell HL.out _).trans (by rcases h01 with rfl | rfl <;> rfl)
          clear h01
          have HF := place_dir HW.out HXY.out.1 HXY.out.2.1 HXe.out HYe.out hj2
          rw [HN1.out] at HF
          generalize dirA j = dA at hc0 HF
          generalize dirB j = dB at hc1 HF
          obtain ⟨eA, eB, sB, fA, fB, st, bA, bB, heA, heB, hsB, hst, hsj, hfA, hfB, hbA, hbB, hok⟩ := HF
          have hn1 := HN2.out
          have HOK := Aside0.mk hok
          have HSJ := Aside0.mk hsj
          have HFe := Aside0.mk (show placeFew wn hn nn kk (j + 1) = if placeOk wn hn nn kk j then placeFew wn hn nn kk j ++ [placeSet wn nn kk j] else placeFew wn hn nn kk j from rfl)
          clear hok hsj
          cases bA with
          | true =>
            have HE := Aside0.mk (show placeTo wn hn nn kk ++ placeFew wn hn nn kk (j + 1) = placeTo wn hn nn kk ++ placeFew wn hn nn kk j by rw [HFe.out, if_neg (by rw [HOK.out]; simp)])
            go_wp2_with (first | ((with_reducible refine gate_dst (N := 10) rfl ?_); refine box_event ?hg (N := 10) ?hd (cs := #[.int .i64 0, .int .i64 0]) (t := 95) ?hr ?_; (case hd => rfl); (case hg => rfl); (case hr => first | (go_simp; done) | (go_simp; rfl)); intro g9 hg9 w7 hbox hb; have hd0 : w7.cell? ⟨g9, 0, none⟩ = some (.int .i64 0) := (blk_cell hbox 0).trans rfl; have hd1 : w7.cell? ⟨g9, 1, none⟩ = some (.int .i64 0) := (blk_cell hbox 1).trans rfl; have hf0 : w7.frozen? ⟨g9, 0, none⟩ = false := blk_frozen hbox 0; have hf1 : (w7.setCell ⟨g9, 0, none⟩ (.int .i64 dA)).frozen? ⟨g9, 1, none⟩ = false := blk_frozen (blk_set hbox 0 _) 1; have HY0 := Aside0.mk hbox; have HX7 := Aside0.mk (blk_below HX.out hb); have HL7 := Aside0.mk (blk_below HL.out hb); have HO7 := Aside0.mk (Kd.R_below (Kd.R_elderB HO.out g9 (by omega)) hb); have HG9 := Aside0.mk (show w.heap.size ≤ g9 by have := below_size HB.out; omega); have HG19 := Aside0.mk (show g1 ≠ g9 by have := blk_lt HL.out; omega); have HG29 := Aside0.mk (show g2 ≠ g9 by have := blk_lt HX.out; omega); have HB7 := Aside0.mk (below_step HB.out hb); clear hb hbox hg9 hc0 hc1) | ((with_reducible refine gate_store (t := 95) (p := 10) rfl ?_); refine store_event (t := 95) (p := 10) (v := .tmp 34) (w1 := ((w7.setCell ⟨g9, 0, none⟩ (.int .i64 dA)).setCell ⟨g9, 1, none⟩ (.int .i64 dB))) ?hg ?ho ?hn ?hr ?_; (case ho => rfl); (case hg => rfl); (case hn => rfl); (case hr => first | (go_simp; done) | (go_simp; rfl)); intro w8 hw8; have HY := Aside0.mk (show w8.heap[g9]? = some (.cells #[.int .i64 dA, .int .i64 dB] 95 (0, 0)) by rw [hw8]; exact blk_put (blk_put HY0.out 0 _ rfl) 1 _ rfl); have t1_ := blk_far (p := ⟨g9, 1, none⟩) (blk_far (p := ⟨g9, 0, none⟩) HX7.out HG29.out (.int .i64 dA)) HG29.out (.int .i64 dB); rw [← hw8] at t1_; have HX8 := Aside0.mk t1_; clear t1_; have t1_ := blk_far (p := ⟨g9, 1, none⟩) (blk_far (p := ⟨g9, 0, none⟩) HL7.out HG19.out (.int .i64 dA)) HG19.out (.int .i64 dB); rw [← hw8] at t1_; have HL8 := Aside0.mk t1_; clear t1_; have t1_ := Kd.R_far (p := ⟨g9, 1, none⟩) (Kd.R_far (p := ⟨g9, 0, none⟩) HO7.out (fun _ hk => hk.2) (.int .i64 dA)) (fun _ hk => hk.2) (.int .i64 dB); rw [← hw8] at t1_; have HO8 := Aside0.mk t1_; clear t1_; have HB8 := Aside0.mk (show Below w.heap.size w w8 by rw [hw8]; exact arr_below (arr_below HB7.out HG9.out _ _) HG9.out _ _); have hc2 : w8.cell? ⟨g9, 0, none⟩ = some (.int .i64 dA) := (blk_cell HY.out 0).trans rfl; have hc3 : w8.cell? ⟨g9, 1, none⟩ = some (.int .i64 dB) := (blk_cell HY.out 1).trans rfl; have hs0 := (blk_cell HX8.out 0).trans rfl; have hs1 := (blk_cell HX8.out 1).trans rfl; clear hw8 hd0 hd1 hf0 hf1))
            go_roundg (2 - (j + 1))
            case measure => exact HMe.out
            case rel => exact ⟨j + 1, HRe.out, Nat.le_refl _, (by first | rfl | exact congrArg (Value.int .i64) HJ1.out), ⟨by rw [HE.out]; exact Kd.R_mono HO8.out (fun _ hk => hk.1)⟩, HX8, HL8, HB8⟩
          | false =>
            cases bB with
            | true =>
              have HE := Aside0.mk (show placeTo wn hn nn kk ++ placeFew wn hn nn kk (j + 1) = placeTo wn hn nn kk ++ placeFew wn hn nn kk j by rw [HFe.out, if_neg (by rw [HOK.out]; simp)])
              go_wp2_with (first | ((with_reducible refine gate_dst (N := 10) rfl ?_); refine box_event ?hg (N := 10) ?hd (cs := #[.int .i64 0, .int .i64 0]) (t := 95) ?hr ?_; (case hd => rfl); (case hg => rfl); (case hr => first | (go_simp; done) | (go_simp; rfl)); intro g9 hg9 w7 hbox hb; have hd0 : w7.cell? ⟨g9, 0, none⟩ = some (.int .i64 0) := (blk_cell hbox 0).trans rfl; have hd1 : w7.cell? ⟨g9, 1, none⟩ = some (.int .i64 0) := (blk_cell hbox 1).trans rfl; have hf0 : w7.frozen? ⟨g9, 0, none⟩ = false := blk_frozen hbox 0; have hf1 : (w7.setCell ⟨g9, 0, none⟩ (.int .i64 dA)).frozen? ⟨g9, 1, none⟩ = false := blk_frozen (blk_set hbox 0 _) 1; have HY0 := Aside0.mk hbox; have HX7 := Aside0.mk (blk_below HX.out hb); have HL7 := Aside0.mk (blk_below HL.out hb); have HO7 := Aside0.mk (Kd.R_below (Kd.R_elderB HO.out g9 (by omega)) hb); have HG9 := Aside0.mk (show w.heap.size ≤ g9 by have := below_size HB.out; omega); have HG19 := Aside0.mk (show g1 ≠ g9 by have := blk_lt HL.out; omega); have HG29 := Aside0.mk (show g2 ≠ g9 by have := blk_lt HX.out; omega); have HB7 := Aside0.mk (below_step HB.out hb); clear hb hbox hg9 hc0 hc1) | ((with_reducible refine gate_store (t := 95) (p := 10) rfl ?_); refine store_event (t := 95) (p := 10) (v := .tmp 34) (w1 := ((w7.setCell ⟨g9, 0, none⟩ (.int .i64 dA)).setCell ⟨g9, 1, none⟩ (.int .i64 dB))) ?hg ?ho ?hn ?hr ?_; (case ho => rfl); (case hg => rfl); (case hn => rfl); (case hr => first | (go_simp; done) | (go_simp; rfl)); intro w8 hw8; have HY := Aside0.mk (show w8.heap[g9]? = some (.cells #[.int .i64 dA, .int .i64 dB] 95 (0, 0)) by rw [hw8]; exact blk_put (blk_put HY0.out 0 _ rfl) 1 _ rfl); have t1_ := blk_far (p := ⟨g9, 1, none⟩) (blk_far (p := ⟨g9, 0, none⟩) HX7.out HG29.out (.int .i64 dA)) HG29.out (.int .i64 dB); rw [← hw8] at t1_; have HX8 := Aside0.mk t1_; clear t1_; have t1_ := blk_far (p := ⟨g9, 1, none⟩) (blk_far (p := ⟨g9, 0, none⟩) HL7.out HG19.out (.int .i64 dA)) HG19.out (.int .i64 dB); rw [← hw8] at t1_; have HL8 := Aside0.mk t1_; clear t1_; have t1_ := Kd.R_far (p := ⟨g9, 1, none⟩) (Kd.R_far (p := ⟨g9, 0, none⟩) HO7.out (fun _ hk => hk.2) (.int .i64 dA)) (fun _ hk => hk.2) (.int .i64 dB); rw [← hw8] at t1_; have HO8 := Aside0.mk t1_; clear t1_; have HB8 := Aside0.mk (show Below w.heap.size w w8 by rw [hw8]; exact arr_below (arr_below HB7.out HG9.out _ _) HG9.out _ _); have hc2 : w8.cell? ⟨g9, 0, none⟩ = some (.int .i64 dA) := (blk_cell HY.out 0).trans rfl; have hc3 : w8.cell? ⟨g9, 1, none⟩ = some (.int .i64 dB) := (blk_cell HY.out 1).trans rfl; have hs0 := (blk_cell HX8.out 0).trans rfl; have hs1 := (blk_cell HX8.out 1).trans rfl; clear hw8 hd0 hd1 hf0 hf1))
              go_roundg (2 - (j + 1))
              case measure => exact HMe.out
              case rel => exact ⟨j + 1, HRe.out, Nat.le_refl _, (by first | rfl | exact congrArg (Value.int .i64) HJ1.out), ⟨by rw [HE.out]; exact Kd.R_mono HO8.out (fun _ hk => hk.1)⟩, HX8, HL8, HB8⟩
            | false =>
              have HE := Aside0.mk (show placeTo wn hn nn kk ++ placeFew wn hn nn kk (j + 1) = (placeTo wn hn nn kk ++ placeFew wn hn nn kk j) ++ [((rowN kk st nn : Nat) : Int)] by rw [HFe.out, if_pos (by rw [HOK.out]; rfl), List.append_assoc, HSJ.out]; rfl)
              have HLn := Aside0.mk (place_room (hn := hn) (nn := nn) HM.out (Nat.le_of_lt hlt) hj : ((placeTo wn hn nn kk ++ placeFew wn hn nn kk j).length + 1) * 8 ≤ 140737488355328)
              have HKN := Aside0.mk (place_reach HW.out HM.out (Nat.le_of_lt hlt) HSJ.out)
              generalize placeTo wn hn nn kk ++ placeFew wn hn nn kk j = xs at HO HE HLn
              go_wp2_with (first | ((with_reducible refine gate_dst (N := 10) rfl ?_); refine box_event ?hg (N := 10) ?hd (cs := #[.int .i64 0, .int .i64 0]) (t := 95) ?hr ?_; (case hd => rfl); (case hg => rfl); (case hr => first | (go_simp; done) | (go_simp; rfl)); intro g9 hg9 w7 hbox hb; have hd0 : w7.cell? ⟨g9, 0, none⟩ = some (.int .i64 0) := (blk_cell hbox 0).trans rfl; have hd1 : w7.cell? ⟨g9, 1, none⟩ = some (.int .i64 0) := (blk_cell hbox 1).trans rfl; have hf0 : w7.frozen? ⟨g9, 0, none⟩ = false := blk_frozen hbox 0; have hf1 : (w7.setCell ⟨g9, 0, none⟩ (.int .i64 dA)).frozen? ⟨g9, 1, none⟩ = false := blk_frozen (blk_set hbox 0 _) 1; have HY0 := Aside0.mk hbox; have HX7 := Aside0.mk (blk_below HX.out hb); have HL7 := Aside0.mk (blk_below HL.out hb); have HO7 := Aside0.mk (Kd.R_below (Kd.R_elderB HO.out g9 (by omega)) hb); have HG9 := Aside0.mk (show w.heap.size ≤ g9 by have := below_size HB.out; omega); have HG19 := Aside0.mk (show g1 ≠ g9 by have := blk_lt HL.out; omega); have HG29 := Aside0.mk (show g2 ≠ g9 by have := blk_lt HX.out; omega); have HB7 := Aside0.mk (below_step HB.out hb); clear hb hbox hg9 hc0 hc1) | ((with_reducible refine gate_store (t := 95) (p := 10) rfl ?_); refine store_event (t := 95) (p := 10) (v := .tmp 34) (w1 := ((w7.setCell ⟨g9, 0, none⟩ (.int .i64 dA)).setCell ⟨g9, 1, none⟩ (.int .i64 dB))) ?hg ?ho ?hn ?hr ?_; (case ho => rfl); (case hg => rfl); (case hn => rfl); (case hr => first | (go_simp; done) | (go_simp; rfl)); intro w8 hw8; have HY := Aside0.mk (show w8.heap[g9]? = some (.cells #[.int .i64 dA, .int .i64 dB] 95 (0, 0)) by rw [hw8]; exact blk_put (blk_put HY0.out 0 _ rfl) 1 _ rfl); have t1_ := blk_far (p := ⟨g9, 1, none⟩) (blk_far (p := ⟨g9, 0, none⟩) HX7.out HG29.out (.int .i64 dA)) HG29.out (.int .i64 dB); rw [← hw8] at t1_; have HX8 := Aside0.mk t1_; clear t1_; have t1_ := blk_far (p := ⟨g9, 1, none⟩) (blk_far (p := ⟨g9, 0, none⟩) HL7.out HG19.out (.int .i64 dA)) HG19.out (.int .i64 dB); rw [← hw8] at t1_; have HL8 := Aside0.mk t1_; clear t1_; have t1_ := Kd.R_far (p := ⟨g9, 1, none⟩) (Kd.R_far (p := ⟨g9, 0, none⟩) HO7.out (fun _ hk => hk.2) (.int .i64 dA)) (fun _ hk => hk.2) (.int .i64 dB); rw [← hw8] at t1_; have HO8 := Aside0.mk t1_; clear t1_; have HB8 := Aside0.mk (show Below w.heap.size w w8 by rw [hw8]; exact arr_below (arr_below HB7.out HG9.out _ _) HG9.out _ _); have hc2 : w8.cell? ⟨g9, 0, none⟩ = some (.int .i64 dA) := (blk_cell HY.out 0).trans rfl; have hc3 : w8.cell? ⟨g9, 1, none⟩ = some (.int .i64 dB) := (blk_cell HY.out 1).trans rfl; have hs0 := (blk_cell HX8.out 0).trans rfl; have hs1 := (blk_cell HX8.out 1).trans rfl; clear hw8 hd0 hd1 hf0 hf1))
              go_loopg [11, 58] nn (fun gg s11 s58 wr => ∃ i : Nat, i ≤ nn ∧ nn - i ≤ gg ∧ s58 = .int .i64 i ∧ s11 = .int .i64 (rowN kk st i : Nat) ∧ Aside0 (Kd.R (Kd.int .i64) 2 wr w.heap.size (fun _ => True) u5 xs) ∧ Aside0 (wr.heap[g2]? = some (.cells #[.int .i64 (wn : Int), .int .i64 (hn : Int), .slice A0_2 l0_2.length c0_2] 28 (0, 0))) ∧ Aside0 (wr.heap[g1]? = some (.cells #[.int .i64 1, .int .i64 0, .int .i64 0, .int .i64 1] 95 (0, 0))) ∧ Aside0 (wr.heap[g9]? = some (.cells #[.int .i64 dA, .int .i64 dB] 95 (0, 0))) ∧ Aside0 (Below w.heap.size w wr))
              case atStart => exact ⟨0, Nat.zero_le _, Nat.le_refl _, rfl, rfl, ⟨Kd.R_mono HO8.out (fun _ hk => hk.1)⟩, HX8, HL8, HY, HB8⟩
              case round =>
                obtain ⟨i, hi, hgi, rfl, hs11, HOb, HXb, HLb, HYb, HBb⟩ := hrel
                clear HO8 HX8 HL8 HY HB8 HO7 HX7 HL7 HB7 HY0
                (try clear hc2 hc3)
                (try clear hs0 hs1)
                by_cases hin : i < nn
                case pos =>
                  have hs0 := (blk_cell HXb.out 0).trans rfl
                  have hc2 := (blk_cell HYb.out 0).trans rfl
                  have hc3 := (blk_cell HYb.out 1).trans rfl
                  have hizt : (i : Int) < (nn : Int) := Int.ofNat_lt.2 hin
                  have hiz := decide_eq_true hizt
                  have hizn := decide_eq_true hin
                  have hizp := eq_true hizt
                  clear hizt
                  have HMi := Aside0.mk (show nn - (i + 1) < gk from Nat.lt_of_lt_of_le (Nat.sub_lt_sub_left hin (Nat.lt_succ_self i)) hgi)
                  have HJi := Aside0.mk (wrap_one (a := i) (Nat.le_trans (Nat.le_of_lt hin) (Nat.le_trans HW.out.2.2.2.2.2 (by simp))))
                  obtain ⟨pp, qq, ee, hk1, hk2, hk3, hk5, hk4, hq0a, hq1a⟩ := place_bits (kk := kk) (st := st) (i := i) (fun a ha => HKN.out a (Nat.lt_of_lt_of_le ha hin))
                  have hq0 := eq_true hq0a
                  have hq1 := decide_eq_false hq1a
                  have hq2 := eq_false hq1a
                  obtain ⟨o1, ho1⟩ : ∃ o1 : Int, ((rowN kk st i : Nat) : Int) = o1 := ⟨_, rfl⟩
                  obtain ⟨o2, ho2⟩ : ∃ o2 : Int, ((rowN kk st (i + 1) : Nat) : Int) = o2 := ⟨_, rfl⟩
                  rw [ho1, ho2] at hk4
                  rw [ho1] at hs11
                  have HO2e := Aside0.mk ho2
                  have HIN := Aside0.mk hin
                  subst hs11
                  clear ho1 ho2 hq0a hq1a hin
                  go_wp2_with fail
                  go_roundg (nn - (i + 1))
                  case measure => exact HMi.out
                  case rel => exact ⟨i + 1, HIN.out, Nat.le_refl _, (by first | rfl | exact congrArg (Value.int .i64) HJi.out), congrArg (Value.int .i64) HO2e.out.symm, HOb, HXb, HLb, HYb, HBb⟩
                case neg =>
                  have hie : i = nn := Nat.le_antisymm hi (Nat.le_of_not_lt hin)
                  subst hie
                  have hiz := decide_eq_false (show ¬ (i : Int) < (i : Int) from Int.lt_irrefl _)
                  obtain ⟨sN, hsN⟩ : ∃ sN : Int, ((rowN kk st i : Nat) : Int) = sN := ⟨_, rfl⟩
                  rw [hsN] at hs11 HE
                  clear hsN
                  subst hs11
                  go_wp2_with (first | ((with_reducible refine gate_builtin (b := .append) (xs := #[.tmp 77, .tmp 79]) rfl ?_); at_builtin; refine Kd.R_append (Kd.int .i64) (w0 := w) w.heap.size rfl (.tmp 77) (.tmp 79) 22 2 (.int .i64 0) 8 rfl Tryd.underlying22 info2 rfl (by decide) (by omega) u5 xs (sN : Int) [.int .i64 (sN : Int)] (fun _ => True) (fun _ => False) rfl rfl ?aP (fun _ hk => hk.elim) ?aF ?aO ?aB ?aS ?aL ?_; (case aP => exact rfl); (case aF => exact fun _ _ => trivial); (case aO => exact HOb.out); (case aB => exact HBb.out); (case aS => exact below_size HBb.out); (case aL => exact HLn.out); intro v2 w11 ho hb hg hat; have HO11 := Aside0.mk ho; have HB11 := Aside0.mk hb; have HX11 := Aside0.mk (blk_grown HXb.out hg (Kd.R_ne HOb.out HXb.out (by decide))); have HL11 := Aside0.mk (blk_grown HLb.out hg (Kd.R_ne HOb.out HLb.out (by decide))); clear ho hb hg hat))
                  go_roundg (2 - (j + 1))
                  case measure => exact HMe.out
                  case rel => exact ⟨j + 1, HRe.out, Nat.le_refl _, (by first | rfl | exact congrArg (Value.int .i64) HJ1.out), ⟨by rw [HE.out]; exact HO11.out⟩, HX11, HL11, HB11⟩
        case neg =>
          have hje : j = 2 := by omega
          subst hje
          go_wp2_with fail
          go_roundg (N - (kk + 1))
          case measure => omega
          case rel => have hm25 := HM.out; exact ⟨kk + 1, by omega, by omega, (by first | rfl | exact congrArg (Value.int .i64) (wrap_one (a := kk) (by omega))), ⟨by have h := HO.out; rw [placeFew_two] at h; exact h⟩, HX, HB⟩
    case neg =>
      have hke : N = kk := by omega
      subst hke
      have hnz : decide ((N : Int) < (N : Int)) = false := decide_eq_false (by omega)
      have hnn : decide (N < N) = false := decide_eq_false (by omega)
      have HS0 := Aside0.mk (placeTo_len wn hn nn N)
      have HSO := fun W (ho : Kd.R (Kd.int .i64) 2 W w.heap.size (fun _ => True) u5 (placeTo wn hn nn N)) (hb : Below w.heap.size w W) => sort_own ho hb (by have := HS0.out; have := HM.out; omega)
      go_wp2_with (first | (go_at_call 63; refine (HSO _ HO4.out HB4.out).mono ?_; rintro e w5 ⟨rfl, ho, hb⟩; have HO5 := Aside0.mk ho; have HB5 := Aside0.mk hb; clear ho hb) | (go_at_call 64; refine (compact_own HO5.out HB5.out (by rw [List.length_mergeSort]; have := HS0.out; have := HM.out; omega)).mono ?_; rintro e w6 ⟨v1, rfl, ho, hb⟩; have HO6 := Aside0.mk ho; have HB6 := Aside0.mk hb; clear ho hb))
      go_ret
      exact ⟨_, rfl, HO6.out, HB6.out⟩
/-- What is asked of a function value handed on: at every x of the kind d that q lets by, in every world in which all that lay in w lies unturned, it answers p x and turns nothing that lay. -/
def PredK {α : Type} (P : Program) (g : Nat) (lb : Array Value) (d : Kd α) (q : α → Prop) (p : α → Bool) (w : World) : Prop :=
  ∀ (W : World) (x : α) (v : Value), q x → d.K W x [v] → Below w.heap.size w W → Calls P g (#[v] ++ lb) W fun e w' => e = .returned (.bool (p x)) ∧ Below W.heap.size W w'
theorem PredK.later {α : Type} {P : Program} {g : Nat} {lb : Array Value} {d : Kd α} {q : α → Prop} {p : α → Bool} {w W : World} (h : PredK P g lb d q p w) (hb : Below w.heap.size w W) : PredK P g lb d q p W :=
  fun W' x v hq hK hb' => h W' x v hq hK (hb.trans (hb'.mono hb.size))
/-- One cell of a row that is read. -/
theorem Kd.C_one {α : Type} {d : Kd α} {w : World} {A : Option Addr} {n : Nat} {xs : List α} (h1 : d.sz = 1) (h : d.C w A n xs) (i : Nat) (hi : i < n) (hl : n = xs.length) :
    ∃ ad v, A = some ad ∧ w.cell? (ad.add i) = some v ∧ d.K w (xs[i]'(by omega)) [v] := by
  have hi' : i < xs.length := by omega
  obtain ⟨ad, c, hA, hc, hK, hcell⟩ := Kd.C_get h (xs[i]'hi') (i : Int) (by omega) (by omega)
  rw [h1] at hc
  match c, hc with
  | [v], _ =>
    refine ⟨ad, v, hA, ?_, ?_⟩
    · have := hcell 0 v rfl
      rw [h1] at this
      simpa using this
    · have e : xs.getD (i : Int).toNat (xs[i]'hi') = xs[i]'hi' := by simp [List.getD_eq_getElem?_getD, List.getElem?_eq_getElem hi']
      rwa [e] at hK
/-- The place of the first hit from i on, or -1. -/
def idxK {α : Type} (p : α → Bool) : List α → Nat → Int
  | [], _ => -1
  | x :: r, i => if p x then (i : Int) else idxK p r (i + 1)
theorem idxK_ge {α : Type} (p : α → Bool) : ∀ (l : List α) (i : Nat), (0 ≤ idxK p l i) ↔ l.any p = true
  | [], i => by simp [idxK]
  | x :: r, i => by
    have ih := idxK_ge p r (i + 1)
    unfold idxK
    cases h : p x
    · simpa [h] using ih
    · simp [h]
theorem idxK_drop {α : Type} (p : α → Bool) (l : List α) (i : Nat) (h : i < l.length) : idxK p (l.drop i) i = if p l[i] then (i : Int) else idxK p (l.drop (i + 1)) (i + 1) := by
  rw [List.drop_eq_getElem_cons h]; rfl
theorem idxK_any {α : Type} (p : α → Bool) (l : List α) : decide (0 ≤ idxK p l 0) = l.any p := by
  have := idxK_ge p l 0
  rw [Bool.eq_iff_iff, decide_eq_true_iff]
  exact this
/-- The same of a function value which turns nothing at all, and makes nothing. -/
def PredD {α : Type} (P : Program) (g : Nat) (lb : Array Value) (d : Kd α) (q : α → Prop) (p : α → Bool) (w : World) : Prop :=
  ∀ (W : World) (x : α) (v : Value), q x → d.K W x [v] → Below w.heap.size w W → Calls P g (#[v] ++ lb) W fun e w' => e = .returned (.bool (p x)) ∧ Drawn0 W w'
theorem drawn_trans {a b c : World} (h1 : Drawn0 a b) (h2 : Drawn0 b c) : Drawn0 a c := by
  obtain ⟨n, rfl⟩ := h2
  exact h1.step n
/-! ### slices_IndexFunc_int64_int64: function 28 -/
-- EXTERNAL: by hand
set_option maxHeartbeats 4000000 in
set_option maxRecDepth 100000 in
theorem slices_IndexFunc_int64_int64.calls (g : Nat) (lb : Array Value) (q : Int → Prop) (p : Int → Bool) (eg : ∀ args w, (callFunc g args).run Tryd.prog w = .ok (.enter g args) w)
    (A0 : Option Addr) (c0 : Nat) (l0 : List Int) (w : World) (hp : PredK Tryd.prog g lb (Kd.int .i64) q p w) (hq : ∀ x ∈ l0, q x) (hr0 : Kd.C (Kd.int .i64) w A0 l0.length l0) (hm : l0.length ≤ 9223372036854775807) :
    Calls Tryd.prog 28 #[.slice A0 l0.length c0, .func (.func g) #[] lb] w fun e w' => e = .returned (.int .i64 (idxK p l0 0)) ∧ Below w.heap.size w w' := by
  have HP := Aside0.mk hp
  have HR := Aside0.mk hr0
  have HQ := Aside0.mk hq
  clear hp hr0 hq
  go_enter Tryd.func28, Tryd.ntmps28
  go_wp2
  go_loopg [5, 8] l0.length (fun gg _ s8 wr => ∃ kk : Nat, kk ≤ l0.length ∧ l0.length - kk ≤ gg ∧ s8 = .int .i64 kk ∧ Aside0 (idxK p (l0.drop kk) kk = idxK p l0 0) ∧ Aside0 (Below w.heap.size w wr))
  case atStart => exact ⟨0, Nat.zero_le _, by omega, rfl, ⟨rfl⟩, ⟨Below.refl _ _⟩⟩
  case round =>
    obtain ⟨kk, hkk, hg, rfl, A, HB⟩ := hrel
    by_cases hlt : kk < l0.length
    · have hltz : (kk : Int) < (l0.length : Int) := by omega
      obtain ⟨ad, v, rfl, hcell, hK⟩ := Kd.C_one rfl (Kd.C_below HR.out HB.out) kk hlt rfl
      have hcall := HP.out wr _ v (HQ.out _ (List.getElem_mem hlt)) hK HB.out
      have HK1 := (Kd.int .i64).K_one hK v (by simp)
      have E := Aside0.mk (idxK_drop p l0 kk hlt)
      generalize p l0[kk] = b at hcall E
      clear hK
      cases b with
      | true =>
        go_wp2_with (go_at_fn g; refine hcall.mono ?_; rintro e w' ⟨rfl, hb⟩)
        go_ret
        refine ⟨?_, below_then HB.out HB.out.size hb⟩
        rw [← A.out, E.out]; rfl
      | false =>
        go_wp2_with (go_at_fn g; refine hcall.mono ?_; rintro e w' ⟨rfl, hb⟩)
        go_roundg (l0.length - (kk + 1))
        case measure => omega
        case rel => exact ⟨kk + 1, by omega, by omega, by go_num, ⟨by rw [← A.out, E.out]; rfl⟩, ⟨below_then HB.out HB.out.size hb⟩⟩
    · have hltz : ¬ (kk : Int) < (l0.length : Int) := by omega
      have : kk = l0.length := by omega
      subst this
      go_wp2
      go_ret
      refine ⟨?_, HB.out⟩
      rw [← A.out]; simp [idxK]
set_option maxHeartbeats 4000000 in
set_option maxRecDepth 100000 in
theorem slices_IndexFunc_int64_int64.callsD (g : Nat) (lb : Array Value) (q : Int → Prop) (p : Int → Bool) (eg : ∀ args w, (callFunc g args).run Tryd.prog w = .ok (.enter g args) w)
    (A0 : Option Addr) (c0 : Nat) (l0 : List Int) (w : World) (hp : PredD Tryd.prog g lb (Kd.int .i64) q p w) (hq : ∀ x ∈ l0, q x) (hr0 : Kd.C (Kd.int .i64) w A0 l0.length l0) (hm : l0.length ≤ 9223372036854775807) :
    Calls Tryd.prog 28 #[.slice A0 l0.length c0, .func (.func g) #[] lb] w fun e w' => e = .returned (.int .i64 (idxK p l0 0)) ∧ Drawn0 w w' := by
  have HP := Aside0.mk hp
  have HR := Aside0.mk hr0
  have HQ := Aside0.mk hq
  clear hp hr0 hq
  go_enter Tryd.func28, Tryd.ntmps28
  go_wp2
  go_loopg [5, 8] l0.length (fun gg _ s8 wr => ∃ kk : Nat, kk ≤ l0.length ∧ l0.length - kk ≤ gg ∧ s8 = .int .i64 kk ∧ Aside0 (idxK p (l0.drop kk) kk = idxK p l0 0) ∧ Aside0 (Drawn0 w wr))
  case atStart => exact ⟨0, Nat.zero_le _, by omega, rfl, ⟨rfl⟩, ⟨Drawn0.refl _⟩⟩
  case round =>
    obtain ⟨kk, hkk, hg, rfl, A, HB⟩ := hrel
    by_cases hlt : kk < l0.length
    · have hltz : (kk : Int) < (l0.length : Int) := by omega
      obtain ⟨ad, v, rfl, hcell, hK⟩ := Kd.C_one rfl (Kd.C_below HR.out HB.out.below) kk hlt rfl
      have hcall := HP.out wr _ v (HQ.out _ (List.getElem_mem hlt)) hK HB.out.below
      have HK1 := (Kd.int .i64).K_one hK v (by simp)
      have E := Aside0.mk (idxK_drop p l0 kk hlt)
      generalize p l0[kk] = b at hcall E
      clear hK
      cases b with
      | true =>
        go_wp2_with (go_at_fn g; refine hcall.mono ?_; rintro e w' ⟨rfl, hb⟩)
        go_ret
        refine ⟨?_, drawn_trans HB.out hb⟩
        rw [← A.out, E.out]; rfl
      | false =>
        go_wp2_with (go_at_fn g; refine hcall.mono ?_; rintro e w' ⟨rfl, hb⟩)
        go_roundg (l0.length - (kk + 1))
        case measure => omega
        case rel => exact ⟨kk + 1, by omega, by omega, by go_num, ⟨by rw [← A.out, E.out]; rfl⟩, ⟨drawn_trans HB.out hb⟩⟩
    · have hltz : ¬ (kk : Int) < (l0.length : Int) := by omega
      have : kk = l0.length := by omega
      subst this
      go_wp2
      go_ret
      refine ⟨?_, HB.out⟩
      rw [← A.out]; simp [idxK]
/-! ### slices_ContainsFunc_int64_int64: function 65 -/
-- EXTERNAL: by hand
set_option maxHeartbeats 1000000 in
theorem slices_ContainsFunc_int64_int64.calls (g : Nat) (lb : Array Value) (q : Int → Prop) (p : Int → Bool) (eg : ∀ args w, (callFunc g args).run Tryd.prog w = .ok (.enter g args) w)
    (A0 : Option Addr) (c0 : Nat) (l0 : List Int) (w : World) (hp : PredK Tryd.prog g lb (Kd.int .i64) q p w) (hq : ∀ x ∈ l0, q x) (hr0 : Kd.C (Kd.int .i64) w A0 l0.length l0) (hm : l0.length ≤ 9223372036854775807) :
    Calls Tryd.prog 65 #[.slice A0 l0.length c0, .func (.func g) #[] lb] w fun e w' => e = .returned (.bool (l0.any p)) ∧ Below w.heap.size w w' := by
  rw [← idxK_any]
  have HI := slices_IndexFunc_int64_int64.calls g lb q p eg A0 c0 l0 w hp hq hr0 hm
  clear hp hq hr0
  generalize idxK p l0 0 = r at HI ⊢
  go_enter Tryd.func65, Tryd.ntmps65
  go_wp2_with (go_at_call 28; refine HI.mono ?_; rintro e w' ⟨rfl, hb⟩)
  go_ret
  exact ⟨rfl, hb⟩
set_option maxHeartbeats 1000000 in
theorem slices_ContainsFunc_int64_int64.callsD (g : Nat) (lb : Array Value) (q : Int → Prop) (p : Int → Bool) (eg : ∀ args w, (callFunc g args).run Tryd.prog w = .ok (.enter g args) w)
    (A0 : Option Addr) (c0 : Nat) (l0 : List Int) (w : World) (hp : PredD Tryd.prog g lb (Kd.int .i64) q p w) (hq : ∀ x ∈ l0, q x) (hr0 : Kd.C (Kd.int .i64) w A0 l0.length l0) (hm : l0.length ≤ 9223372036854775807) :
    Calls Tryd.prog 65 #[.slice A0 l0.length c0, .func (.func g) #[] lb] w fun e w' => e = .returned (.bool (l0.any p)) ∧ Drawn0 w w' := by
  rw [← idxK_any]
  have HI := slices_IndexFunc_int64_int64.callsD g lb q p eg A0 c0 l0 w hp hq hr0 hm
  clear hp hq hr0
  generalize idxK p l0 0 = r at HI ⊢
  go_enter Tryd.func65, Tryd.ntmps65
  go_wp2_with (go_at_call 28; refine HI.mono ?_; rintro e w' ⟨rfl, hb⟩)
  go_ret
  exact ⟨rfl, hb⟩
/-! ### impl_Sea_goesOn: function 50 -/
-- EXTERNAL: by hand
-- slices_ContainsFunc_int64_int64
def goesStop (ships list : List Int) (own : Int) : Bool := decide (0 < list.length) && (decide (rd ships list.length = rd ships ((list.length : Int) - 1)) && decide (own ≤ rd list ((list.length : Int) - 1)))
def goesV (ships list : List Int) (own : Int) : Bool := !goesStop ships list own && !list.any (fun x => Go.bits .and .i64 x own != 0)
def impl_Sea_goesOn.f (a0_0 a0_1 : Int) (l0_2 l1 : List Int) (a2 : Int) : Option Bool := if l1.length < l0_2.length ∧ l0_2.length ≤ 1000 then some (goesV l0_2 l1 a2) else none
theorem goesPred (B : Nat) (a2 : Int) (w : World) (hbox : w.heap[B]? = some (.cells #[.int .i64 a2] 2 (0, 0))) :
    PredK Tryd.prog 66 #[.pointer (some ⟨B, 0, none⟩)] (Kd.int .i64) (fun _ => True) (fun x => Go.bits .and .i64 x a2 != 0) w := by
  intro W x v _ hK hb
  obtain rfl : v = .int .i64 x := by simpa [Kd.int, Kd.scalar] using hK
  show Calls Tryd.prog 66 #[.int .i64 x, .pointer (some ⟨B, 0, none⟩)] W _
  have hc0 : W.cell? ⟨B, 0, none⟩ = some (.int .i64 a2) := (blk_cell (blk_below hbox hb) 0).trans rfl
  clear hbox hK hb
  go_enter Tryd.func66, Tryd.ntmps66
  go_wp2_with fail
  go_ret
  exact ⟨rfl, Below.refl _ _⟩
set_option maxHeartbeats 4000000 in
set_option maxRecDepth 100000 in
theorem impl_Sea_goesOn.calls (a0_0 a0_1 : Int) (A0_2 : Option Addr) (c0_2 : Nat) (l0_2 : List Int) (A1 : Option Addr) (c1 : Nat) (l1 : List Int) (a2 : Int) (r : Bool) (w : World) (hr0_2 : Kd.C (Kd.int .i64) w A0_2 l0_2.length l0_2) (hc0_2 : l0_2.length ≤ c0_2) (hr1 : Kd.C (Kd.int .i64) w A1 l1.length l1) (hc1 : l1.length ≤ c1) (h : impl_Sea_goesOn.f a0_0 a0_1 l0_2 l1 a2 = some r) :
    Calls Tryd.prog 50 #[.agg #[.int .i64 a0_0, .int .i64 a0_1, .slice A0_2 l0_2.length c0_2], .slice A1 l1.length c1, .int .i64 a2] w fun e w' => e = .returned (.bool r) ∧ Below w.heap.size w w' := by
  have eg : ∀ args w, (callFunc 66 args).run Tryd.prog w = .ok (.enter 66 args) w := enters_of Tryd.func66 (by kernel_rfl) rfl
  unfold impl_Sea_goesOn.f at h
  split at h
  case isFalse => cases h
  rename_i hcond
  obtain rfl := Option.some.inj h
  clear h
  have HB := Aside0.mk (Below.refl w.heap.size w)
  have HRa := Aside0.mk hr0_2
  have HRb := Aside0.mk hr1
  have HM := Aside0.mk (show l1.length ≤ 9223372036854775807 by omega)
  have HC := Aside0.mk hcond
  have hu28 := Tryd.underlying28
  clear hr0_2 hr1 hcond
  by_cases h0 : 0 < l1.length
  case neg =>
    have he : l1.length = 0 := by omega
    have hV : goesV l0_2 l1 a2 = !l1.any (fun x => Go.bits .and .i64 x a2 != 0) := by unfold goesV goesStop; rw [decide_eq_false h0]; rfl
    rw [hV]
    clear hV h0
    have hz := decide_eq_false (show ¬ (0 : Int) < (l1.length : Int) by omega)
    have hzn := decide_eq_false (show ¬ 0 < l1.length by omega)
    generalize hany : l1.any (fun x => Go.bits .and .i64 x a2 != 0) = ba
    have HAny := Aside0.mk hany
    clear hany he
    go_enter Tryd.func50, Tryd.ntmps50
    go_wp2_with (first | ((with_reducible refine gate_dst (N := 3) rfl ?_); refine box_event ?hg (N := 3) ?hd (cs := #[.int .i64 a0_0, .int .i64 a0_1, .slice A0_2 l0_2.length c0_2]) (t := 28) ?hr ?_; (case hd => rfl); (case hg => rfl); (case hr => first | (go_simp; done) | (go_simp; rfl)); intro g3 hg3 w1 hbox hb; have HX1 := Aside0.mk hbox; have HB1 := Aside0.mk (below_step HB.out hb); have HRa1 := Aside0.mk (Kd.C_below HRa.out hb); have HRb1 := Aside0.mk (Kd.C_below HRb.out hb); clear hbox hb hg3) | ((with_reducible refine gate_dst (N := 5) rfl ?_); refine box_event ?hg (N := 5) ?hd (cs := #[.int .i64 a2]) (t := 2) ?hr ?_; (case hd => rfl); (case hg => rfl); (case hr => first | (go_simp; done) | (go_simp; rfl)); intro g5 hg5 w2 hbox hb; have HY2 := Aside0.mk hbox; have HX2 := Aside0.mk (blk_below HX1.out hb); have HB2 := Aside0.mk (below_step HB1.out hb); have HRa2 := Aside0.mk (Kd.C_below HRa1.out hb); have HRb2 := Aside0.mk (Kd.C_below HRb1.out hb); clear hbox hb hg5))
    go_quiet (fail)
    go_wp2_with (first | (go_at_call 65; refine (slices_ContainsFunc_int64_int64.calls 66 #[.pointer (some ⟨g5, 0, none⟩)] (fun _ => True) (fun x => Go.bits .and .i64 x a2 != 0) eg A1 c1 l1 _ (goesPred g5 a2 _ (blk_drewN HY2.out nq)) (fun _ _ => trivial) (Kd.C_below HRb2.out (pw_below_drewN (Below.refl _ _) nq)) HM.out).mono ?_; rintro e w4 ⟨rfl, hb⟩; have HB4 := Aside0.mk (below_step (pw_below_drewN HB2.out nq) hb); clear hb))
    go_ret
    exact ⟨by rw [← HAny.out]; rfl, HB4.out⟩
  case pos =>
    obtain ⟨m, hm⟩ : ∃ m : Nat, l1.length = m + 1 := ⟨l1.length - 1, by omega⟩
    obtain ⟨ad, eqa_, _⟩ := Kd.at_int HRa.out (l1.length : Int) (by omega) (by have := HC.out; omega)
    obtain ⟨bd, eqb_, _⟩ := Kd.at_int HRb.out (m : Int) (by omega) (by omega)
    subst eqa_ eqb_
    have hn1 : wrap64 ((l1.length : Int) - 1) = (m : Int) := by have := HC.out; unfold wrap64; omega
    have hz := decide_eq_true (show (0 : Int) < (l1.length : Int) by omega)
    have hzn := decide_eq_true h0
    have q1 := eq_true (show (l1.length : Int) < (l0_2.length : Int) by have := HC.out; omega)
    have q2 := eq_true (show (m : Int) < (l0_2.length : Int) by have := HC.out; omega)
    have q3 := eq_true (show (m : Int) < (l1.length : Int) by omega)
    have q4 := eq_true (show l1.length < l0_2.length by have := HC.out; omega)
    have q5 := eq_true (show m < l0_2.length by have := HC.out; omega)
    have q6 := eq_true (show m < l1.length by omega)
    have q7 := eq_true (show (0 : Int) ≤ (m : Int) by omega)
    have q8 := eq_true (show (0 : Int) ≤ (l1.length : Int) by omega)
    have HV : goesV l0_2 l1 a2 = (!(decide (rd l0_2 (l1.length : Int) = rd l0_2 (m : Int)) && decide (a2 ≤ rd l1 (m : Int))) && !l1.any (fun x => Go.bits .and .i64 x a2 != 0)) := by
      unfold goesV goesStop
      rw [decide_eq_true h0, show ((l1.length : Int) - 1) = (m : Int) by omega]; rfl
    rw [HV]
    clear HV h0
    have HK := fun W (hb : Below w.heap.size w W) => Kd.at_int (Kd.C_below HRa.out hb) (l1.length : Int) (by omega) (by have := HC.out; omega)
    have HK2 := fun W (hb : Below w.heap.size w W) => Kd.at_int (Kd.C_below HRa.out hb) (m : Int) (by omega) (by have := HC.out; omega)
    have HK3 := fun W (hb : Below w.heap.size w W) => Kd.at_int (Kd.C_below HRb.out hb) (m : Int) (by omega) (by omega)
    generalize hany : l1.any (fun x => Go.bits .and .i64 x a2 != 0) = ba
    have HAny := Aside0.mk hany
    clear hany
    generalize rd l0_2 (l1.length : Int) = s1 at *
    generalize rd l0_2 (m : Int) = s2 at *
    generalize rd l1 (m : Int) = lx at *
    have HKa := Aside0.mk HK
    have HKb := Aside0.mk HK2
    have HKc := Aside0.mk HK3
    clear HK HK2 HK3 hm
    by_cases h1 : s1 = s2
    case neg =>
      have h1b : (s1 == s2) = false := beq_eq_false_iff_ne.mpr h1
      rw [decide_eq_false h1]
      go_enter Tryd.func50, Tryd.ntmps50
      go_wp2_with (first | ((with_reducible refine gate_dst (N := 3) rfl ?_); refine box_event ?hg (N := 3) ?hd (cs := #[.int .i64 a0_0, .int .i64 a0_1, .slice (some ad) l0_2.length c0_2]) (t := 28) ?hr ?_; (case hd => rfl); (case hg => rfl); (case hr => first | (go_simp; done) | (go_simp; rfl)); intro g3 hg3 w1 hbox hb; have HX1 := Aside0.mk hbox; have HB1 := Aside0.mk (below_step HB.out hb); have HRa1 := Aside0.mk (Kd.C_below HRa.out hb); have HRb1 := Aside0.mk (Kd.C_below HRb.out hb); clear hbox hb hg3) | ((with_reducible refine gate_dst (N := 5) rfl ?_); refine box_event ?hg (N := 5) ?hd (cs := #[.int .i64 a2]) (t := 2) ?hr ?_; (case hd => rfl); (case hg => rfl); (case hr => first | (go_simp; done) | (go_simp; rfl)); intro g5 hg5 w2 hbox hb; have HY2 := Aside0.mk hbox; have HX2 := Aside0.mk (blk_below HX1.out hb); have HB2 := Aside0.mk (below_step HB1.out hb); have HRa2 := Aside0.mk (Kd.C_below HRa1.out hb); have HRb2 := Aside0.mk (Kd.C_below HRb1.out hb); clear hbox hb hg5))
      obtain ⟨ad1, e1, k1⟩ := HKa.out _ HB2.out
      obtain ⟨ad2, e2, k2⟩ := HKb.out _ HB2.out
      obtain ⟨bd1, e3, k3⟩ := HKc.out _ HB2.out
      injection e1 with e1
      injection e2 with e2
      injection e3 with e3
      subst e1 e2 e3
      rw [Int.toNat_natCast] at k1 k2 k3
      have hs2 := (blk_cell HX2.out 2).trans rfl
      have ho0 := (blk_cell HY2.out 0).trans rfl
      go_quiet (fail)
      go_wp2_with (first | (go_at_call 65; refine (slices_ContainsFunc_int64_int64.calls 66 #[.pointer (some ⟨g5, 0, none⟩)] (fun _ => True) (fun x => Go.bits .and .i64 x a2 != 0) eg (some bd) c1 l1 _ (goesPred g5 a2 _ (blk_drewN HY2.out nq)) (fun _ _ => trivial) (Kd.C_below HRb2.out (pw_below_drewN (Below.refl _ _) nq)) HM.out).mono ?_; rintro e w4 ⟨rfl, hb⟩; have HB4 := Aside0.mk (below_step (pw_below_drewN HB2.out nq) hb); clear hb))
      go_ret
      exact ⟨by rw [← HAny.out]; rfl, HB4.out⟩
    case pos =>
      subst h1
      have h1b : (s1 == s1) = true := beq_self_eq_true s1
      rw [decide_eq_true (rfl : s1 = s1)]
      by_cases h2 : a2 ≤ lx
      case pos =>
        have h2b := decide_eq_true h2
        rw [h2b]
        clear h2
        go_enter Tryd.func50, Tryd.ntmps50
        go_wp2_with (first | ((with_reducible refine gate_dst (N := 3) rfl ?_); refine box_event ?hg (N := 3) ?hd (cs := #[.int .i64 a0_0, .int .i64 a0_1, .slice (some ad) l0_2.length c0_2]) (t := 28) ?hr ?_; (case hd => rfl); (case hg => rfl); (case hr => first | (go_simp; done) | (go_simp; rfl)); intro g3 hg3 w1 hbox hb; have HX1 := Aside0.mk hbox; have HB1 := Aside0.mk (below_step HB.out hb); have HRa1 := Aside0.mk (Kd.C_below HRa.out hb); have HRb1 := Aside0.mk (Kd.C_below HRb.out hb); clear hbox hb hg3) | ((with_reducible refine gate_dst (N := 5) rfl ?_); refine box_event ?hg (N := 5) ?hd (cs := #[.int .i64 a2]) (t := 2) ?hr ?_; (case hd => rfl); (case hg => rfl); (case hr => first | (go_simp; done) | (go_simp; rfl)); intro g5 hg5 w2 hbox hb; have HY2 := Aside0.mk hbox; have HX2 := Aside0.mk (blk_below HX1.out hb); have HB2 := Aside0.mk (below_step HB1.out hb); have HRa2 := Aside0.mk (Kd.C_below HRa1.out hb); have HRb2 := Aside0.mk (Kd.C_below HRb1.out hb); clear hbox hb hg5))
        obtain ⟨ad1, e1, k1⟩ := HKa.out _ HB2.out
        obtain ⟨ad2, e2, k2⟩ := HKb.out _ HB2.out
        obtain ⟨bd1, e3, k3⟩ := HKc.out _ HB2.out
        injection e1 with e1
        injection e2 with e2
        injection e3 with e3
        subst e1 e2 e3
        rw [Int.toNat_natCast] at k1 k2 k3
        have hs2 := (blk_cell HX2.out 2).trans rfl
        have ho0 := (blk_cell HY2.out 0).trans rfl
        go_quiet (fail)
        go_wp2_with fail
        go_ret
        exact ⟨rfl, pw_below_drewN HB2.out nq⟩
      case neg =>
        have h2b := decide_eq_false h2
        rw [h2b]
        clear h2
        go_enter Tryd.func50, Tryd.ntmps50
        go_wp2_with (first | ((with_reducible refine gate_dst (N := 3) rfl ?_); refine box_event ?hg (N := 3) ?hd (cs := #[.int .i64 a0_0, .int .i64 a0_1, .slice (some ad) l0_2.length c0_2]) (t := 28) ?hr ?_; (case hd => rfl); (case hg => rfl); (case hr => first | (go_simp; done) | (go_simp; rfl)); intro g3 hg3 w1 hbox hb; have HX1 := Aside0.mk hbox; have HB1 := Aside0.mk (below_step HB.out hb); have HRa1 := Aside0.mk (Kd.C_below HRa.out hb); have HRb1 := Aside0.mk (Kd.C_below HRb.out hb); clear hbox hb hg3) | ((with_reducible refine gate_dst (N := 5) rfl ?_); refine box_event ?hg (N := 5) ?hd (cs := #[.int .i64 a2]) (t := 2) ?hr ?_; (case hd => rfl); (case hg => rfl); (case hr => first | (go_simp; done) | (go_simp; rfl)); intro g5 hg5 w2 hbox hb; have HY2 := Aside0.mk hbox; have HX2 := Aside0.mk (blk_below HX1.out hb); have HB2 := Aside0.mk (below_step HB1.out hb); have HRa2 := Aside0.mk (Kd.C_below HRa1.out hb); have HRb2 := Aside0.mk (Kd.C_below HRb1.out hb); clear hbox hb hg5))
        obtain ⟨ad1, e1, k1⟩ := HKa.out _ HB2.out
        obtain ⟨ad2, e2, k2⟩ := HKb.out _ HB2.out
        obtain ⟨bd1, e3, k3⟩ := HKc.out _ HB2.out
        injection e1 with e1
        injection e2 with e2
        injection e3 with e3
        subst e1 e2 e3
        rw [Int.toNat_natCast] at k1 k2 k3
        have hs2 := (blk_cell HX2.out 2).trans rfl
        have ho0 := (blk_cell HY2.out 0).trans rfl
        go_quiet (fail)
        go_wp2_with (first | (go_at_call 65; refine (slices_ContainsFunc_int64_int64.calls 66 #[.pointer (some ⟨g5, 0, none⟩)] (fun _ => True) (fun x => Go.bits .and .i64 x a2 != 0) eg (some bd) c1 l1 _ (goesPred g5 a2 _ (blk_drewN HY2.out nq)) (fun _ _ => trivial) (Kd.C_below HRb2.out (pw_below_drewN (Below.refl _ _) nq)) HM.out).mono ?_; rintro e w4 ⟨rfl, hb⟩; have HB4 := Aside0.mk (below_step (pw_below_drewN HB2.out nq) hb); clear hb))
        go_ret
        exact ⟨by rw [← HAny.out]; rfl, HB4.out⟩

end Go.Proofs.YthmfpdkemkjpkaaDoor.F
