-- written by the session's program xp.py over the kit's print program, and by hand; texts joined by pack.py
import Derived.Test.YtbmiojnkfgcfoaaDoorKFnExactHexWinner3
namespace Go.Proofs.YtbmiojnkfgcfoaaDoor.F
open Go.RowKit Go.Proofs.YtbmiojnkfgcfoaaDoorW.PrintWords Go.Proofs.YtbmiojnkfgcfoaaDoorW.PrintLast Go.Proofs.YtbmiojnkfgcfoaaDoorW.PrintMore
attribute [local go_sem] max2_int min2_int max_two min_two max_three min_three max_four min_four   -- for this text's walks alone
set_option linter.unusedVariables false
set_option linter.unusedSimpArgs false

def Tryd.lays173_ren : Go.Shelf.Ren := ⟨fun | 173 => 81 | 246 => 85 | 283 => 88 | 284 => 89 | 285 => 90 | 286 => 91 | 129 => 95 | 317 => 94 | 318 => 96 | 319 => 97 | 320 => 98 | 337 => 99 | 338 => 100 | n => n, fun | 2 => 2 | 3 => 3 | 9 => 9 | 4 => 4 | 171 => 106 | 0 => 0 | 53 => 61 | 37 => 37 | 5 => 5 | 173 => 109 | 212 => 116 | 51 => 117 | 20 => 20 | 213 => 118 | 46 => 83 | 232 => 122 | 233 => 123 | n => n, fun | 17 => 0 | 18 => 2 | 19 => 3 | n => n⟩
theorem Tryd.lays173 : Go.Proofs.Lays.n173 Tryd.prog Tryd.lays173_ren := {
  mixed := by kernel_rfl
  f129 := Tryd.func95.trans (congrArg some (by kernel_rfl))
  f173 := Tryd.func81.trans (congrArg some (by kernel_rfl))
  f246 := Tryd.func85.trans (congrArg some (by kernel_rfl))
  f283 := Tryd.func88.trans (congrArg some (by kernel_rfl))
  f284 := Tryd.func89.trans (congrArg some (by kernel_rfl))
  f285 := Tryd.func90.trans (congrArg some (by kernel_rfl))
  f286 := Tryd.func91.trans (congrArg some (by kernel_rfl))
  f317 := Tryd.func94.trans (congrArg some (by kernel_rfl))
  f318 := Tryd.func96.trans (congrArg some (by kernel_rfl))
  f319 := Tryd.func97.trans (congrArg some (by kernel_rfl))
  f320 := Tryd.func98.trans (congrArg some (by kernel_rfl))
  f337 := Tryd.func99.trans (congrArg some (by kernel_rfl))
  f338 := Tryd.func100.trans (congrArg some (by kernel_rfl))
  t0 := Tryd.underlying0
  a0 := Tryd.isAgg0
  z0 := Tryd.sizeOf0
  v0 := Tryd.zeroValue0
  t2 := Tryd.underlying2
  a2 := Tryd.isAgg2
  z2 := Tryd.sizeOf2
  v2 := Tryd.zeroValue2
  t3 := Tryd.underlying3
  a3 := Tryd.isAgg3
  z3 := Tryd.sizeOf3
  v3 := Tryd.zeroValue3
  t4 := Tryd.underlying4
  a4 := Tryd.isAgg4
  z4 := Tryd.sizeOf4
  v4 := Tryd.zeroValue4
  t5 := Tryd.underlying5
  a5 := Tryd.isAgg5
  z5 := Tryd.sizeOf5
  v5 := Tryd.zeroValue5
  t9 := Tryd.underlying9
  a9 := Tryd.isAgg9
  z9 := Tryd.sizeOf9
  v9 := Tryd.zeroValue9
  t20 := Tryd.underlying20
  a20 := Tryd.isAgg20
  z20 := Tryd.sizeOf20
  v20 := Tryd.zeroValue20
  t37 := Tryd.underlying37
  a37 := Tryd.isAgg37
  z37 := Tryd.sizeOf37
  v37 := Tryd.zeroValue37
  t46 := Tryd.underlying83
  a46 := Tryd.isAgg83
  z46 := Tryd.sizeOf83
  v46 := Tryd.zeroValue83
  t51 := Tryd.underlying117
  a51 := Tryd.isAgg117
  z51 := Tryd.sizeOf117
  v51 := Tryd.zeroValue117
  t53 := Tryd.underlying61
  a53 := Tryd.isAgg61
  z53 := Tryd.sizeOf61
  v53 := Tryd.zeroValue61
  t171 := Tryd.underlying106
  a171 := Tryd.isAgg106
  z171 := Tryd.sizeOf106
  v171 := Tryd.zeroValue106
  t173 := Tryd.underlying109
  a173 := Tryd.isAgg109
  z173 := Tryd.sizeOf109
  v173 := Tryd.zeroValue109
  t212 := Tryd.underlying116
  a212 := Tryd.isAgg116
  z212 := Tryd.sizeOf116
  v212 := Tryd.zeroValue116
  t213 := Tryd.underlying118
  a213 := Tryd.isAgg118
  z213 := Tryd.sizeOf118
  t232 := Tryd.underlying122
  a232 := Tryd.isAgg122
  z232 := Tryd.sizeOf122
  v232 := Tryd.zeroValue122
  t233 := Tryd.underlying123
  a233 := Tryd.isAgg123
  z233 := Tryd.sizeOf123
  v233 := Tryd.zeroValue123
  g17 := by kernel_rfl
  g18 := by kernel_rfl
  g19 := by kernel_rfl }
open Go.RowKit Go.Sort Go.Lib in
theorem Tryd.strconv_FormatInt_10_small (i : Nat) (hi : i < 100) (w : World) :
    Calls Tryd.prog 81 #[.int .i64 i, .int .i64 10] w fun e w' => e = .returned (.string ⟨(Lib.decDigits i).toArray⟩) ∧ w' = w := Any.strconv_FormatInt_10_small Tryd.lays173 i hi w
/-! ### impl_decimal: function 74 -/
-- EXTERNAL: by hand
def impl_decimal.f (a0 : Int) : Option ByteArray := if 0 ≤ a0 ∧ a0 < 100 then some ⟨(Lib.decDigits a0.toNat).toArray⟩ else none
set_option maxHeartbeats 2000000 in
theorem impl_decimal.calls (a0 : Int) (r : ByteArray) (w : World) (h : impl_decimal.f a0 = some r) :
    Calls Tryd.prog 74 #[.int .i64 a0] w fun e w' => e = .returned (.string r) ∧ Drawn0 w w' := by
  unfold impl_decimal.f at h
  split at h
  case isFalse => cases h
  rename_i hb
  obtain rfl := Option.some.inj h
  obtain ⟨i, rfl⟩ : ∃ i : Nat, a0 = (i : Int) := ⟨a0.toNat, by omega⟩
  rw [Int.toNat_natCast]
  have HF := fun W => Tryd.strconv_FormatInt_10_small i (by omega) W
  clear h hb
  go_enter Tryd.func74, Tryd.ntmps74
  go_wp2_with (go_at_call 81; refine (HF _).mono ?_; rintro e w' ⟨rfl, rfl⟩)
  go_ret
  exact ⟨rfl, Drawn0.refl _⟩
def Tryd.lays156_ren : Go.Shelf.Ren := ⟨fun | 156 => 75 | 165 => 82 | 166 => 83 | 169 => 84 | 240 => 86 | 241 => 87 | 276 => 92 | 277 => 93 | n => n, fun | 31 => 85 | 9 => 9 | 3 => 3 | 4 => 4 | 0 => 0 | 20 => 20 | 72 => 95 | 76 => 99 | 70 => 93 | 37 => 37 | 75 => 98 | 127 => 104 | 164 => 111 | 5 => 5 | 80 => 101 | n => n, fun | n => n⟩
theorem Tryd.lays156 : Go.Proofs.Lays.n156 Tryd.prog Tryd.lays156_ren := {
  mixed := by kernel_rfl
  f156 := Tryd.func75.trans (congrArg some (by kernel_rfl))
  f165 := Tryd.func82.trans (congrArg some (by kernel_rfl))
  f166 := Tryd.func83.trans (congrArg some (by kernel_rfl))
  f169 := Tryd.func84.trans (congrArg some (by kernel_rfl))
  f240 := Tryd.func86.trans (congrArg some (by kernel_rfl))
  f241 := Tryd.func87.trans (congrArg some (by kernel_rfl))
  f276 := Tryd.func92.trans (congrArg some (by kernel_rfl))
  f277 := Tryd.func93.trans (congrArg some (by kernel_rfl))
  t0 := Tryd.underlying0
  a0 := Tryd.isAgg0
  z0 := Tryd.sizeOf0
  v0 := Tryd.zeroValue0
  t3 := Tryd.underlying3
  a3 := Tryd.isAgg3
  z3 := Tryd.sizeOf3
  v3 := Tryd.zeroValue3
  t4 := Tryd.underlying4
  a4 := Tryd.isAgg4
  z4 := Tryd.sizeOf4
  v4 := Tryd.zeroValue4
  t9 := Tryd.underlying9
  a9 := Tryd.isAgg9
  z9 := Tryd.sizeOf9
  v9 := Tryd.zeroValue9
  t20 := Tryd.underlying20
  a20 := Tryd.isAgg20
  z20 := Tryd.sizeOf20
  v20 := Tryd.zeroValue20
  t31 := Tryd.underlying85
  a31 := Tryd.isAgg85
  z31 := Tryd.sizeOf85
  v31 := Tryd.zeroValue85
  t37 := Tryd.underlying37
  a37 := Tryd.isAgg37
  z37 := Tryd.sizeOf37
  v37 := Tryd.zeroValue37
  t70 := Tryd.underlying93
  a70 := Tryd.isAgg93
  z70 := Tryd.sizeOf93
  v70 := Tryd.zeroValue93
  t72 := Tryd.underlying95
  a72 := Tryd.isAgg95
  z72 := Tryd.sizeOf95
  v72 := Tryd.zeroValue95
  t75 := Tryd.underlying98
  a75 := Tryd.isAgg98
  z75 := Tryd.sizeOf98
  v75 := Tryd.zeroValue98
  t76 := Tryd.underlying99
  a76 := Tryd.isAgg99
  z76 := Tryd.sizeOf99
  v76 := Tryd.zeroValue99
  t127 := Tryd.underlying104
  a127 := Tryd.isAgg104
  z127 := Tryd.sizeOf104
  v127 := Tryd.zeroValue104
  t164 := Tryd.underlying111
  a164 := Tryd.isAgg111
  z164 := Tryd.sizeOf111
  v164 := Tryd.zeroValue111 }
theorem Tryd.Builder_Extra_156 : Builder.Extra Tryd.prog Tryd.lays156_ren := {
  sizeBuilder := by kernel_rfl
  liesBuilder := by kernel_rfl
  t5 := Tryd.underlying5
  a5 := Tryd.isAgg5
  z5 := Tryd.sizeOf5
  v5 := Tryd.zeroValue5
  infoByte := by kernel_rfl
  cellsByte := by kernel_rfl
  sizeByte := by kernel_rfl
  neB5 := by decide }
theorem Tryd.strings_Join (bk o c : Nat) (xs : List ByteArray) (sep : ByteArray) (w : World) (hcells : ∀ (j : Nat) x, xs[j]? = some x → w.cell? ⟨bk, o + j, none⟩ = some (.string x)) (hbk : bk < w.heap.size) (hN : xs.length ≤ 140737488355328) (hcap : xs.length ≤ c) (hlen : (Lib.join (xs.map (·.data.toList)) sep.data.toList).length ≤ 140737488355328) :
    Calls Tryd.prog 75 #[.slice (some ⟨bk, o, none⟩) xs.length c, .string sep] w fun e w' => e = .returned (.string ⟨(Lib.join (xs.map (·.data.toList)) sep.data.toList).toArray⟩) ∧ Below w.heap.size w w' := Any.strings_Join Tryd.lays156 Tryd.Builder_Extra_156 bk o c xs sep w hcells hbk hN hcap hlen
/-! ### impl_joined: function 59 -/
-- EXTERNAL: by hand
-- impl_decimal wrap_next rd_get
def decW (x : Int) : ByteArray := ⟨(Lib.decDigits x.toNat).toArray⟩
def joinW (l : List Int) (s : ByteArray) : ByteArray := ⟨(Lib.join ((l.map decW).map (·.data.toList)) s.data.toList).toArray⟩
def impl_joined.f (l : List Int) (s : ByteArray) : Option ByteArray := if 1 ≤ l.length ∧ l.length ≤ 100 ∧ (∀ x ∈ l, 0 ≤ x ∧ x < 100) ∧ (joinW l s).size ≤ 140737488355328 then some (joinW l s) else none
set_option maxHeartbeats 4000000 in
set_option maxRecDepth 100000 in
theorem impl_joined.calls (A : Option Addr) (c : Nat) (l : List Int) (s : ByteArray) (r : ByteArray) (w : World) (hr0 : Kd.C (Kd.int .i64) w A l.length l) (hc0 : l.length ≤ c) (h : impl_joined.f l s = some r) :
    Calls Tryd.prog 59 #[.slice A l.length c, .string s] w fun e w' => e = .returned (.string r) ∧ Below w.heap.size w w' := by
  unfold impl_joined.f at h
  split at h
  case isFalse => cases h
  rename_i hh
  obtain rfl := Option.some.inj h
  obtain ⟨h1, h100, hx, hsz⟩ := hh
  have HR := Aside0.mk hr0
  have HH := Aside0.mk (And.intro h1 h100)
  have HX := Aside0.mk hx
  have HJl0 := Aside0.mk (show (Lib.join ((l.map decW).map (·.data.toList)) s.data.toList).length ≤ 140737488355328 from hsz)
  have HB := Aside0.mk (Below.refl w.heap.size w)
  clear hr0 h1 h100 hx hsz h
  go_enter Tryd.func59, Tryd.ntmps59
  go_wp2_with (first | ((with_reducible refine gate_dst (N := 8) rfl ?_); refine Kd.R_lit Kd.string _ 9 ?hg (N := 8) ?hd (xs := ([] : List ByteArray)) (inner := []) (ok := fun _ => True) (okp := fun _ => True) ?hr ?hp (fun _ hk => hk) trivial (Below.refl _ _) (Nat.le_refl _) (by simp) ?_; (case hd => rfl); (case hg => rfl); (case hr => first | (go_simp; done) | (go_simp; rfl)); (case hp => exact Reps.none _ _); intro v8 w4 ho hb hg_ hnew_; clear hg_ hnew_; have HT := Aside0.mk (Kd.R_lower ho (below_size HB.out)); clear ho; have n_ := Aside0.mk (below_step HB.out hb); clear HB hb; have HB := n_; clear n_))
  go_loopg [5, 11] l.length (fun gg s5 s11 wr => ∃ i : Nat, i ≤ l.length ∧ l.length - i ≤ gg ∧ s11 = .int .i64 i ∧ Aside0 (Kd.R Kd.string 9 wr w.heap.size (fun _ => True) s5 ((l.take i).map decW)) ∧ Aside0 (Below w.heap.size w wr))
  case atStart => exact ⟨0, Nat.zero_le _, Nat.le_refl _, rfl, HT, HB⟩
  case round =>
    clear HT HB
    obtain ⟨i, hi, hgi, rfl, HT, HB⟩ := hrel
    by_cases hlt : i < l.length
    · have q1 := decide_eq_true (show (i : Int) < (l.length : Int) by omega)
      have q2 := decide_eq_true hlt
      have q3 := eq_true (show (i : Int) < (l.length : Int) by omega)
      have q4 := eq_true (show (0 : Int) ≤ (i : Int) by omega)
      have q5 := eq_true hlt
      obtain ⟨adx, rfl, hxx⟩ := Kd.at_int (Kd.C_below HR.out HB.out) (i : Int) (by omega) (by omega)
      rw [Int.toNat_natCast, rd_get l i hlt] at hxx
      have hxb := HX.out l[i] (List.getElem_mem hlt)
      have HSucc := Aside0.mk (show (l.take (i + 1)).map decW = (l.take i).map decW ++ [decW l[i]] by rw [List.take_succ_eq_append_getElem hlt, List.map_append]; rfl)
      generalize l[i] = x at hxx hxb HSucc
      have HDV := Aside0.mk (show impl_decimal.f x = some (decW x) by unfold impl_decimal.f; rw [if_pos hxb]; rfl)
      have HTl := Aside0.mk (show ((l.take i).map decW).length ≤ 100 by rw [List.length_map, List.length_take]; have := HH.out; omega)
      have HJm := Aside0.mk (show l.length - (i + 1) < gk by omega)
      have HJr := Aside0.mk (show i + 1 ≤ l.length by omega)
      have HJs := Aside0.mk (show wrap64 ((i : Int) + 1) = ((i + 1 : Nat) : Int) from wrap_next hlt (by have := HH.out; omega))
      obtain ⟨ts, hts⟩ : ∃ ts, (l.take i).map decW = ts := ⟨_, rfl⟩
      rw [hts] at HT HTl HSucc
      obtain ⟨s5, hs5⟩ : ∃ s, u5 = s := ⟨_, rfl⟩
      rw [hs5] at HT ⊢
      clear hi hgi hlt hts hs5 hxb
      go_wp2_with (first | (go_at_call 74; refine (impl_decimal.calls x (decW x) _ HDV.out).mono ?_; rintro e w_ ⟨rfl, hd⟩; have hb := hd.below; have n1_ := Aside0.mk (Kd.R_below HT.out hb); have n2_ := Aside0.mk (below_step HB.out hb); clear hd hb HT HB; have HT := n1_; have HB := n2_; clear n1_ n2_) | ((with_reducible refine gate_builtin (b := .append) (xs := #[.tmp 15, .tmp 18]) rfl ?_); at_builtin; refine Kd.R_append Kd.string (w0 := w) w.heap.size rfl (.tmp 15) (.tmp 18) 85 9 (.string ⟨#[]⟩) 16 rfl Tryd.underlying85 (by kernel_rfl) rfl (by decide) (by omega) s5 ts (decW x) [.string (decW x)] (fun _ => True) (fun _ => False) rfl rfl ?aP (fun _ hk => hk.elim) ?aF ?aO ?aB ?aS ?aL ?_; (case aP => exact rfl); (case aF => exact (fun _ _ => trivial)); (case aO => exact HT.out); (case aB => exact HB.out); (case aS => exact below_size HB.out); (case aL => have := HTl.out; omega); intro v19 w9 ho hb hg hat; clear HT HB; have HT := Aside0.mk ho; have HB := Aside0.mk hb; clear ho hb hg hat))
      go_roundg (l.length - (i + 1))
      case measure => exact HJm.out
      case rel => exact ⟨i + 1, HJr.out, Nat.le_refl _, (by first | rfl | exact congrArg (Value.int .i64) HJs.out), ⟨by rw [HSucc.out]; exact HT.out⟩, HB⟩
    · have hie : i = l.length := by omega
      subst hie
      have q1 := decide_eq_false (show ¬ (l.length : Int) < (l.length : Int) by omega)
      rw [List.take_length] at HT
      have hln : (l.map decW).length = l.length := List.length_map ..
      obtain ⟨gt, ct, et, _, hgt_, _⟩ := Kd.R_form HT.out (by rw [hln]; exact HH.out.1)
      subst et
      have HJl := HJl0
      have HTx2 := Aside0.mk (show (⟨(Lib.join ((l.map decW).map (·.data.toList)) s.data.toList).toArray⟩ : ByteArray) = joinW l s from rfl)
      obtain ⟨ts, hts⟩ : ∃ ts, l.map decW = ts := ⟨_, rfl⟩
      rw [hts] at HT hln HJl HTx2 ⊢
      have HTl2 := Aside0.mk (show ts.length ≤ 140737488355328 by have := HH.out; omega)
      have HTc := Aside0.mk (Kd.R_reads' HT.out).2.1
      have hcl_ : ∀ (j : Nat) x, ts[j]? = some x → wr.cell? ⟨gt, 0 + j, none⟩ = some (.string x) := fun j x hjx => by
        obtain ⟨hj, he⟩ := List.getElem?_eq_some_iff.1 hjx
        obtain ⟨ad, ea, hc⟩ := Kd.at_string (Kd.R_reads' HT.out).2.2 (j : Int) (by omega) (by omega)
        injection ea with ea
        subst ea
        rw [Int.toNat_natCast, add_at] at hc
        rw [hc]
        unfold rdOf
        rw [Int.toNat_natCast, List.getD_eq_getElem?_getD, hjx, Option.getD_some]
      have HCl := Aside0.mk hcl_
      have HGt := Aside0.mk hgt_
      clear hi hgi hlt hts hln hcl_ hgt_
      go_wp2_with (first | (go_at_call 75; refine (Tryd.strings_Join gt 0 ct ts s _ HCl.out HGt.out HTl2.out HTc.out HJl.out).mono ?_; rintro e wj ⟨rfl, hb⟩; have n_ := Aside0.mk (below_step HB.out hb); clear HB hb; have HB := n_; clear n_))
      go_ret
      exact ⟨by rw [← HTx2.out]; rfl, HB.out⟩
-- The empty cells of a board. chosenTo
theorem chosen_pair (p : Int → Bool) : ∀ n : Nat, (chosenTo p n).Pairwise (· < ·) ∧ ∀ x ∈ chosenTo p n, 0 ≤ x ∧ x < (n : Int) ∧ p x = true
  | 0 => ⟨List.Pairwise.nil, fun x hx => absurd hx (by simp [chosenTo])⟩
  | n + 1 => by
    obtain ⟨h1, h2⟩ := chosen_pair p n
    have hs : chosenTo p (n + 1) = if p n then chosenTo p n ++ [(n : Int)] else chosenTo p n := rfl
    rw [hs]
    by_cases hp : p n = true
    · rw [if_pos hp]
      refine ⟨List.pairwise_append.2 ⟨h1, List.pairwise_singleton _ _, fun a ha b hb => ?_⟩, fun x hx => ?_⟩
      · rw [List.mem_singleton] at hb
        subst hb
        exact (h2 a ha).2.1
      · rcases List.mem_append.1 hx with hx | hx
        · obtain ⟨a, b, c⟩ := h2 x hx
          exact ⟨a, by omega, c⟩
        · rw [List.mem_singleton] at hx
          subst hx
          exact ⟨by omega, by omega, hp⟩
    · rw [if_neg hp]
      exact ⟨h1, fun x hx => by obtain ⟨a, b, c⟩ := h2 x hx; exact ⟨a, by omega, c⟩⟩
/-- The empty cells. -/
def emptyL (l : List Int) : List Int := chosenTo (fun c => rd l c == 0) l.length

-- needs: 44 LibHexIs (boards, in plain words)
theorem chosenTo_count (l : List Int) (v : Int) : ∀ k, k ≤ l.length → (chosenTo (fun c => rd l c == v) k).length = (l.take k).count v
  | 0, _ => by simp [chosenTo]
  | k + 1, h => by
    have ih := chosenTo_count l v k (by omega)
    rw [List.take_succ_eq_append_getElem (by omega), List.count_append, ← ih]
    have hs : chosenTo (fun c => rd l c == v) (k + 1) = if (rd l (k : Int) == v) = true then chosenTo (fun c => rd l c == v) k ++ [(k : Int)] else chosenTo (fun c => rd l c == v) k := rfl
    rw [hs, rd_get l k (by omega)]
    by_cases e : l[k] = v
    · simp [e]
    · simp [e]
theorem chosenTo_all (l : List Int) (v : Int) : (chosenTo (fun c => rd l c == v) l.length).length = l.count v := by
  rw [chosenTo_count l v _ (Nat.le_refl _), List.take_length]
-- The reference's count of a board. isHexV_cells hex_small (for 46)
def moverV (l : List Int) : Int := if l.count 1 = l.count 2 then 1 else if l.count 1 = l.count 2 + 1 then 2 else 0
theorem l06Mover_l0 (p : Int) (l : List Int) (hl : l.length ≤ 1000000) (hx : ∀ x ∈ l, x = 0 ∨ x = 1 ∨ x = 2) : ∀ (d i : Nat), i + d = l.length →
    Ev (fun k => spec_l06Mover.l0 k [((l.take i).count 0 : Int), ((l.take i).count 1 : Int), ((l.take i).count 2 : Int)] i p l) (moverV l, (l.count 0 : Int)) := by
  intro d
  induction d with
  | zero =>
    intro i hi
    have e : l.take i = l := List.take_of_length_le (by omega)
    rw [e]
    have b1 := List.count_le_length (a := (1 : Int)) (l := l)
    have b2 := List.count_le_length (a := (2 : Int)) (l := l)
    refine Ev.step (f := fun _ => some _) (fun k => ?_) (Ev.now _)
    simp only [spec_l06Mover.l0]
    rw [if_neg (by omega), if_pos (by simp), if_pos (by simp)]
    have r0 : rd [(l.count 0 : Int), (l.count 1 : Int), (l.count 2 : Int)] 0 = (l.count 0 : Int) := rfl
    have r1 : rd [(l.count 0 : Int), (l.count 1 : Int), (l.count 2 : Int)] 1 = (l.count 1 : Int) := rfl
    have r2 : rd [(l.count 0 : Int), (l.count 1 : Int), (l.count 2 : Int)] 2 = (l.count 2 : Int) := rfl
    have ew : wrap64 ((l.count 1 : Int) - (l.count 2 : Int)) = (l.count 1 : Int) - (l.count 2 : Int) := by unfold wrap64; omega
    rw [r0, r1, r2, ew]
    unfold moverV
    by_cases h1 : l.count 1 = l.count 2
    · rw [if_pos h1, if_pos (by omega), if_pos (by simp)]
    · rw [if_neg h1, if_neg (by omega)]
      by_cases h2 : l.count 1 = l.count 2 + 1
      · rw [if_pos h2, if_pos (by omega), if_pos (by simp)]
      · rw [if_neg h2, if_neg (by omega), if_pos (by simp)]
  | succ d ih =>
    intro i hi
    have hlt : i < l.length := by omega
    have ih1 := ih (i + 1) (by omega)
    refine Ev.step (fun k => ?_) ih1
    have b (v : Int) : (l.take i).count v ≤ l.length := Nat.le_trans List.count_le_length (by simp; omega)
    have b0 := b 0; have b1 := b 1; have b2 := b 2
    simp only [spec_l06Mover.l0]
    rw [if_pos (by omega), if_pos (by omega), rd_get l i hlt, wrap_next hlt (by omega)]
    rw [List.take_succ_eq_append_getElem hlt, List.count_append, List.count_append, List.count_append]
    have hr0 (a b c : Int) : rd [a, b, c] 0 = a := rfl
    have hr1 (a b c : Int) : rd [a, b, c] 1 = b := rfl
    have hr2 (a b c : Int) : rd [a, b, c] 2 = c := rfl
    have ew (a : Nat) (h : a ≤ l.length) : wrap64 ((a : Int) + 1) = ((a + 1 : Nat) : Int) := by unfold wrap64; omega
    rcases hx l[i] (List.getElem_mem hlt) with e | e | e
    · rw [e, if_pos (by omega), if_pos (by simp), hr0, ew _ b0]
      simp
    · rw [e, if_pos (by omega), if_pos (by simp), hr1, ew _ b1]
      simp
    · rw [e, if_pos (by omega), if_pos (by simp), hr2, ew _ b2]
      simp
theorem l06Mover_ev {p : Int} {l : List Int} (h : isHexV p l = true) : Ev (fun k => spec_l06Mover.f k p l) (moverV l, (l.count 0 : Int)) := by
  have := l06Mover_l0 p l (by have := hex_small h; omega) (isHexV_cells h).2.2.2 l.length 0 (by omega)
  exact this
theorem cells_some (p : Int) (l : List Int) (v : Int) (h : l.length ≤ 17592186044416) : impl_Hex_cells.f p l v = some (chosenTo (fun c => rd l c == v) l.length) := by
  unfold impl_Hex_cells.f; rw [if_pos h]
theorem mover_some {p : Int} {l : List Int} (h : isHexV p l = true) : impl_Hex_mover.f p l = some (1 + ((l.count 1 : Int) - l.count 2), decide (l.count 1 = l.count 2 ∨ l.count 1 = l.count 2 + 1)) := by
  have hl := hex_small h
  have b1 := List.count_le_length (a := (1 : Int)) (l := l)
  have b2 := List.count_le_length (a := (2 : Int)) (l := l)
  unfold impl_Hex_mover.f
  rw [cells_some p l 1 (by omega), cells_some p l 2 (by omega), Option.bind_some, Option.bind_some, chosenTo_all, chosenTo_all]
  have ew : wrap64 ((l.count 1 : Int) - (l.count 2 : Int)) = (l.count 1 : Int) - (l.count 2 : Int) := by unfold wrap64; omega
  have ew2 : wrap64 (1 + ((l.count 1 : Int) - (l.count 2 : Int))) = 1 + ((l.count 1 : Int) - (l.count 2 : Int)) := by unfold wrap64; omega
  rw [ew, ew2]
  by_cases h1 : l.count 1 = l.count 2
  · rw [if_pos (by omega), decide_eq_true (.inl h1)]
  · rw [if_neg (by omega)]
    congr 2
    rw [Bool.eq_iff_iff]
    simp only [beq_iff_eq, decide_eq_true_eq]
    omega
theorem implHexMover (p : Int) (l : List Int) : impl_HexMover.f p l = some (if isHexV p l = true then (if moverV l = 0 then (0, 5) else (moverV l, 0)) else (0, 1)) := by
  unfold impl_HexMover.f impl_IsHex.f
  rw [Option.bind_some]
  by_cases h : isHexV p l = true
  · rw [if_pos h, if_pos h, mover_some h, Option.bind_some]
    unfold moverV
    by_cases h1 : l.count 1 = l.count 2
    · simp [h1]
    · by_cases h2 : l.count 1 = l.count 2 + 1
      · simp [h2]; omega
      · simp [h1, h2]
  · rw [if_neg h, if_neg h]
-- needs: maps that keep what is known (memo)
/-- What a map keeps is so. -/
def Memo (P : Program) (k : TypeId) (F : Value → Int → Prop) (D : DataW Unit) : Prop :=
  ∀ key kl c, keyOf P k key = some kl → Go.Maps.has D kl = true → D.atKey kl (.lit (.int .i64 0)) = .lit (.int .i64 c) → F key c
theorem Memo.empty {P : Program} {k : TypeId} {F : Value → Int → Prop} : Memo P k F (.map []) := fun _ _ _ _ h => by simp [Go.Maps.has] at h
theorem Memo.put {P : Program} {k : TypeId} {F : Value → Int → Prop} {D : DataW Unit} (K : Go.Maps.Keyed P k) (hm : Go.Maps.IsMap D) (h : Memo P k F D) {key : Value} {kl : Lit} {c : Int} (hk : keyOf P k key = some kl) (hF : F key c) :
    Memo P k F (D.put kl (.lit (.int .i64 c))) := by
  intro key' kl' c' hk' hh ha
  by_cases e : kl' = kl
  · subst e
    have : key' = key := K.inj hk' hk
    subst this
    rw [Go.Maps.atKey_put_same hm (K.key hk)] at ha
    injection ha with ha
    injection ha with _ ha
    exact ha ▸ hF
  · rw [Go.Maps.has_put_other e] at hh
    rw [Go.Maps.atKey_put_other e] at ha
    exact h key' kl' c' hk' hh ha
/-- Block gm is a map of at most N entries that keeps what is so. -/
def HasMemo (P : Program) (k e : TypeId) (F : Value → Int → Prop) (gm N : Nat) (W : World) : Prop := ∃ D : DataW Unit, W.ownsMap P k (plainElem P e) gm N D ∧ Memo P k F D
theorem HasMemo.mono {P : Program} {k e : TypeId} {F : Value → Int → Prop} {gm N N' : Nat} {W : World} (h : HasMemo P k e F gm N W) (hN : N ≤ N') : HasMemo P k e F gm N' W := by
  obtain ⟨D, h1, h2⟩ := h
  exact ⟨D, h1.mono hN, h2⟩
theorem HasMemo.below {P : Program} {k e : TypeId} {F : Value → Int → Prop} {gm N : Nat} {W W' : World} (h : HasMemo P k e F gm N W) (hb : Below W.heap.size W W') : HasMemo P k e F gm N W' := by
  obtain ⟨D, h1, h2⟩ := h
  exact ⟨D, h1.kept (grown_of_below hb none) (by simp), h2⟩
theorem HasMemo.drew {P : Program} {k e : TypeId} {F : Value → Int → Prop} {gm N : Nat} {W : World} (h : HasMemo P k e F gm N W) : HasMemo P k e F gm N W.drew := by
  obtain ⟨D, h1, h2⟩ := h
  exact ⟨D, h1.drew, h2⟩
theorem HasMemo.lt {P : Program} {k e : TypeId} {F : Value → Int → Prop} {gm N : Nat} {W : World} (h : HasMemo P k e F gm N W) : gm < W.heap.size := by
  obtain ⟨D, h1, _⟩ := h
  exact h1.lt
theorem blk_grownB {W W2 : World} {g gm : Nat} {o : Obj} (h : W.heap[g]? = some o) (hg : W.grownBy W2 (some gm)) (hne : g ≠ gm) : W2.heap[g]? = some o := blk_grown h hg (fun e => hne (by injection e))
section
variable {P : Program} {ops : Array Oper} {S : World → Prop} {ds : List Nat} {md : Region.Mode} {Q : Exit → Act → World → Prop}
/-- A call of a function value in a region of open order. -/
theorem goesF_ {oi : Oper} {N : Option Tmp} {a : Act} {w : World} {K : Act → World → Prop} {g : FuncId} {x : Operand} {lb : Array Value} {as_ : Array Operand} {ts : Array TypeId} (eg : ∀ args w, (callFunc g args).run P w = .ok (.enter g args) w) (args : Array Value)
    (hw : Region.wanted oi (yielded ops a.tmps) = true) (hN : oi.dst = N) (hop : oi.op = .call { callee := .value x, args := as_, argTypes := ts }) (hx : a.eval x = .func (.func g) #[] lb) (hargs : as_.map a.eval = args)
    (h : Calls P g (args ++ lb) w fun e w' => ∃ v, e = .returned v ∧ K (a.put N v) w') : if Region.wanted oi (yielded ops a.tmps) = true then Oper.wp P oi a w K Q else K (a.put N undef) w := by
  refine call_ g (args ++ lb) hw hN ?_ h
  unfold execOp
  simp [hop, resolve, Deferred.ofValue, invoke, hx, hargs, eg]
/-- A map that is made. -/
theorem made_event {rest : List Oper} {o : Oper} {a : Act} {W : World} (hgd : o.guard = none) {N : Tmp} (_hd : o.dst = some N) (k : TypeId) (R : Value → Option (DataW Unit × List MemPlace))
    (hrun : (execOp a.eval o).run P W = .ok (.value (.map (some W.heap.size))) (W.alloc (.map #[] 0)))
    (h : ∀ g, g = W.heap.size → ∀ w1, w1.ownsMap P k R g 0 (.map []) → Below W.heap.size W w1 → wpList P ops Q rest (a.put o.dst (.map (some g))) w1) : wpList P ops Q (o :: rest) a W :=
  Kd.event_run hgd hrun (h _ rfl _ (World.ownsMap_made _ _ _ _) (below_alloc (Below.refl _ _) _))
theorem run_store_map_ {P : Program} {w : World} {a : Addr} {m : Mode} (g : Option Nat) : (store a (.map g) m).run P w = stored P w a (.map g) m := run_store P w a _ m rfl
end
/-! ### impl_hexWins: function 36 -/
-- EXTERNAL: by hand
-- impl_joined impl_decimal impl_Hex_mover impl_Hex_cells impl_Hex_joiner impl_Hex_with slices_Clone_int64_int64
-- mover_some emptyL chosen_pair isHexV_cells hex_small moverV Memo HasMemo goesF_ made_event run_store_map_ run_store_func wrap_next rd_get joinW
theorem strKeyed : Go.Maps.Keyed Tryd.prog 9 := Go.Maps.string_keyed Tryd.underlying9
theorem strKey (s : ByteArray) (h : s.size ≤ maxLen) : ∃ kl, keyOf Tryd.prog 9 (.string s) = some kl := by
  unfold keyOf
  simp [Tryd.underlying9, mapKey, h]
/-- What the map keeps. -/
def OkB (P : List Int → Prop) (l : List Int) : Prop := moverV l ≠ 0 ∧ P l
def HWF (n : Nat) (P : List Int → Prop) (Wv : List Int → Int) (v : Value) (c : Int) : Prop := ∀ l, isHexV (n : Int) l = true → OkB P l → v = .string (joinW l ⟨#[]⟩) → c = Wv l
def hexCnt : Nat → Nat
  | 0 => 1
  | d + 1 => (d + 1) * hexCnt d + 1
theorem hexCnt_pos (d : Nat) : 1 ≤ hexCnt d := by cases d <;> simp [hexCnt]
/-- What the finder reckons. -/
structure HexVal (n : Nat) (P : List Int → Prop) (J Wv : List Int → Int) : Prop where
  join : ∀ l, isHexV (n : Int) l = true → OkB P l → emptyL l = [] → ∃ K, impl_Hex_joiner.f K n l = some (J l)
  small : ∀ l, isHexV (n : Int) l = true → OkB P l → 0 ≤ Wv l ∧ Wv l ≤ 2
  full : ∀ l, isHexV (n : Int) l = true → OkB P l → emptyL l = [] → Wv l = J l
  step : ∀ l, isHexV (n : Int) l = true → OkB P l → emptyL l ≠ [] → Wv l = if (emptyL l).any (fun x => Wv (l.set x.toNat (moverV l)) == moverV l) = true then moverV l else 3 - moverV l
  key : ∀ l l', isHexV (n : Int) l = true → isHexV (n : Int) l' = true → joinW l ⟨#[]⟩ = joinW l' ⟨#[]⟩ → l = l'
  joined : ∀ l, isHexV (n : Int) l = true → impl_joined.f l ⟨#[]⟩ = some (joinW l ⟨#[]⟩) ∧ (joinW l ⟨#[]⟩).size ≤ maxLen
  child : ∀ l x, isHexV (n : Int) l = true → OkB P l → x ∈ emptyL l → isHexV (n : Int) (l.set x.toNat (moverV l)) = true ∧ OkB P (l.set x.toNat (moverV l)) ∧ (emptyL (l.set x.toNat (moverV l))).length + 1 = (emptyL l).length
structure HWEnv (w0 : World) (gK gF gm n N : Nat) (P : List Int → Prop) (Wv : List Int → Int) (W : World) : Prop where
  below : Below w0.heap.size w0 W
  hk : W.heap[gK]? = some (.cells #[.map (some gm)] 69 (0, 0))
  hf : W.heap[gF]? = some (.cells #[.func (.func 58) #[] #[.pointer (some ⟨gK, 0, none⟩), .pointer (some ⟨gF, 0, none⟩)]] 48 (0, 0))
  memo : HasMemo Tryd.prog 9 2 (HWF n P Wv) gm N W
  ne : gm ≠ gK ∧ gm ≠ gF
  base : w0.heap.size ≤ gm
theorem HWEnv.step {w0 : World} {gK gF gm n N : Nat} {P : List Int → Prop} {Wv : List Int → Int} {W W' : World} (h : HWEnv w0 gK gF gm n N P Wv W) (hb : Below W.heap.size W W') : HWEnv w0 gK gF gm n N P Wv W' :=
  ⟨below_step h.below hb, blk_below h.hk hb, blk_below h.hf hb, h.memo.below hb, h.ne, h.base⟩
theorem HWEnv.drew {w0 : World} {gK gF gm n N : Nat} {P : List Int → Prop} {Wv : List Int → Int} {W : World} (h : HWEnv w0 gK gF gm n N P Wv W) : HWEnv w0 gK gF gm n N P Wv W.drew :=
  ⟨below_drew1 h.below, blk_drew h.hk, blk_drew h.hf, h.memo.drew, h.ne, h.base⟩
theorem HWEnv.mono {w0 : World} {gK gF gm n N N' : Nat} {P : List Int → Prop} {Wv : List Int → Int} {W : World} (h : HWEnv w0 gK gF gm n N P Wv W) (hN : N ≤ N') : HWEnv w0 gK gF gm n N' P Wv W :=
  ⟨h.below, h.hk, h.hf, h.memo.mono hN, h.ne, h.base⟩
theorem hw_env {w0 : World} {gK gF gm n N N' m : Nat} {P : List Int → Prop} {Wv : List Int → Int} {W W' : World} {D : DataW Unit} (h : HWEnv w0 gK gF gm n N P Wv W) (ho : W'.ownsMap Tryd.prog 9 (plainElem Tryd.prog 2) gm m D) (hm : Memo Tryd.prog 9 (HWF n P Wv) D) (hg : W.grownBy W' (some gm)) (hn : m ≤ N') : HWEnv w0 gK gF gm n N' P Wv W' :=
  ⟨h.below.grown hg h.below.size (fun k hk => by cases hk; exact h.base), blk_grownB h.hk hg h.ne.1.symm, blk_grownB h.hf hg h.ne.2.symm, ⟨D, ho.mono hn, hm⟩, h.ne, h.base⟩
/-- A list that is read outlives the map's turns. -/
theorem C_memo {W W' : World} {A : Option Addr} {l : List Int} {gm : Nat} (h : Kd.C (Kd.int .i64) W A l.length l) (hm : ∃ a b, W.heap[gm]? = some (.map a b)) (hg : W.grownBy W' (some gm)) : Kd.C (Kd.int .i64) W' A l.length l := by
  have hr := Kd.reads_of_C (enc := Value.int .i64) (d := (0 : Int)) (h1 := fun _ => rfl) h
  refine Kd.C_of_reads (enc := Value.int .i64) (d := (0 : Int)) (h1 := fun _ => rfl) ⟨hr.1, hr.2.1, fun hn => ?_⟩
  obtain ⟨ad, e, hc⟩ := hr.2.2 hn
  refine ⟨ad, e, fun j hj => hg.cell (hc j hj) (fun e2 => ?_)⟩
  injection e2 with e2
  obtain ⟨a, b, hm⟩ := hm
  have := hc j hj
  unfold World.cell? at this
  rw [e2, hm] at this
  cases this
theorem HWEnv.map {w0 : World} {gK gF gm n N : Nat} {P : List Int → Prop} {Wv : List Int → Int} {W : World} (h : HWEnv w0 gK gF gm n N P Wv W) : ∃ a b, W.heap[gm]? = some (.map a b) := by
  obtain ⟨D, ⟨es, cl, hb, _⟩, _⟩ := h.memo
  exact ⟨es, cl, hb⟩
theorem eg_hfind : ∀ args w, (callFunc 58 args).run Tryd.prog w = .ok (.enter 58 args) w := enters_of Tryd.func58 (by kernel_rfl) rfl
/-- What the finder does, for at most d empty cells. -/
def HFind (w0 : World) (gK gF gm n : Nat) (P : List Int → Prop) (Wv : List Int → Int) (d : Nat) : Prop :=
  ∀ (l : List Int) (A : Option Addr) (c N : Nat) (W : World), isHexV (n : Int) l = true → OkB P l → (emptyL l).length ≤ d → Kd.C (Kd.int .i64) W A l.length l → l.length ≤ c → HWEnv w0 gK gF gm n N P Wv W → N + hexCnt d < maxLen →
    Calls Tryd.prog 58 #[.agg #[.int .i64 n, .slice A l.length c], .pointer (some ⟨gK, 0, none⟩), .pointer (some ⟨gF, 0, none⟩)] W fun e W' => e = .returned (.int .i64 (Wv l)) ∧ HWEnv w0 gK gF gm n (N + hexCnt d) P Wv W' ∧ W.grownBy W' (some gm)
theorem hcnt_step {d i f : Nat} (hi : i < f) (hf : f ≤ d) : i * hexCnt (d - 1) + hexCnt (d - 1) ≤ hexCnt d := by
  cases d with
  | zero => omega
  | succ d =>
    have : (i + 1) * hexCnt d ≤ (d + 1) * hexCnt d := Nat.mul_le_mul_right _ (by omega)
    have e : (i + 1) * hexCnt d = i * hexCnt d + hexCnt d := Nat.succ_mul _ _
    show i * hexCnt d + hexCnt d ≤ (d + 1) * hexCnt d + 1
    omega
theorem hcnt_last {d i f : Nat} (hi : i ≤ f) (hf : f ≤ d) : i * hexCnt (d - 1) + 1 ≤ hexCnt d := by
  cases d with
  | zero => have : i = 0 := by omega
            subst this; simp [hexCnt]
  | succ d =>
    have : i * hexCnt d ≤ (d + 1) * hexCnt d := Nat.mul_le_mul_right _ (by omega)
    show i * hexCnt d + 1 ≤ (d + 1) * hexCnt d + 1
    omega
theorem moverV_range (l : List Int) : 0 ≤ moverV l ∧ moverV l ≤ 2 := by
  unfold moverV
  split
  · omega
  · split <;> omega
theorem mover_val {n : Nat} {l : List Int} (hv : isHexV (n : Int) l = true) (hm : moverV l ≠ 0) : impl_Hex_mover.f n l = some (moverV l, true) := by
  rw [mover_some hv]
  unfold moverV at hm ⊢
  by_cases h1 : l.count 1 = l.count 2
  · rw [if_pos h1, decide_eq_true (.inl h1), h1]
    simp
  · rw [if_neg h1] at hm ⊢
    by_cases h2 : l.count 1 = l.count 2 + 1
    · rw [if_pos h2, decide_eq_true (.inr h2), h2]
      congr 2
      omega
    · rw [if_neg h2] at hm
      exact absurd rfl hm
theorem cells_val {n : Nat} {l : List Int} (hv : isHexV (n : Int) l = true) : impl_Hex_cells.f n l 0 = some (emptyL l) := by
  have := hex_small hv
  unfold impl_Hex_cells.f
  rw [if_pos (by omega)]
  rfl
theorem with_val {n : Nat} {l : List Int} {x m : Int} (hv : isHexV (n : Int) l = true) (h0 : 0 ≤ x) (h1 : x < l.length) : impl_Hex_with.f n l x m = some ((n : Int), l.set x.toNat m) := by
  have := hex_small hv
  unfold impl_Hex_with.f slices_Clone_int64_int64.f
  rw [if_pos (by omega), Option.bind_some, if_pos h0, if_pos h1]
theorem hw_small {v : Int} (h0 : 0 ≤ v) (h1 : v ≤ 2) : (Lit.int .i64 v).wf = true := by
  have : v = wrap64 v := by unfold wrap64; omega
  rw [this]; exact wrap64_wf v
/-- The winner of a board with d empty cells. -/
def hexEnd (k : Nat) (n : Int) (l : List Int) : Option Int := (impl_Hex_joiner.f k n l).bind fun v => if 0 ≤ v ∧ v ≤ 2 then some v else none
def hexAny (F : List Int → Option Int) (l : List Int) (m : Int) : List Int → Option Bool
  | [] => some false
  | x :: r => (F (l.set x.toNat m)).bind fun v => (hexAny F l m r).bind fun b => some (v == m || b)
def hexWinF (k : Nat) (n : Int) : Nat → List Int → Option Int
  | 0, l => hexEnd k n l
  | d + 1, l => (hexAny (hexWinF k n d) l (moverV l) (emptyL l)).bind fun b => some (if b = true then moverV l else 3 - moverV l)
theorem hexAny_some {F : List Int → Option Int} {l : List Int} {m : Int} : ∀ {r : List Int} {b : Bool}, hexAny F l m r = some b → (∀ x ∈ r, ∃ v, F (l.set x.toNat m) = some v) ∧ b = r.any fun x => (F (l.set x.toNat m)).getD 0 == m
  | [], b, h => ⟨fun x hx => absurd hx (by simp), by simpa [hexAny] using h.symm⟩
  | x :: r, b, h => by
    unfold hexAny at h
    obtain ⟨v, hv, h⟩ := Option.bind_eq_some_iff.1 h
    obtain ⟨b', hb', h⟩ := Option.bind_eq_some_iff.1 h
    obtain ⟨h1, h2⟩ := hexAny_some hb'
    refine ⟨fun y hy => ?_, ?_⟩
    · rcases List.mem_cons.1 hy with rfl | hy
      · exact ⟨v, hv⟩
      · exact h1 y hy
    · rw [List.any_cons, hv, ← h2]
      exact (Option.some.inj h).symm
def hw_T12 : Bool × List (List Nat × List Nat) := (true, [([], []), ([], []), ([], []), ([], []), ([1, 2, 3], [1, 2, 3]), ([0, 4, 4], [0, 4]), ([], []), ([5, 6], [5, 6])])
def hw_B12 : List Nat := [0, 0, 0, 0, 14, 31, 0, 127]
theorem hw_tab12 : rtab .any (opsOf Tryd.f58 12) = hw_T12 := by kernel_rfl
theorem hw_bits12 : waitsOk hw_T12.2 hw_B12 = true := by kernel_rfl
set_option maxHeartbeats 8000000 in
set_option maxRecDepth 100000 in
theorem hfind_step (w0 : World) (gK gF gm n : Nat) (P : List Int → Prop) (J Wv : List Int → Int) (HV : HexVal n P J Wv) (d : Nat) (IH : d ≠ 0 → HFind w0 gK gF gm n P Wv (d - 1)) : HFind w0 gK gF gm n P Wv d := by
  intro l A c N w hv hmv hd hrA hcA hE hN
  obtain ⟨D, hown, hmem⟩ := hE.memo
  obtain ⟨hjo, hjs⟩ := HV.joined l hv
  obtain ⟨kl, hkl⟩ := strKey (joinW l ⟨#[]⟩) hjs
  have h64 := hex_small hv
  obtain ⟨hm0, hm2⟩ := moverV_range l
  have HJO := Aside0.mk hjo
  have HE := Aside0.mk hE
  have HM := Aside0.mk hown
  have HMM := Aside0.mk hmem
  have HKL := Aside0.mk hkl
  have HVL := Aside0.mk hv
  have HMV := Aside0.mk (mover_val hv hmv.1)
  have HCE := Aside0.mk (cells_val hv)
  have HMN := Aside0.mk hmv
  have HD := Aside0.mk hd
  have H64 := Aside0.mk h64
  have HNB := Aside0.mk hN
  have HCP := Aside0.mk (hexCnt_pos d)
  have HA := Aside0.mk hrA
  have HC := Aside0.mk hcA
  have HGM := Aside0.mk (show gm < w.heap.size from hown.lt)
  have HB := Aside0.mk (Below.refl w.heap.size w)
  have HXK := Aside0.mk hE.hk
  have HSM := Aside0.mk (HV.small l hv hmv)
  have hck0 := (blk_cell HXK.out 0).trans rfl
  have zeroE : ∀ W : World, (zeroValue 2).run Tryd.prog W = .ok (.int .i64 0) W := fun W => by kernel_rfl
  have hu := Tryd.underlying28
  obtain ⟨hb, hhas⟩ : ∃ hb, Go.Maps.has D kl = hb := ⟨_, rfl⟩
  have HHAS := Aside0.mk hhas
  have HIH := Aside0.mk IH
  clear IH hE hown hmem hkl hd hN hrA hcA hhas hjo hjs h64
  cases hb with
  | true =>
    clear hm0 hm2
    go_enter Tryd.func58, Tryd.ntmps58
    go_wp2_with (first | ((with_reducible refine gate_dst (N := 3) rfl ?_); refine box_event ?hg (N := 3) ?hd (cs := #[.int .i64 (n : Int), .slice A l.length c]) (t := 28) ?hr ?_; (case hd => rfl); (case hg => rfl); (case hr => first | (go_simp; done) | (go_simp; rfl)); intro g3 hg_ w_ hbox hb; have HX3 := Aside0.mk hbox; have HG3 := Aside0.mk (show w.heap.size ≤ g3 ∧ gK ≠ g3 by have := below_size HB.out; have := blk_lt HXK.out; omega); (try clear hck0); clear hbox hg_; have nHB_ := Aside0.mk (below_step HB.out hb); have nHXK_ := Aside0.mk (blk_below HXK.out hb); have nHM_ := Aside0.mk (HM.out.kept (grown_of_below hb none) (by simp)); clear HB HXK HM hb; have HB := nHB_; have HXK := nHXK_; have HM := nHM_; clear nHB_ nHXK_ nHM_; have hck0 := (blk_cell HXK.out 0).trans rfl; have hc30 := (blk_cell HX3.out 0).trans rfl; have hc31 := (blk_cell HX3.out 1).trans rfl; have HGM3 := Aside0.mk (show g3 ≠ gm by have := HGM.out; have := HG3.out; omega)) | (go_at_call 59; refine (impl_joined.calls A c l ⟨#[]⟩ (joinW l ⟨#[]⟩) _ (Kd.C_below HA.out HB.out) HC.out HJO.out).mono ?_; rintro e w_ ⟨rfl, hb⟩; (try clear hck0); (try clear hc30); (try clear hc31); have nHB_ := Aside0.mk (below_step HB.out hb); have nHXK_ := Aside0.mk (blk_below HXK.out hb); have nHM_ := Aside0.mk (HM.out.kept (grown_of_below hb none) (by simp)); have nHX3_ := Aside0.mk (blk_below HX3.out hb); clear HB HXK HM HX3 hb; have HB := nHB_; have HXK := nHXK_; have HM := nHM_; have HX3 := nHX3_; clear nHB_ nHXK_ nHM_ nHX3_; have hck0 := (blk_cell HXK.out 0).trans rfl; have hc30 := (blk_cell HX3.out 0).trans rfl; have hc31 := (blk_cell HX3.out 1).trans rfl) | (at_lookup; refine wpList_lookup_own_ok_int _ rfl _ _ 69 rfl 9 2 .i64 strKeyed Tryd.underlying69 Tryd.underlying2 (zeroE _) gm N D rfl HM.out _ kl rfl HKL.out ?_; intro c1 hat hwc; have HAT := Aside0.mk hat; clear hat hwc; rw [HHAS.out]))
    have hc1 : c1 = Wv l := HMM.out _ kl c1 HKL.out HHAS.out HAT.out l HVL.out HMN.out rfl
    go_ret
    exact ⟨by rw [hc1]; rfl, (HE.out.step HB.out).mono (by omega), grown_of_below HB.out _⟩
  | false =>
    obtain ⟨mv, hmve⟩ : ∃ mv, moverV l = mv := ⟨_, rfl⟩
    rw [hmve] at HMV hm0 hm2
    obtain ⟨E, hEe⟩ : ∃ E, emptyL l = E := ⟨_, rfl⟩
    rw [hEe] at HCE HD
    have HEL := Aside0.mk (show E.length ≤ 64 by rw [← hEe]; exact Nat.le_trans (chosenTo_le _ _) H64.out)
    by_cases hz : E.length = 0
    · have he : E = [] := List.eq_nil_of_length_eq_zero hz
      have HWJ := Aside0.mk (HV.full l hv hmv (hEe.trans he))
      obtain ⟨K, hK⟩ := HV.join l hv hmv (hEe.trans he)
      have HJK := Aside0.mk hK
      have hzb : ((E.length : Int) == 0) = true := beq_iff_eq.2 (by omega)
      have q1 := decide_eq_false (show ¬ (0 : Int) < (E.length : Int) by omega)
      have HEZ := Aside0.mk hz
      clear hz he hK hm0 hm2
      have HSTEP := Aside0.mk (show (∃ (i : Nat) (hi : i < E.length), Wv (l.set E[i].toNat mv) = mv) → mv = Wv l from fun ⟨i, hi, _⟩ => by have := HEZ.out; omega)
      have HLAST := Aside0.mk (show (∀ (i : Nat) (hi : i < E.length), Wv (l.set E[i].toNat mv) ≠ mv) → J l = Wv l from fun _ => HWJ.out.symm)
      generalize J l = o0 at HLAST HJK
      go_enter Tryd.func58, Tryd.ntmps58
      go_wp2_with (first | ((with_reducible refine gate_dst (N := 3) rfl ?_); refine box_event ?hg (N := 3) ?hd (cs := #[.int .i64 (n : Int), .slice A l.length c]) (t := 28) ?hr ?_; (case hd => rfl); (case hg => rfl); (case hr => first | (go_simp; done) | (go_simp; rfl)); intro g3 hg_ w_ hbox hb; have HX3 := Aside0.mk hbox; have HG3 := Aside0.mk (show w.heap.size ≤ g3 ∧ gK ≠ g3 by have := below_size HB.out; have := blk_lt HXK.out; omega); (try clear hck0); clear hbox hg_; have nHB_ := Aside0.mk (below_step HB.out hb); have nHXK_ := Aside0.mk (blk_below HXK.out hb); have nHM_ := Aside0.mk (HM.out.kept (grown_of_below hb none) (by simp)); clear HB HXK HM hb; have HB := nHB_; have HXK := nHXK_; have HM := nHM_; clear nHB_ nHXK_ nHM_; have hck0 := (blk_cell HXK.out 0).trans rfl; have hc30 := (blk_cell HX3.out 0).trans rfl; have hc31 := (blk_cell HX3.out 1).trans rfl; have HGM3 := Aside0.mk (show g3 ≠ gm by have := HGM.out; have := HG3.out; omega)) | (go_at_call 59; refine (impl_joined.calls A c l ⟨#[]⟩ (joinW l ⟨#[]⟩) _ (Kd.C_below HA.out HB.out) HC.out HJO.out).mono ?_; rintro e w_ ⟨rfl, hb⟩; (try clear hck0); (try clear hc30); (try clear hc31); have nHB_ := Aside0.mk (below_step HB.out hb); have nHXK_ := Aside0.mk (blk_below HXK.out hb); have nHM_ := Aside0.mk (HM.out.kept (grown_of_below hb none) (by simp)); have nHX3_ := Aside0.mk (blk_below HX3.out hb); clear HB HXK HM HX3 hb; have HB := nHB_; have HXK := nHXK_; have HM := nHM_; have HX3 := nHX3_; clear nHB_ nHXK_ nHM_ nHX3_; have hck0 := (blk_cell HXK.out 0).trans rfl; have hc30 := (blk_cell HX3.out 0).trans rfl; have hc31 := (blk_cell HX3.out 1).trans rfl) | (at_lookup; refine wpList_lookup_own_ok_int _ rfl _ _ 69 rfl 9 2 .i64 strKeyed Tryd.underlying69 Tryd.underlying2 (zeroE _) gm N D rfl HM.out _ kl rfl HKL.out ?_; intro c1 hat hwc; clear hat hwc; rw [HHAS.out]) | (go_at_call 38; refine (impl_Hex_mover.calls n A c l mv true _ (Kd.C_below HA.out HB.out) HC.out HMV.out).mono ?_; rintro e w_ ⟨rfl, hb⟩; (try clear hck0); (try clear hc30); (try clear hc31); have nHB_ := Aside0.mk (below_step HB.out hb); have nHXK_ := Aside0.mk (blk_below HXK.out hb); have nHM_ := Aside0.mk (HM.out.kept (grown_of_below hb none) (by simp)); have nHX3_ := Aside0.mk (blk_below HX3.out hb); clear HB HXK HM HX3 hb; have HB := nHB_; have HXK := nHXK_; have HM := nHM_; have HX3 := nHX3_; clear nHB_ nHXK_ nHM_ nHX3_; have hck0 := (blk_cell HXK.out 0).trans rfl; have hc30 := (blk_cell HX3.out 0).trans rfl; have hc31 := (blk_cell HX3.out 1).trans rfl) | (go_at_call 40; refine (impl_Hex_cells.calls n A c l 0 E _ (Kd.C_below HA.out HB.out) HC.out HCE.out).mono ?_; rintro e w_ ⟨v33, rfl, ho, hb⟩; obtain ⟨A33, c33, e33⟩ := Kd.R_slice ho; subst e33; have HRE := Aside0.mk (Kd.R_lower (Kd.R_mono (ok' := fun k => k ≠ gm) (Kd.R_bound ho) (fun k hk => by have := hk.2.1; have := HM.out.lt; omega)) (below_size HB.out)); clear ho; (try clear hck0); (try clear hc30); (try clear hc31); have nHB_ := Aside0.mk (below_step HB.out hb); have nHXK_ := Aside0.mk (blk_below HXK.out hb); have nHM_ := Aside0.mk (HM.out.kept (grown_of_below hb none) (by simp)); have nHX3_ := Aside0.mk (blk_below HX3.out hb); clear HB HXK HM HX3 hb; have HB := nHB_; have HXK := nHXK_; have HM := nHM_; have HX3 := nHX3_; clear nHB_ nHXK_ nHM_ nHX3_; have hck0 := (blk_cell HXK.out 0).trans rfl; have hc30 := (blk_cell HX3.out 0).trans rfl; have hc31 := (blk_cell HX3.out 1).trans rfl) | (go_at_call 49; refine (impl_Hex_joiner.calls K n A c l o0 _ (Kd.C_below HA.out HB.out) HC.out HJK.out).mono ?_; rintro e w_ ⟨rfl, hb⟩; (try clear hck0); (try clear hc30); (try clear hc31); have nHB_ := Aside0.mk (below_step HB.out hb); have nHXK_ := Aside0.mk (blk_below HXK.out hb); have nHM_ := Aside0.mk (HM.out.kept (grown_of_below hb none) (by simp)); have nHX3_ := Aside0.mk (blk_below HX3.out hb); have nHRE_ := Aside0.mk (Kd.R_below HRE.out hb); clear HB HXK HM HX3 HRE hb; have HB := nHB_; have HXK := nHXK_; have HM := nHM_; have HX3 := nHX3_; have HRE := nHRE_; clear nHB_ nHXK_ nHM_ nHX3_ nHRE_; have hck0 := (blk_cell HXK.out 0).trans rfl; have hc30 := (blk_cell HX3.out 0).trans rfl; have hc31 := (blk_cell HX3.out 1).trans rfl))
      have HE0 := Aside0.mk (HE.out.step HB.out)
      have HG0 := Aside0.mk (grown_of_below HB.out (some gm))
      have HDN := Aside0.mk (show E ≠ [] → d ≠ 0 from fun h h2 => h (List.eq_nil_of_length_eq_zero (by have := HD.out; omega)))
      have HMP := Aside0.mk HE.out.map
      clear HB HXK HM hck0 hc30 hc31
      go_loopg [10, 41] E.length (fun gg s10 s41 wr => ∃ i : Nat, i ≤ E.length ∧ E.length - i ≤ gg ∧ s41 = .int .i64 i ∧ s10 = .int .i64 o0 ∧ Aside0 (∀ (j : Nat) (hj : j < E.length), j < i → Wv (l.set E[j].toNat mv) ≠ mv) ∧ Aside0 (HWEnv w0 gK gF gm n (N + i * hexCnt (d - 1)) P Wv wr) ∧ Aside0 (w.grownBy wr (some gm)) ∧ Aside0 (wr.heap[g3]? = some (.cells #[.int .i64 (n : Int), .slice A l.length c] 28 (0, 0))) ∧ Aside0 (Kd.R (Kd.int .i64) 2 wr w.heap.size (fun k => k ≠ gm) (.slice A33 E.length c33) E))
      case atStart => exact ⟨0, Nat.zero_le _, Nat.le_refl _, rfl, rfl, ⟨fun j _ h => absurd h (Nat.not_lt_zero _)⟩, ⟨by rw [Nat.zero_mul, Nat.add_zero]; exact HE0.out⟩, HG0, HX3, HRE⟩
      case round =>
        clear HE0 HG0 HX3 HRE
        obtain ⟨i, hi, hgi, rfl, rfl, HNO, HEr, HGr, HX3, HRE⟩ := hrel
        by_cases hlt : i < E.length
        · have q1 := decide_eq_true (show (i : Int) < (E.length : Int) by omega)
          have q2 := decide_eq_true hlt
          have q3 := eq_true (show (i : Int) < (E.length : Int) by omega)
          have q4 := eq_true (show (0 : Int) ≤ (i : Int) by omega)
          have q5 := eq_true hlt
          obtain ⟨adx, ex, hxx⟩ := Kd.at_int (Kd.R_reads' HRE.out).2.2 (i : Int) (by omega) (by omega)
          subst ex
          rw [Int.toNat_natCast, rd_get E i hlt] at hxx
          have hxm : E[i] ∈ emptyL l := by rw [hEe]; exact List.getElem_mem hlt
          obtain ⟨hx0, hx1, hx2_⟩ := (chosen_pair (fun c => rd l c == 0) l.length).2 E[i] hxm
          obtain ⟨ch1, ch2, ch3⟩ := HV.child l E[i] HVL.out HMN.out hxm
          rw [hmve] at ch1 ch2 ch3
          have HIT := Aside0.mk (show Wv (l.set E[i].toNat mv) = mv → mv = Wv l from fun h => HSTEP.out ⟨i, hlt, h⟩)
          have HNX := Aside0.mk (show Wv (l.set E[i].toNat mv) ≠ mv → ∀ (j : Nat) (hj : j < E.length), j < i + 1 → Wv (l.set E[j].toNat mv) ≠ mv from fun h j hj hji => by
            by_cases e : j = i
            · subst e; exact h
            · exact HNO.out j hj (by omega))
          have HWV := Aside0.mk (with_val (m := mv) HVL.out hx0 hx1)
          clear hx2_
          generalize E[i] = x at hxx hx0 hx1 ch1 ch2 ch3 HIT HNX HWV
          have HCI := Aside0.mk (hcnt_step (d := d) hlt (by have := HD.out; omega))
          have HIHx := Aside0.mk (HIH.out (HDN.out (fun h => by rw [h] at hlt; exact absurd hlt (by simp))) (l.set x.toNat mv))
          have hcd : (emptyL (l.set x.toNat mv)).length ≤ d - 1 := by rw [hEe] at ch3; have := HD.out; omega
          have HCH := Aside0.mk (And.intro ch1 (And.intro ch2 hcd))
          generalize l.set x.toNat mv = l2 at HIT HNX HWV HIHx HCH ch3
          have HJm := Aside0.mk (show E.length - (i + 1) < gk by omega)
          have HJr := Aside0.mk (show i + 1 ≤ E.length by omega)
          have HJs := Aside0.mk (show wrap64 ((i : Int) + 1) = ((i + 1 : Nat) : Int) from wrap_next hlt (by have := HEL.out; omega))
          clear hi hgi hlt hxm hx0 hx1 ch1 ch2 ch3 hcd
          go_wp2_with fail
          have n1_ := Aside0.mk HEr.out.drew
          have n2_ := Aside0.mk (blk_drew HX3.out)
          have n3_ := Aside0.mk (Kd.R_drew HRE.out)
          have nA_ := Aside0.mk (Kd.C_drew (C_memo HA.out HMP.out HGr.out))
          have nG_ := Aside0.mk (HGr.out.trans (grown_of_below (below_drew1 (Below.refl _ wr)) (some gm)))
          have hge := HIHx
          clear HEr HGr HX3 HRE hge
          refine start_ (n := 8) (S := fun w' => w'.cell? ⟨gF, 0, none⟩ = some (.func (.func 58) #[] #[.pointer (some ⟨gK, 0, none⟩), .pointer (some ⟨gF, 0, none⟩)]) ∧ w'.cell? ⟨g3, 0, none⟩ = some (.int .i64 (n : Int)) ∧ w'.cell? ⟨g3, 1, none⟩ = some (.slice A l.length c)) (ds := []) #[false, false, false, false, false, false, false, false] (by kernel_rfl) rfl rfl ⟨(blk_cell n1_.out.hf 0).trans rfl, (blk_cell n2_.out 0).trans rfl, (blk_cell n2_.out 1).trans rfl⟩ (fun hHeld => ?_)
          refine with_tabW hw_tab12 hw_bits12 (fun HT_ HW_ => ?_)
          generalize hq_ : wr.drew = wd_ at n1_ n2_ n3_ nA_ nG_ hHeld ⊢
          clear hq_
          refine take_ (i := 0) (N := some 45) (v := ?_) (a' := ?_) (flg_ 8 1) rfl rfl (take_ofW HT_.out HW_.out (by kernel_rfl)) (fun _ _ _ h => h) (Or.inl ⟨by rfl, ?_⟩) hHeld ?_ ?_
          rotate_left
          · rintro w' ⟨s0, s1, s2⟩
            go_simp
            with_reducible rfl
          rotate_left
          · simp only [Act.put, sz_, s0_, s1_, i64_w, i32_w]
            rfl
          refine take_ (i := 1) (N := some 46) (v := ?_) (a' := ?_) (flg_ 8 3) rfl rfl (take_ofW HT_.out HW_.out (by kernel_rfl)) (fun _ _ _ h => h) (Or.inl ⟨by rfl, ?_⟩) hHeld ?_ ?_
          rotate_left
          · rintro w' ⟨s0, s1, s2⟩
            go_simp
            with_reducible rfl
          rotate_left
          · simp only [Act.put, sz_, s0_, s1_, i64_w, i32_w]
            rfl
          refine pure_ (i := 2) (N := some 47) (v := ?_) (a' := ?_) (flg_ 8 7) rfl rfl (any_of HT_.out (by kernel_rfl)) (fun _ _ _ h => h) (Or.inl ⟨by rfl, ?_⟩) ?_ ?_
          rotate_left
          · intro w'
            go_simp
            with_reducible rfl
          rotate_left
          · simp only [Act.put, sz_, s0_, s1_, i64_w, i32_w]
            rfl
          refine pure_ (i := 3) (N := some 48) (v := ?_) (a' := ?_) (flg_ 8 15) rfl rfl (any_of HT_.out (by kernel_rfl)) (fun _ _ _ h => h) (Or.inl ⟨by rfl, ?_⟩) ?_ ?_
          rotate_left
          · intro w'
            go_simp
            with_reducible rfl
          rotate_left
          · simp only [Act.put, sz_, s0_, s1_, i64_w, i32_w]
            rfl
          refine pure_ (i := 6) (N := some 51) (v := ?_) (a' := ?_) (flg_ 8 79) rfl rfl (any_of HT_.out (by kernel_rfl)) (fun _ _ _ h => h) (Or.inl ⟨by rfl, ?_⟩) ?_ ?_
          rotate_left
          · intro w'
            go_simp
            with_reducible rfl
          rotate_left
          · simp only [Act.put, sz_, s0_, s1_, i64_w, i32_w]
            rfl
          refine one_ (i := 4) (N := some 49) (flg_ 8 95) rfl rfl (one_of HT_.out (by kernel_rfl)) (by decide) (fun K hK => ?_)
          refine goes_ Tryd.func42 (by kernel_rfl) rfl #[.agg #[.int .i64 (n : Int), .slice A l.length c], .int .i64 x, .int .i64 mv] (by rfl) rfl rfl (by (try simp only [List.map_toArray, List.map_cons, List.map_nil]); first | done | rfl) ?_
          refine (impl_Hex_with.calls n A c l x mv n l2 _ nA_.out HC.out HWV.out).mono ?_
          rintro e wa_ ⟨v49, rfl, ho, hb⟩
          refine ⟨_, rfl, ?_⟩
          obtain ⟨A49, c49, e49⟩ := Kd.R_slice ho
          subst e49
          have HO2 := Aside0.mk ho
          have HE2 := Aside0.mk (n1_.out.step hb)
          have HX2 := Aside0.mk (blk_below n2_.out hb)
          have HR2 := Aside0.mk (Kd.R_below n3_.out hb)
          have nG2_ := Aside0.mk (nG_.out.trans (grown_of_below hb (some gm)))
          clear ho hb n1_ n2_ n3_ nA_ nG_
          refine hK.out _ _ ⟨(blk_cell HE2.out.hf 0).trans rfl, (blk_cell HX2.out 0).trans rfl, (blk_cell HX2.out 1).trans rfl⟩ (fun hHeld => ?_)
          clear hK K
          refine norm_ (a' := ?_) ?_ ?_
          rotate_left
          · show Act.put _ (some 49) _ = _
            simp only [Act.put, sz_, s0_, s1_, i64_w, i32_w]
            rfl
          refine one_ (i := 5) (N := some 50) (flg_ 8 127) rfl rfl (one_of HT_.out (by kernel_rfl)) (by decide) (fun K hK => ?_)
          refine goesF_ (x := .tmp 45) (lb := #[.pointer (some ⟨gK, 0, none⟩), .pointer (some ⟨gF, 0, none⟩)]) eg_hfind #[.agg #[.int .i64 (n : Int), .slice A49 l2.length c49]] (by rfl) rfl rfl rfl (by (try simp only [List.map_toArray, List.map_cons, List.map_nil]); first | done | rfl) ?_
          refine (HIHx.out A49 c49 (N + i * hexCnt (d - 1)) _ HCH.out.1 HCH.out.2.1 HCH.out.2.2 (Kd.R_reads' HO2.out).2.2 (Kd.R_reads' HO2.out).2.1 HE2.out (by have := HCI.out; have := HNB.out; omega)).mono ?_
          rintro e wb_ ⟨rfl, hE3, hG3⟩
          refine ⟨_, rfl, ?_⟩
          have HE4 := Aside0.mk hE3
          have HX4 := Aside0.mk (blk_grownB HX2.out hG3 HGM3.out)
          have HRE4 := Aside0.mk (Kd.R_grown HR2.out hG3 (fun k hk e_ => hk (by injection e_)))
          have nG4_ := Aside0.mk (nG2_.out.trans hG3)
          clear hE3 hG3 HO2 HE2 HX2 HR2 nG2_
          refine hK.out _ _ ⟨(blk_cell HE4.out.hf 0).trans rfl, (blk_cell HX4.out 0).trans rfl, (blk_cell HX4.out 1).trans rfl⟩ (fun hHeld => ?_)
          clear hK K
          refine norm_ (a' := ?_) ?_ ?_
          rotate_left
          · show Act.put _ (some 50) _ = _
            simp only [Act.put, sz_, s0_, s1_, i64_w, i32_w]
            rfl
          refine pure_ (i := 7) (N := some 52) (v := ?_) (a' := ?_) (flg_ 8 255) rfl rfl (any_of HT_.out (by kernel_rfl)) (fun _ _ _ h => h) (Or.inl ⟨by rfl, ?_⟩) ?_ ?_
          rotate_left
          · intro w'
            go_simp
            with_reducible rfl
          rotate_left
          · simp only [Act.put, sz_, s0_, s1_, i64_w, i32_w]
            rfl
          refine done_ (done_of HT_.out (by kernel_rfl)) ?_
          cases hres : (Wv l2 == mv) with
          | true =>
            have HRES := Aside0.mk (HIT.out (beq_iff_eq.1 hres))
            clear HIT HNX
            have hck0 := (blk_cell HE4.out.hk 0).trans rfl
            obtain ⟨⟨D2, hown2, hmem2⟩⟩ : Aside0 (HasMemo Tryd.prog 9 2 (HWF n P Wv) gm (N + i * hexCnt (d - 1) + hexCnt (d - 1)) wb_) := ⟨HE4.out.memo⟩
            have HM2 := Aside0.mk hown2
            have HMM2 := Aside0.mk hmem2
            clear hown2 hmem2
            go_wp2_with (first | (at_mapUpdate; refine wpList_mapUpdate_own _ rfl _ _ _ 69 rfl 9 2 strKeyed Tryd.underlying69 _ gm (N + i * hexCnt (d - 1) + hexCnt (d - 1)) _ rfl HM2.out (by have := HNB.out; have := hcnt_last (d := d) (i := i + 1) HJr.out (by have := HD.out; omega); rw [Nat.succ_mul] at this; omega) _ _ kl rfl rfl HKL.out _ [] (plainElem_int Tryd.underlying2 (by rw [HRES.out]; have := HSM.out; exact hw_small this.1 this.2)) ?_; intro w4_ hown4 hg4_; have HW4 := Aside0.mk hown4; have HG4_ := Aside0.mk hg4_; clear hown4 hg4_))
            go_ret
            exact ⟨by rw [← HRES.out]; rfl, hw_env HE4.out HW4.out (HMM2.out.put strKeyed HM2.out.isMap HKL.out (fun l3 g1 g2 e => by injection e with e; rw [HV.key l3 l g1 HVL.out e.symm]; exact HRES.out)) HG4_.out (by have := hcnt_last (d := d) (i := i + 1) HJr.out (by have := HD.out; omega); rw [Nat.succ_mul] at this; omega), nG4_.out.trans HG4_.out⟩
          | false =>
            have HNX2 := Aside0.mk (HNX.out (beq_eq_false_iff_ne.1 hres))
            clear HIT HNX
            go_wp2_with fail
            go_roundg (E.length - (i + 1))
            case measure => exact HJm.out
            case rel => exact ⟨i + 1, HJr.out, Nat.le_refl _, (by first | rfl | exact congrArg (Value.int .i64) HJs.out), rfl, HNX2, ⟨by rw [Nat.succ_mul, ← Nat.add_assoc]; exact HE4.out⟩, nG4_, HX4, HRE4⟩
        · have hie : i = E.length := by omega
          subst hie
          have q1 := decide_eq_false (show ¬ (E.length : Int) < (E.length : Int) by omega)
          have HRES := Aside0.mk (HLAST.out (fun j hj => HNO.out j hj hj))
          have hck0 := (blk_cell HEr.out.hk 0).trans rfl
          obtain ⟨⟨D2, hown2, hmem2⟩⟩ : Aside0 (HasMemo Tryd.prog 9 2 (HWF n P Wv) gm (N + E.length * hexCnt (d - 1)) wr) := ⟨HEr.out.memo⟩
          have HM2 := Aside0.mk hown2
          have HMM2 := Aside0.mk hmem2
          clear hown2 hmem2 hi hgi hlt
          go_wp2_with (first | (at_mapUpdate; refine wpList_mapUpdate_own _ rfl _ _ _ 69 rfl 9 2 strKeyed Tryd.underlying69 _ gm (N + E.length * hexCnt (d - 1)) _ rfl HM2.out (by have := HNB.out; have := hcnt_last (d := d) (i := E.length) (Nat.le_refl _) HD.out; omega) _ _ kl rfl rfl HKL.out _ [] (plainElem_int Tryd.underlying2 (by rw [HRES.out]; have := HSM.out; exact hw_small this.1 this.2)) ?_; intro w4_ hown4 hg4_; have HW4 := Aside0.mk hown4; have HG4_ := Aside0.mk hg4_; clear hown4 hg4_))
          go_ret
          exact ⟨by rw [← HRES.out]; rfl, hw_env HEr.out HW4.out (HMM2.out.put strKeyed HM2.out.isMap HKL.out (fun l3 g1 g2 e => by injection e with e; rw [HV.key l3 l g1 HVL.out e.symm]; exact HRES.out)) HG4_.out (by have := hcnt_last (d := d) (i := E.length) (Nat.le_refl _) HD.out; omega), HGr.out.trans HG4_.out⟩
    · have hzb : ((E.length : Int) == 0) = false := beq_eq_false_iff_ne.2 (by omega)
      have hws := HV.step l hv hmv (by rw [hEe]; intro h; rw [h] at hz; exact hz rfl)
      rw [hEe, hmve] at hws
      have hany : ((E.any fun x => Wv (l.set x.toNat mv) == mv) = true) ↔ ∃ (i : Nat) (hi : i < E.length), Wv (l.set E[i].toNat mv) = mv := by
        rw [List.any_eq_true]
        constructor
        · rintro ⟨x, hx, h⟩
          obtain ⟨i, hi, rfl⟩ := List.mem_iff_getElem.1 hx
          exact ⟨i, hi, beq_iff_eq.1 h⟩
        · rintro ⟨i, hi, h⟩
          exact ⟨_, List.getElem_mem hi, beq_iff_eq.2 h⟩
      have HSTEP := Aside0.mk (show (∃ (i : Nat) (hi : i < E.length), Wv (l.set E[i].toNat mv) = mv) → mv = Wv l from fun h => by rw [hws, if_pos (hany.2 h)])
      have hw3 : wrap64 (3 - mv) = 3 - mv := by unfold wrap64; omega
      have HLAST := Aside0.mk (show (∀ (i : Nat) (hi : i < E.length), Wv (l.set E[i].toNat mv) ≠ mv) → wrap64 (3 - mv) = Wv l from fun h => by rw [hw3, hws, if_neg (fun e => by obtain ⟨i, hi, e⟩ := hany.1 e; exact h i hi e)])
      obtain ⟨o0, ho0⟩ : ∃ o0, wrap64 (3 - mv) = o0 := ⟨_, rfl⟩
      rw [ho0] at HLAST
      have HO0 := Aside0.mk ho0
      clear hz hws hany hw3 ho0 hm0 hm2
      go_enter Tryd.func58, Tryd.ntmps58
      go_wp2_with (first | ((with_reducible refine gate_dst (N := 3) rfl ?_); refine box_event ?hg (N := 3) ?hd (cs := #[.int .i64 (n : Int), .slice A l.length c]) (t := 28) ?hr ?_; (case hd => rfl); (case hg => rfl); (case hr => first | (go_simp; done) | (go_simp; rfl)); intro g3 hg_ w_ hbox hb; have HX3 := Aside0.mk hbox; have HG3 := Aside0.mk (show w.heap.size ≤ g3 ∧ gK ≠ g3 by have := below_size HB.out; have := blk_lt HXK.out; omega); (try clear hck0); clear hbox hg_; have nHB_ := Aside0.mk (below_step HB.out hb); have nHXK_ := Aside0.mk (blk_below HXK.out hb); have nHM_ := Aside0.mk (HM.out.kept (grown_of_below hb none) (by simp)); clear HB HXK HM hb; have HB := nHB_; have HXK := nHXK_; have HM := nHM_; clear nHB_ nHXK_ nHM_; have hck0 := (blk_cell HXK.out 0).trans rfl; have hc30 := (blk_cell HX3.out 0).trans rfl; have hc31 := (blk_cell HX3.out 1).trans rfl; have HGM3 := Aside0.mk (show g3 ≠ gm by have := HGM.out; have := HG3.out; omega)) | (go_at_call 59; refine (impl_joined.calls A c l ⟨#[]⟩ (joinW l ⟨#[]⟩) _ (Kd.C_below HA.out HB.out) HC.out HJO.out).mono ?_; rintro e w_ ⟨rfl, hb⟩; (try clear hck0); (try clear hc30); (try clear hc31); have nHB_ := Aside0.mk (below_step HB.out hb); have nHXK_ := Aside0.mk (blk_below HXK.out hb); have nHM_ := Aside0.mk (HM.out.kept (grown_of_below hb none) (by simp)); have nHX3_ := Aside0.mk (blk_below HX3.out hb); clear HB HXK HM HX3 hb; have HB := nHB_; have HXK := nHXK_; have HM := nHM_; have HX3 := nHX3_; clear nHB_ nHXK_ nHM_ nHX3_; have hck0 := (blk_cell HXK.out 0).trans rfl; have hc30 := (blk_cell HX3.out 0).trans rfl; have hc31 := (blk_cell HX3.out 1).trans rfl) | (at_lookup; refine wpList_lookup_own_ok_int _ rfl _ _ 69 rfl 9 2 .i64 strKeyed Tryd.underlying69 Tryd.underlying2 (zeroE _) gm N D rfl HM.out _ kl rfl HKL.out ?_; intro c1 hat hwc; clear hat hwc; rw [HHAS.out]) | (go_at_call 38; refine (impl_Hex_mover.calls n A c l mv true _ (Kd.C_below HA.out HB.out) HC.out HMV.out).mono ?_; rintro e w_ ⟨rfl, hb⟩; (try clear hck0); (try clear hc30); (try clear hc31); have nHB_ := Aside0.mk (below_step HB.out hb); have nHXK_ := Aside0.mk (blk_below HXK.out hb); have nHM_ := Aside0.mk (HM.out.kept (grown_of_below hb none) (by simp)); have nHX3_ := Aside0.mk (blk_below HX3.out hb); clear HB HXK HM HX3 hb; have HB := nHB_; have HXK := nHXK_; have HM := nHM_; have HX3 := nHX3_; clear nHB_ nHXK_ nHM_ nHX3_; have hck0 := (blk_cell HXK.out 0).trans rfl; have hc30 := (blk_cell HX3.out 0).trans rfl; have hc31 := (blk_cell HX3.out 1).trans rfl) | (go_at_call 40; refine (impl_Hex_cells.calls n A c l 0 E _ (Kd.C_below HA.out HB.out) HC.out HCE.out).mono ?_; rintro e w_ ⟨v33, rfl, ho, hb⟩; obtain ⟨A33, c33, e33⟩ := Kd.R_slice ho; subst e33; have HRE := Aside0.mk (Kd.R_lower (Kd.R_mono (ok' := fun k => k ≠ gm) (Kd.R_bound ho) (fun k hk => by have := hk.2.1; have := HM.out.lt; omega)) (below_size HB.out)); clear ho; (try clear hck0); (try clear hc30); (try clear hc31); have nHB_ := Aside0.mk (below_step HB.out hb); have nHXK_ := Aside0.mk (blk_below HXK.out hb); have nHM_ := Aside0.mk (HM.out.kept (grown_of_below hb none) (by simp)); have nHX3_ := Aside0.mk (blk_below HX3.out hb); clear HB HXK HM HX3 hb; have HB := nHB_; have HXK := nHXK_; have HM := nHM_; have HX3 := nHX3_; clear nHB_ nHXK_ nHM_ nHX3_; have hck0 := (blk_cell HXK.out 0).trans rfl; have hc30 := (blk_cell HX3.out 0).trans rfl; have hc31 := (blk_cell HX3.out 1).trans rfl))
      rw [HO0.out]
      have HE0 := Aside0.mk (HE.out.step HB.out)
      have HG0 := Aside0.mk (grown_of_below HB.out (some gm))
      have HDN := Aside0.mk (show E ≠ [] → d ≠ 0 from fun h h2 => h (List.eq_nil_of_length_eq_zero (by have := HD.out; omega)))
      have HMP := Aside0.mk HE.out.map
      clear HB HXK HM hck0 hc30 hc31
      go_loopg [10, 41] E.length (fun gg s10 s41 wr => ∃ i : Nat, i ≤ E.length ∧ E.length - i ≤ gg ∧ s41 = .int .i64 i ∧ s10 = .int .i64 o0 ∧ Aside0 (∀ (j : Nat) (hj : j < E.length), j < i → Wv (l.set E[j].toNat mv) ≠ mv) ∧ Aside0 (HWEnv w0 gK gF gm n (N + i * hexCnt (d - 1)) P Wv wr) ∧ Aside0 (w.grownBy wr (some gm)) ∧ Aside0 (wr.heap[g3]? = some (.cells #[.int .i64 (n : Int), .slice A l.length c] 28 (0, 0))) ∧ Aside0 (Kd.R (Kd.int .i64) 2 wr w.heap.size (fun k => k ≠ gm) (.slice A33 E.length c33) E))
      case atStart => exact ⟨0, Nat.zero_le _, Nat.le_refl _, rfl, rfl, ⟨fun j _ h => absurd h (Nat.not_lt_zero _)⟩, ⟨by rw [Nat.zero_mul, Nat.add_zero]; exact HE0.out⟩, HG0, HX3, HRE⟩
      case round =>
        clear HE0 HG0 HX3 HRE
        obtain ⟨i, hi, hgi, rfl, rfl, HNO, HEr, HGr, HX3, HRE⟩ := hrel
        by_cases hlt : i < E.length
        · have q1 := decide_eq_true (show (i : Int) < (E.length : Int) by omega)
          have q2 := decide_eq_true hlt
          have q3 := eq_true (show (i : Int) < (E.length : Int) by omega)
          have q4 := eq_true (show (0 : Int) ≤ (i : Int) by omega)
          have q5 := eq_true hlt
          obtain ⟨adx, ex, hxx⟩ := Kd.at_int (Kd.R_reads' HRE.out).2.2 (i : Int) (by omega) (by omega)
          subst ex
          rw [Int.toNat_natCast, rd_get E i hlt] at hxx
          have hxm : E[i] ∈ emptyL l := by rw [hEe]; exact List.getElem_mem hlt
          obtain ⟨hx0, hx1, hx2_⟩ := (chosen_pair (fun c => rd l c == 0) l.length).2 E[i] hxm
          obtain ⟨ch1, ch2, ch3⟩ := HV.child l E[i] HVL.out HMN.out hxm
          rw [hmve] at ch1 ch2 ch3
          have HIT := Aside0.mk (show Wv (l.set E[i].toNat mv) = mv → mv = Wv l from fun h => HSTEP.out ⟨i, hlt, h⟩)
          have HNX := Aside0.mk (show Wv (l.set E[i].toNat mv) ≠ mv → ∀ (j : Nat) (hj : j < E.length), j < i + 1 → Wv (l.set E[j].toNat mv) ≠ mv from fun h j hj hji => by
            by_cases e : j = i
            · subst e; exact h
            · exact HNO.out j hj (by omega))
          have HWV := Aside0.mk (with_val (m := mv) HVL.out hx0 hx1)
          clear hx2_
          generalize E[i] = x at hxx hx0 hx1 ch1 ch2 ch3 HIT HNX HWV
          have HCI := Aside0.mk (hcnt_step (d := d) hlt (by have := HD.out; omega))
          have HIHx := Aside0.mk (HIH.out (HDN.out (fun h => by rw [h] at hlt; exact absurd hlt (by simp))) (l.set x.toNat mv))
          have hcd : (emptyL (l.set x.toNat mv)).length ≤ d - 1 := by rw [hEe] at ch3; have := HD.out; omega
          have HCH := Aside0.mk (And.intro ch1 (And.intro ch2 hcd))
          generalize l.set x.toNat mv = l2 at HIT HNX HWV HIHx HCH ch3
          have HJm := Aside0.mk (show E.length - (i + 1) < gk by omega)
          have HJr := Aside0.mk (show i + 1 ≤ E.length by omega)
          have HJs := Aside0.mk (show wrap64 ((i : Int) + 1) = ((i + 1 : Nat) : Int) from wrap_next hlt (by have := HEL.out; omega))
          clear hi hgi hlt hxm hx0 hx1 ch1 ch2 ch3 hcd
          go_wp2_with fail
          have n1_ := Aside0.mk HEr.out.drew
          have n2_ := Aside0.mk (blk_drew HX3.out)
          have n3_ := Aside0.mk (Kd.R_drew HRE.out)
          have nA_ := Aside0.mk (Kd.C_drew (C_memo HA.out HMP.out HGr.out))
          have nG_ := Aside0.mk (HGr.out.trans (grown_of_below (below_drew1 (Below.refl _ wr)) (some gm)))
          have hge := HIHx
          clear HEr HGr HX3 HRE hge
          refine start_ (n := 8) (S := fun w' => w'.cell? ⟨gF, 0, none⟩ = some (.func (.func 58) #[] #[.pointer (some ⟨gK, 0, none⟩), .pointer (some ⟨gF, 0, none⟩)]) ∧ w'.cell? ⟨g3, 0, none⟩ = some (.int .i64 (n : Int)) ∧ w'.cell? ⟨g3, 1, none⟩ = some (.slice A l.length c)) (ds := []) #[false, false, false, false, false, false, false, false] (by kernel_rfl) rfl rfl ⟨(blk_cell n1_.out.hf 0).trans rfl, (blk_cell n2_.out 0).trans rfl, (blk_cell n2_.out 1).trans rfl⟩ (fun hHeld => ?_)
          refine with_tabW hw_tab12 hw_bits12 (fun HT_ HW_ => ?_)
          generalize hq_ : wr.drew = wd_ at n1_ n2_ n3_ nA_ nG_ hHeld ⊢
          clear hq_
          refine take_ (i := 0) (N := some 45) (v := ?_) (a' := ?_) (flg_ 8 1) rfl rfl (take_ofW HT_.out HW_.out (by kernel_rfl)) (fun _ _ _ h => h) (Or.inl ⟨by rfl, ?_⟩) hHeld ?_ ?_
          rotate_left
          · rintro w' ⟨s0, s1, s2⟩
            go_simp
            with_reducible rfl
          rotate_left
          · simp only [Act.put, sz_, s0_, s1_, i64_w, i32_w]
            rfl
          refine take_ (i := 1) (N := some 46) (v := ?_) (a' := ?_) (flg_ 8 3) rfl rfl (take_ofW HT_.out HW_.out (by kernel_rfl)) (fun _ _ _ h => h) (Or.inl ⟨by rfl, ?_⟩) hHeld ?_ ?_
          rotate_left
          · rintro w' ⟨s0, s1, s2⟩
            go_simp
            with_reducible rfl
          rotate_left
          · simp only [Act.put, sz_, s0_, s1_, i64_w, i32_w]
            rfl
          refine pure_ (i := 2) (N := some 47) (v := ?_) (a' := ?_) (flg_ 8 7) rfl rfl (any_of HT_.out (by kernel_rfl)) (fun _ _ _ h => h) (Or.inl ⟨by rfl, ?_⟩) ?_ ?_
          rotate_left
          · intro w'
            go_simp
            with_reducible rfl
          rotate_left
          · simp only [Act.put, sz_, s0_, s1_, i64_w, i32_w]
            rfl
          refine pure_ (i := 3) (N := some 48) (v := ?_) (a' := ?_) (flg_ 8 15) rfl rfl (any_of HT_.out (by kernel_rfl)) (fun _ _ _ h => h) (Or.inl ⟨by rfl, ?_⟩) ?_ ?_
          rotate_left
          · intro w'
            go_simp
            with_reducible rfl
          rotate_left
          · simp only [Act.put, sz_, s0_, s1_, i64_w, i32_w]
            rfl
          refine pure_ (i := 6) (N := some 51) (v := ?_) (a' := ?_) (flg_ 8 79) rfl rfl (any_of HT_.out (by kernel_rfl)) (fun _ _ _ h => h) (Or.inl ⟨by rfl, ?_⟩) ?_ ?_
          rotate_left
          · intro w'
            go_simp
            with_reducible rfl
          rotate_left
          · simp only [Act.put, sz_, s0_, s1_, i64_w, i32_w]
            rfl
          refine one_ (i := 4) (N := some 49) (flg_ 8 95) rfl rfl (one_of HT_.out (by kernel_rfl)) (by decide) (fun K hK => ?_)
          refine goes_ Tryd.func42 (by kernel_rfl) rfl #[.agg #[.int .i64 (n : Int), .slice A l.length c], .int .i64 x, .int .i64 mv] (by rfl) rfl rfl (by (try simp only [List.map_toArray, List.map_cons, List.map_nil]); first | done | rfl) ?_
          refine (impl_Hex_with.calls n A c l x mv n l2 _ nA_.out HC.out HWV.out).mono ?_
          rintro e wa_ ⟨v49, rfl, ho, hb⟩
          refine ⟨_, rfl, ?_⟩
          obtain ⟨A49, c49, e49⟩ := Kd.R_slice ho
          subst e49
          have HO2 := Aside0.mk ho
          have HE2 := Aside0.mk (n1_.out.step hb)
          have HX2 := Aside0.mk (blk_below n2_.out hb)
          have HR2 := Aside0.mk (Kd.R_below n3_.out hb)
          have nG2_ := Aside0.mk (nG_.out.trans (grown_of_below hb (some gm)))
          clear ho hb n1_ n2_ n3_ nA_ nG_
          refine hK.out _ _ ⟨(blk_cell HE2.out.hf 0).trans rfl, (blk_cell HX2.out 0).trans rfl, (blk_cell HX2.out 1).trans rfl⟩ (fun hHeld => ?_)
          clear hK K
          refine norm_ (a' := ?_) ?_ ?_
          rotate_left
          · show Act.put _ (some 49) _ = _
            simp only [Act.put, sz_, s0_, s1_, i64_w, i32_w]
            rfl
          refine one_ (i := 5) (N := some 50) (flg_ 8 127) rfl rfl (one_of HT_.out (by kernel_rfl)) (by decide) (fun K hK => ?_)
          refine goesF_ (x := .tmp 45) (lb := #[.pointer (some ⟨gK, 0, none⟩), .pointer (some ⟨gF, 0, none⟩)]) eg_hfind #[.agg #[.int .i64 (n : Int), .slice A49 l2.length c49]] (by rfl) rfl rfl rfl (by (try simp only [List.map_toArray, List.map_cons, List.map_nil]); first | done | rfl) ?_
          refine (HIHx.out A49 c49 (N + i * hexCnt (d - 1)) _ HCH.out.1 HCH.out.2.1 HCH.out.2.2 (Kd.R_reads' HO2.out).2.2 (Kd.R_reads' HO2.out).2.1 HE2.out (by have := HCI.out; have := HNB.out; omega)).mono ?_
          rintro e wb_ ⟨rfl, hE3, hG3⟩
          refine ⟨_, rfl, ?_⟩
          have HE4 := Aside0.mk hE3
          have HX4 := Aside0.mk (blk_grownB HX2.out hG3 HGM3.out)
          have HRE4 := Aside0.mk (Kd.R_grown HR2.out hG3 (fun k hk e_ => hk (by injection e_)))
          have nG4_ := Aside0.mk (nG2_.out.trans hG3)
          clear hE3 hG3 HO2 HE2 HX2 HR2 nG2_
          refine hK.out _ _ ⟨(blk_cell HE4.out.hf 0).trans rfl, (blk_cell HX4.out 0).trans rfl, (blk_cell HX4.out 1).trans rfl⟩ (fun hHeld => ?_)
          clear hK K
          refine norm_ (a' := ?_) ?_ ?_
          rotate_left
          · show Act.put _ (some 50) _ = _
            simp only [Act.put, sz_, s0_, s1_, i64_w, i32_w]
            rfl
          refine pure_ (i := 7) (N := some 52) (v := ?_) (a' := ?_) (flg_ 8 255) rfl rfl (any_of HT_.out (by kernel_rfl)) (fun _ _ _ h => h) (Or.inl ⟨by rfl, ?_⟩) ?_ ?_
          rotate_left
          · intro w'
            go_simp
            with_reducible rfl
          rotate_left
          · simp only [Act.put, sz_, s0_, s1_, i64_w, i32_w]
            rfl
          refine done_ (done_of HT_.out (by kernel_rfl)) ?_
          cases hres : (Wv l2 == mv) with
          | true =>
            have HRES := Aside0.mk (HIT.out (beq_iff_eq.1 hres))
            clear HIT HNX
            have hck0 := (blk_cell HE4.out.hk 0).trans rfl
            obtain ⟨⟨D2, hown2, hmem2⟩⟩ : Aside0 (HasMemo Tryd.prog 9 2 (HWF n P Wv) gm (N + i * hexCnt (d - 1) + hexCnt (d - 1)) wb_) := ⟨HE4.out.memo⟩
            have HM2 := Aside0.mk hown2
            have HMM2 := Aside0.mk hmem2
            clear hown2 hmem2
            go_wp2_with (first | (at_mapUpdate; refine wpList_mapUpdate_own _ rfl _ _ _ 69 rfl 9 2 strKeyed Tryd.underlying69 _ gm (N + i * hexCnt (d - 1) + hexCnt (d - 1)) _ rfl HM2.out (by have := HNB.out; have := hcnt_last (d := d) (i := i + 1) HJr.out (by have := HD.out; omega); rw [Nat.succ_mul] at this; omega) _ _ kl rfl rfl HKL.out _ [] (plainElem_int Tryd.underlying2 (by rw [HRES.out]; have := HSM.out; exact hw_small this.1 this.2)) ?_; intro w4_ hown4 hg4_; have HW4 := Aside0.mk hown4; have HG4_ := Aside0.mk hg4_; clear hown4 hg4_))
            go_ret
            exact ⟨by rw [← HRES.out]; rfl, hw_env HE4.out HW4.out (HMM2.out.put strKeyed HM2.out.isMap HKL.out (fun l3 g1 g2 e => by injection e with e; rw [HV.key l3 l g1 HVL.out e.symm]; exact HRES.out)) HG4_.out (by have := hcnt_last (d := d) (i := i + 1) HJr.out (by have := HD.out; omega); rw [Nat.succ_mul] at this; omega), nG4_.out.trans HG4_.out⟩
          | false =>
            have HNX2 := Aside0.mk (HNX.out (beq_eq_false_iff_ne.1 hres))
            clear HIT HNX
            go_wp2_with fail
            go_roundg (E.length - (i + 1))
            case measure => exact HJm.out
            case rel => exact ⟨i + 1, HJr.out, Nat.le_refl _, (by first | rfl | exact congrArg (Value.int .i64) HJs.out), rfl, HNX2, ⟨by rw [Nat.succ_mul, ← Nat.add_assoc]; exact HE4.out⟩, nG4_, HX4, HRE4⟩
        · have hie : i = E.length := by omega
          subst hie
          have q1 := decide_eq_false (show ¬ (E.length : Int) < (E.length : Int) by omega)
          have HRES := Aside0.mk (HLAST.out (fun j hj => HNO.out j hj hj))
          have hck0 := (blk_cell HEr.out.hk 0).trans rfl
          obtain ⟨⟨D2, hown2, hmem2⟩⟩ : Aside0 (HasMemo Tryd.prog 9 2 (HWF n P Wv) gm (N + E.length * hexCnt (d - 1)) wr) := ⟨HEr.out.memo⟩
          have HM2 := Aside0.mk hown2
          have HMM2 := Aside0.mk hmem2
          clear hown2 hmem2 hi hgi hlt
          go_wp2_with (first | (at_mapUpdate; refine wpList_mapUpdate_own _ rfl _ _ _ 69 rfl 9 2 strKeyed Tryd.underlying69 _ gm (N + E.length * hexCnt (d - 1)) _ rfl HM2.out (by have := HNB.out; have := hcnt_last (d := d) (i := E.length) (Nat.le_refl _) HD.out; omega) _ _ kl rfl rfl HKL.out _ [] (plainElem_int Tryd.underlying2 (by rw [HRES.out]; have := HSM.out; exact hw_small this.1 this.2)) ?_; intro w4_ hown4 hg4_; have HW4 := Aside0.mk hown4; have HG4_ := Aside0.mk hg4_; clear hown4 hg4_))
          go_ret
          exact ⟨by rw [← HRES.out]; rfl, hw_env HEr.out HW4.out (HMM2.out.put strKeyed HM2.out.isMap HKL.out (fun l3 g1 g2 e => by injection e with e; rw [HV.key l3 l g1 HVL.out e.symm]; exact HRES.out)) HG4_.out (by have := hcnt_last (d := d) (i := E.length) (Nat.le_refl _) HD.out; omega), HGr.out.trans HG4_.out⟩
theorem hfind_all (w0 : World) (gK gF gm n : Nat) (P : List Int → Prop) (J Wv : List Int → Int) (HV : HexVal n P J Wv) : ∀ d, HFind w0 gK gF gm n P Wv d
  | 0 => hfind_step w0 gK gF gm n P J Wv HV 0 (fun h => absurd rfl h)
  | d + 1 => hfind_step w0 gK gF gm n P J Wv HV (d + 1) (fun _ => hfind_all w0 gK gF gm n P J Wv HV d)
set_option maxHeartbeats 8000000 in
set_option maxRecDepth 100000 in
theorem impl_hexWins.calls (n : Nat) (P : List Int → Prop) (Wv : List Int → Int) (w : World) :
    Calls Tryd.prog 36 #[] w fun e w' => ∃ gK gF gm : Nat, e = .returned (.func (.func 58) #[] #[.pointer (some ⟨gK, 0, none⟩), .pointer (some ⟨gF, 0, none⟩)]) ∧ HWEnv w gK gF gm n 0 P Wv w' := by
  have HB := Aside0.mk (Below.refl w.heap.size w)
  have hmm := @run_makeMap Tryd.prog
  have hrs := fun (w : World) (a : Addr) (m : Mode) (g : Option Nat) => @run_store_map_ Tryd.prog w a m g
  have hrf := fun (w : World) (a : Addr) (m : Mode) (f : Fn) (t b : Array Value) => @run_store_func Tryd.prog w a m f t b
  go_enter Tryd.func36, Tryd.ntmps36
  go_wp2_with (first | ((with_reducible refine gate_dst (N := 3) rfl ?_); refine made_event ?hg (N := 3) ?hd 9 (plainElem Tryd.prog 2) ?hr ?_; (case hd => rfl); (case hg => rfl); (case hr => first | (go_simp; done) | (go_simp; rfl)); intro gm hgm wm hown hb; have HGM := Aside0.mk (show w.heap.size ≤ gm by have := below_size HB.out; omega); have HM := Aside0.mk hown; clear hown hgm; have nHB_ := Aside0.mk (below_step HB.out hb); clear HB hb; have HB := nHB_; clear nHB_) | ((with_reducible refine gate_dst (N := 1) rfl ?_); refine box_event ?hg (N := 1) ?hd (cs := #[.map none]) (t := 69) ?hr ?_; (case hd => rfl); (case hg => rfl); (case hr => first | (go_simp; done) | (go_simp; rfl)); intro gK hg_ w_ hbox hb; have HXK := Aside0.mk hbox; have HGKM0 := Aside0.mk (show gm < gK by have := HM.out.lt; omega); have HGK := Aside0.mk (show w.heap.size ≤ gK ∧ True from ⟨by have := below_size HB.out; omega, trivial⟩); clear hbox hg_; have nHB_ := Aside0.mk (below_step HB.out hb); have nHM_ := Aside0.mk (HM.out.kept (grown_of_below hb none) (by simp)); clear HB HM hb; have HB := nHB_; have HM := nHM_; clear nHB_ nHM_; have hck0 := (blk_cell HXK.out 0).trans rfl; have HGKM := Aside0.mk (show gm ≠ gK by have := HGKM0.out; omega)) | ((with_reducible refine gate_store (t := 69) (p := 1) rfl ?_); have hfz_ := blk_frozen HXK.out 0; refine store_event (t := 69) (p := 1) (v := .tmp 3) (w1 := (w_.setCell ⟨gK, 0, none⟩ (.map (some gm)))) ?hg ?ho ?hn ?hr ?_; (case ho => rfl); (case hg => rfl); (case hn => rfl); (case hr => first | (go_simp; done) | (go_simp; rfl)); intro w2_ hw_; clear hfz_; have nHB_ := Aside0.mk ((below_set HB.out HGK.out.1 : Below w.heap.size w (w_.setCell ⟨gK, 0, none⟩ (.map (some gm))))); have nHM_ := Aside0.mk (HM.out.setCell (a := ⟨gK, 0, none⟩) (HGKM.out) (.map (some gm))); have nHXK_ := Aside0.mk (blk_put HXK.out 0 (.map (some gm)) rfl); replace nHB_ := nHB_.out; rw [← hw_] at nHB_; replace nHM_ := nHM_.out; rw [← hw_] at nHM_; replace nHXK_ := nHXK_.out; rw [← hw_] at nHXK_; (try clear hck0); clear hw_ HB HM HXK; have HB := Aside0.mk nHB_; have HM := Aside0.mk nHM_; have HXK := Aside0.mk nHXK_; clear nHB_ nHM_ nHXK_; have hck0 := (blk_cell HXK.out 0).trans rfl) | ((with_reducible refine gate_dst (N := 2) rfl ?_); refine box_event ?hg (N := 2) ?hd (cs := #[.nilFunc]) (t := 48) ?hr ?_; (case hd => rfl); (case hg => rfl); (case hr => first | (go_simp; done) | (go_simp; rfl)); intro gF hg_ w_ hbox hb; have HXF := Aside0.mk hbox; have HGFM0 := Aside0.mk (show gm < gF by have := HM.out.lt; omega); have HGF := Aside0.mk (show w.heap.size ≤ gF ∧ gK ≠ gF by have := below_size HB.out; have := blk_lt HXK.out; omega); (try clear hck0); clear hbox hg_; have nHB_ := Aside0.mk (below_step HB.out hb); have nHM_ := Aside0.mk (HM.out.kept (grown_of_below hb none) (by simp)); have nHXK_ := Aside0.mk (blk_below HXK.out hb); clear HB HM HXK hb; have HB := nHB_; have HM := nHM_; have HXK := nHXK_; clear nHB_ nHM_ nHXK_; have hck0 := (blk_cell HXK.out 0).trans rfl; have hcf0 := (blk_cell HXF.out 0).trans rfl; have HGFM := Aside0.mk (show gm ≠ gF by have := HGFM0.out; omega)) | ((with_reducible refine gate_store (t := 48) (p := 2) rfl ?_); have hfz_ := blk_frozen HXF.out 0; refine store_event (t := 48) (p := 2) (v := .tmp 4) (w1 := (w_.setCell ⟨gF, 0, none⟩ (.func (.func 58) #[] #[.pointer (some ⟨gK, 0, none⟩), .pointer (some ⟨gF, 0, none⟩)]))) ?hg ?ho ?hn ?hr ?_; (case ho => rfl); (case hg => rfl); (case hn => rfl); (case hr => first | (go_simp; done) | (go_simp; rfl)); intro w2_ hw_; clear hfz_; have nHB_ := Aside0.mk ((below_set HB.out HGF.out.1 : Below w.heap.size w (w_.setCell ⟨gF, 0, none⟩ (.func (.func 58) #[] #[.pointer (some ⟨gK, 0, none⟩), .pointer (some ⟨gF, 0, none⟩)])))); have nHM_ := Aside0.mk (HM.out.setCell (a := ⟨gF, 0, none⟩) (HGFM.out) (.func (.func 58) #[] #[.pointer (some ⟨gK, 0, none⟩), .pointer (some ⟨gF, 0, none⟩)])); have nHXK_ := Aside0.mk (blk_far (p := ⟨gF, 0, none⟩) HXK.out (show gK ≠ gF by have := HGF.out; omega) (.func (.func 58) #[] #[.pointer (some ⟨gK, 0, none⟩), .pointer (some ⟨gF, 0, none⟩)])); have nHXF_ := Aside0.mk (blk_put HXF.out 0 (.func (.func 58) #[] #[.pointer (some ⟨gK, 0, none⟩), .pointer (some ⟨gF, 0, none⟩)]) rfl); replace nHB_ := nHB_.out; rw [← hw_] at nHB_; replace nHM_ := nHM_.out; rw [← hw_] at nHM_; replace nHXK_ := nHXK_.out; rw [← hw_] at nHXK_; replace nHXF_ := nHXF_.out; rw [← hw_] at nHXF_; (try clear hck0); (try clear hcf0); clear hw_ HB HM HXK HXF; have HB := Aside0.mk nHB_; have HM := Aside0.mk nHM_; have HXK := Aside0.mk nHXK_; have HXF := Aside0.mk nHXF_; clear nHB_ nHM_ nHXK_ nHXF_; have hck0 := (blk_cell HXK.out 0).trans rfl; have hcf0 := (blk_cell HXF.out 0).trans rfl))
  go_ret
  exact ⟨gK, gF, gm, rfl, HB.out, HXK.out, HXF.out, ⟨_, HM.out, Memo.empty⟩, ⟨HGKM.out, HGFM.out⟩, HGM.out⟩
-- Boards that are played on, plain. emptyL isHexV isHexV_cells hex_small moverV chosenTo_all chosen_pair rd_get joinW decW (for 59)
theorem hex_setB {n : Nat} {l : List Int} (hv : isHexV (n : Int) l = true) (i : Nat) {v : Int} (h : v = 0 ∨ v = 1 ∨ v = 2) : isHexV (n : Int) (l.set i v) = true := by
  unfold isHexV at hv ⊢
  simp only [Bool.and_eq_true, Bool.not_eq_true'] at hv ⊢
  refine ⟨⟨hv.1.1, by rw [List.length_set]; exact hv.1.2⟩, ?_⟩
  rw [List.any_eq_false] at hv ⊢
  intro x hx
  rcases List.mem_or_eq_of_mem_set hx with h2 | h2
  · exact hv.2 x h2
  · subst h2
    rcases h with rfl | rfl | rfl <;> decide
theorem mover_cases {l : List Int} (h : moverV l ≠ 0) : (moverV l = 1 ∧ l.count 1 = l.count 2) ∨ (moverV l = 2 ∧ l.count 1 = l.count 2 + 1) := by
  unfold moverV at h ⊢
  by_cases h1 : l.count 1 = l.count 2
  · rw [if_pos h1]; exact .inl ⟨rfl, h1⟩
  · rw [if_neg h1] at h ⊢
    by_cases h2 : l.count 1 = l.count 2 + 1
    · rw [if_pos h2]; exact .inr ⟨rfl, h2⟩
    · rw [if_neg h2] at h; exact absurd rfl h
/-- A cell that is taken by the mover. -/
theorem board_child {n : Nat} {l : List Int} (hv : isHexV (n : Int) l = true) (hm : moverV l ≠ 0) {x : Int} (hx : x ∈ emptyL l) : isHexV (n : Int) (l.set x.toNat (moverV l)) = true ∧ moverV (l.set x.toNat (moverV l)) = 3 - moverV l ∧ (emptyL (l.set x.toNat (moverV l))).length + 1 = (emptyL l).length := by
  obtain ⟨h0, h1, h2⟩ := (chosen_pair (fun c => rd l c == 0) l.length).2 x hx
  have hi : x.toNat < l.length := by omega
  have hz : l[x.toNat] = 0 := by
    have h2 : rd l x = 0 := beq_iff_eq.1 h2
    have e : x = ((x.toNat : Nat) : Int) := by omega
    rw [e, rd_get l x.toNat hi] at h2
    exact h2
  have hc := fun (a b : Int) => List.count_set (a := a) (b := b) hi
  have hpos : 1 ≤ l.count 0 := List.count_pos_iff.2 (by rw [← hz]; exact List.getElem_mem hi)
  have e1 : (emptyL (l.set x.toNat (moverV l))).length = (l.set x.toNat (moverV l)).count 0 := chosenTo_all _ 0
  have e2 : (emptyL l).length = l.count 0 := chosenTo_all _ 0
  rcases mover_cases hm with ⟨hm, hq⟩ | ⟨hm, hq⟩
  · rw [hm] at e1 ⊢
    refine ⟨hex_setB hv _ (by omega), ?_, ?_⟩
    · unfold moverV
      rw [hc, hc, hz]
      simp
      omega
    · rw [e1, e2, hc, hz]
      simp
      omega
  · rw [hm] at e1 ⊢
    refine ⟨hex_setB hv _ (by omega), ?_, ?_⟩
    · unfold moverV
      rw [hc, hc, hz]
      simp
      omega
    · rw [e1, e2, hc, hz]
      simp
      omega
theorem join_flat : ∀ xs : List (List UInt8), Lib.join xs [] = xs.flatten
  | [] => by simp [Lib.join]
  | [a] => by simp [Lib.join]
  | a :: b :: r => by
    have ih := join_flat (b :: r)
    have e : Lib.join (a :: b :: r) [] = a ++ Lib.join (b :: r) [] := by simp [Lib.join, List.intercalate, List.intersperse]
    rw [e, ih]
    simp
theorem dec_cell {x : Int} (h : x = 0 ∨ x = 1 ∨ x = 2) : (decW x).data.toList = [UInt8.ofNat (48 + x.toNat)] := by
  rcases h with rfl | rfl | rfl <;> (unfold decW; rw [Lib.decDigits]; rfl)
theorem join_cells : ∀ l : List Int, (∀ x ∈ l, x = 0 ∨ x = 1 ∨ x = 2) → (joinW l ⟨#[]⟩).data.toList = l.map fun x => UInt8.ofNat (48 + x.toNat) := fun l h => by
  have e : (joinW l ⟨#[]⟩).data.toList = Lib.join ((l.map decW).map (·.data.toList)) [] := by simp [joinW]
  rw [e, join_flat, List.map_map]
  induction l with
  | nil => rfl
  | cons a r ih =>
    rw [List.map_cons, List.flatten_cons, List.map_cons, ih (fun x hx => h x (List.mem_cons_of_mem _ hx)) (by simp [joinW])]
    show (decW a).data.toList ++ _ = _
    rw [dec_cell (h a (List.mem_cons_self ..))]
    rfl
theorem map_inj_cells : ∀ l l' : List Int, (∀ x ∈ l, x = 0 ∨ x = 1 ∨ x = 2) → (∀ x ∈ l', x = 0 ∨ x = 1 ∨ x = 2) → (l.map fun x => UInt8.ofNat (48 + x.toNat)) = (l'.map fun x => UInt8.ofNat (48 + x.toNat)) → l = l'
  | [], [], _, _, _ => rfl
  | [], _ :: _, _, _, h => by simp at h
  | _ :: _, [], _, _, h => by simp at h
  | a :: r, b :: r', h1, h2, h => by
    rw [List.map_cons, List.map_cons] at h
    injection h with h3 h4
    have ih := map_inj_cells r r' (fun x hx => h1 x (List.mem_cons_of_mem _ hx)) (fun x hx => h2 x (List.mem_cons_of_mem _ hx)) h4
    have e : a = b := by
      rcases h1 a (List.mem_cons_self ..) with rfl | rfl | rfl <;> rcases h2 b (List.mem_cons_self ..) with rfl | rfl | rfl <;> first | rfl | (exact absurd h3 (by decide))
    rw [e, ih]
theorem key_inj {n : Nat} {l l' : List Int} (hv : isHexV (n : Int) l = true) (hv' : isHexV (n : Int) l' = true) (h : joinW l ⟨#[]⟩ = joinW l' ⟨#[]⟩) : l = l' := by
  have h1 := (isHexV_cells hv).2.2.2
  have h2 := (isHexV_cells hv').2.2.2
  have := congrArg (fun s : ByteArray => s.data.toList) h
  rw [join_cells l h1, join_cells l' h2] at this
  exact map_inj_cells l l' h1 h2 this
theorem key_size {n : Nat} {l : List Int} (hv : isHexV (n : Int) l = true) : (joinW l ⟨#[]⟩).size = l.length := by
  rw [Lib.size_eq, join_cells l (isHexV_cells hv).2.2.2, List.length_map]
theorem key_joined {n : Nat} {l : List Int} (hv : isHexV (n : Int) l = true) : impl_joined.f l ⟨#[]⟩ = some (joinW l ⟨#[]⟩) ∧ (joinW l ⟨#[]⟩).size ≤ maxLen := by
  have h64 := hex_small hv
  obtain ⟨h1, h8, hl, hx⟩ := isHexV_cells hv
  have hs := key_size hv
  have h1l : 1 ≤ l.length := by
    have : (1 : Int) ≤ (n : Int) * (n : Int) := by
      have := Int.mul_le_mul h1 h1 (by omega) (by omega : (0 : Int) ≤ n)
      simpa using this
    omega
  refine ⟨?_, by rw [hs]; unfold maxLen; omega⟩
  unfold impl_joined.f
  rw [if_pos ⟨h1l, by omega, fun x hx2 => by have := hx x hx2; omega, by rw [hs]; omega⟩]
-- What the finder reckons, as a function. HexVal OkB hexWinF hexEnd hexAny hexAny_some board_child mover_cases key_inj key_joined emptyL (for 36)
def winP (k : Nat) (n : Nat) (l : List Int) : Prop := ∃ v, hexWinF k (n : Int) (emptyL l).length l = some v
def winV (k : Nat) (n : Nat) (l : List Int) : Int := (hexWinF k (n : Int) (emptyL l).length l).getD 0
theorem any_congr_ {p q : Int → Bool} : ∀ l : List Int, (∀ x ∈ l, p x = q x) → l.any p = l.any q
  | [], _ => rfl
  | a :: r, h => by rw [List.any_cons, List.any_cons, h a (List.mem_cons_self ..), any_congr_ r (fun x hx => h x (List.mem_cons_of_mem _ hx))]
theorem winP_child {k n d : Nat} {l : List Int} (hv : isHexV (n : Int) l = true) (hm : moverV l ≠ 0) (hd : (emptyL l).length = d + 1) (hP : winP k n l) :
    (∀ x ∈ emptyL l, winP k n (l.set x.toNat (moverV l))) ∧ winV k n l = if (emptyL l).any (fun x => winV k n (l.set x.toNat (moverV l)) == moverV l) = true then moverV l else 3 - moverV l := by
  obtain ⟨v, hv2⟩ := hP
  have hlen : ∀ x ∈ emptyL l, (emptyL (l.set x.toNat (moverV l))).length = d := fun x hx => by
    have := (board_child hv hm hx).2.2
    omega
  unfold winV
  rw [hv2]
  rw [hd, hexWinF] at hv2
  obtain ⟨b, hb, hv2⟩ := Option.bind_eq_some_iff.1 hv2
  obtain ⟨h1, h2⟩ := hexAny_some hb
  refine ⟨fun x hx => ?_, ?_⟩
  · obtain ⟨u, hu⟩ := h1 x hx
    exact ⟨u, by rw [hlen x hx]; exact hu⟩
  · have e : ((emptyL l).any fun x => (hexWinF k (n : Int) (emptyL (l.set x.toNat (moverV l))).length (l.set x.toNat (moverV l))).getD 0 == moverV l) = (emptyL l).any fun x => (hexWinF k (n : Int) d (l.set x.toNat (moverV l))).getD 0 == moverV l := by
      refine any_congr_ _ (fun x hx => ?_)
      rw [hlen x hx]
    rw [e, ← h2]
    exact (Option.some.inj hv2).symm
theorem hexVal_of (k n : Nat) : HexVal n (winP k n) (fun l => (hexEnd k (n : Int) l).getD 0) (winV k n) where
  join := fun l hv ok he => by
    obtain ⟨v, hv2⟩ := ok.2
    rw [he] at hv2
    have hv2 : hexEnd k (n : Int) l = some v := hv2
    rw [hv2]
    unfold hexEnd at hv2
    obtain ⟨u, hu, h⟩ := Option.bind_eq_some_iff.1 hv2
    split at h
    · exact ⟨k, by rw [hu]; exact h⟩
    · cases h
  small := fun l hv ok => by
    have hm := mover_cases ok.1
    cases hd : (emptyL l).length with
    | zero =>
      obtain ⟨v, hv2⟩ := ok.2
      unfold winV
      rw [hv2]
      rw [hd] at hv2
      have hv2 : hexEnd k (n : Int) l = some v := hv2
      unfold hexEnd at hv2
      obtain ⟨u, hu, h⟩ := Option.bind_eq_some_iff.1 hv2
      split at h
      · rename_i hu2
        cases h
        exact hu2
      · cases h
    | succ d =>
      rw [(winP_child hv ok.1 hd ok.2).2]
      split <;> omega
  full := fun l hv ok he => by
    unfold winV
    rw [he]
    rfl
  step := fun l hv ok he => by
    cases hd : (emptyL l).length with
    | zero => exact absurd (List.eq_nil_of_length_eq_zero hd) he
    | succ d => exact (winP_child hv ok.1 hd ok.2).2
  key := fun l l' h1 h2 h => key_inj h1 h2 h
  joined := fun l h => key_joined h
  child := fun l x hv ok hx => by
    obtain ⟨a, b, c⟩ := board_child hv ok.1 hx
    cases hd : (emptyL l).length with
    | zero => rw [List.eq_nil_of_length_eq_zero hd] at hx; simp at hx
    | succ d => exact ⟨a, ⟨by rw [b]; rcases mover_cases ok.1 with ⟨h, _⟩ | ⟨h, _⟩ <;> rw [h] <;> decide, (winP_child hv ok.1 hd ok.2).1 x hx⟩, by rw [← hd]; exact c⟩
/-! ### impl_HexWinner: function 9 -/
-- EXTERNAL: by hand
-- impl_hexCode impl_hexWins winP winV hexVal_of hfind_all eg_hfind HWEnv isHexV_cells hexCnt goesF_
theorem hexCnt9 {d : Nat} (h : d ≤ 9) : 0 + hexCnt d < maxLen := by
  have : ∀ d : Fin 10, 0 + hexCnt d.val < maxLen := by decide +kernel
  exact this ⟨d, by omega⟩
def hexOk (s : Int) (l : List Int) : Prop := isHexV s l = true ∧ moverV l ≠ 0 ∧ (emptyL l).length ≤ 9
instance (s : Int) (l : List Int) : Decidable (hexOk s l) := by unfold hexOk; exact inferInstance
def impl_HexWinner.f (k : Nat) (s : Int) (l : List Int) : Option (Int × Int) := (impl_hexCode.f s l).bind fun c => if c = 0 then (if hexOk s l then (hexWinF k s (emptyL l).length l).bind fun v => some (v, 0) else none) else some (0, c)
def impl_HexWinner.T4 : Bool × List (List Nat × List Nat) := (true, [([], []), ([], []), ([0, 1, 0], [0, 1]), ([2, 2, 0, 1, 2], [2]), ([3, 0, 1, 2, 3], [])])
def impl_HexWinner.B4 : List Nat := [0, 0, 3, 7, 15]
theorem impl_HexWinner.tab4 : rtab .any (opsOf Tryd.f9 4) = impl_HexWinner.T4 := by kernel_rfl
theorem impl_HexWinner.bits4 : waitsOk impl_HexWinner.T4.2 impl_HexWinner.B4 = true := by kernel_rfl
set_option maxHeartbeats 4000000 in
set_option maxRecDepth 100000 in
theorem impl_HexWinner.calls (k : Nat) (a0 : Int) (A : Option Addr) (c : Nat) (l : List Int) (r1 r2 : Int) (w : World) (hr0 : Kd.C (Kd.int .i64) w A l.length l) (hc0 : l.length ≤ c) (h : impl_HexWinner.f k a0 l = some (r1, r2)) :
    Calls Tryd.prog 9 #[.agg #[.int .i64 a0, .slice A l.length c]] w fun e w' => e = .returned (.tuple #[.int .i64 r1, .int .i64 r2]) ∧ Below w.heap.size w w' := by
  unfold impl_HexWinner.f at h
  obtain ⟨cd, hcd, h⟩ := Option.bind_eq_some_iff.1 h
  have HCD := Aside0.mk hcd
  have HA := Aside0.mk hr0
  have HC := Aside0.mk hc0
  have HB := Aside0.mk (Below.refl w.heap.size w)
  have hu := Tryd.underlying28
  clear hr0 hc0 hcd
  by_cases hz : cd = 0
  · subst hz
    rw [if_pos rfl] at h
    split at h
    case isFalse => cases h
    rename_i hok
    obtain ⟨v, hv, h⟩ := Option.bind_eq_some_iff.1 h
    simp only [Option.some.injEq, Prod.mk.injEq] at h
    obtain ⟨rfl, rfl⟩ := h
    obtain ⟨o1, o2, o3⟩ := hok
    obtain ⟨n, rfl⟩ : ∃ n : Nat, a0 = (n : Int) := ⟨a0.toNat, by have := (isHexV_cells o1).1; omega⟩
    have HOK := Aside0.mk (show isHexV (n : Int) l = true ∧ OkB (winP k n) l from ⟨o1, o2, v, hv⟩)
    have HWV := Aside0.mk (show winV k n l = v by unfold winV; rw [hv]; rfl)
    have HNB := Aside0.mk (hexCnt9 o3)
    clear o1 o2 o3 hv
    go_enter Tryd.func9, Tryd.ntmps9
    go_wp2_with (first | ((with_reducible refine gate_dst (N := 1) rfl ?_); refine box_event ?hg (N := 1) ?hd (cs := #[.int .i64 (n : Int), .slice A l.length c]) (t := 28) ?hr ?_; (case hd => rfl); (case hg => rfl); (case hr => first | (go_simp; done) | (go_simp; rfl)); intro g1 hg_ w_ hbox hb; have HX1 := Aside0.mk hbox; have HG1 := Aside0.mk (show w.heap.size ≤ g1 by have := below_size HB.out; omega); clear hbox hg_; have nHB_ := Aside0.mk (below_step HB.out hb); clear HB hb; have HB := nHB_; clear nHB_; have hc10 := (blk_cell HX1.out 0).trans rfl; have hc11 := (blk_cell HX1.out 1).trans rfl) | (go_at_call 35; refine (impl_hexCode.calls (n : Int) A c l 0 _ (Kd.C_below HA.out HB.out) HC.out HCD.out).mono ?_; rintro e w_ ⟨rfl, hb⟩; (try clear hc10); (try clear hc11); have nHB_ := Aside0.mk (below_step HB.out hb); have nHX1_ := Aside0.mk (blk_below HX1.out hb); clear HB HX1 hb; have HB := nHB_; have HX1 := nHX1_; clear nHB_ nHX1_; have hc10 := (blk_cell HX1.out 0).trans rfl; have hc11 := (blk_cell HX1.out 1).trans rfl))
    have n1_ := Aside0.mk (blk_drew HX1.out)
    have nb_ := Aside0.mk (below_drew1 HB.out)
    clear HX1 HB hc10 hc11
    refine start_ (n := 5) (S := fun w' => w'.cell? ⟨g1, 0, none⟩ = some (.int .i64 (n : Int)) ∧ w'.cell? ⟨g1, 1, none⟩ = some (.slice A l.length c)) (ds := []) #[false, false, false, false, false] (by kernel_rfl) rfl rfl ⟨(blk_cell n1_.out 0).trans rfl, (blk_cell n1_.out 1).trans rfl⟩ (fun hHeld => ?_)
    refine with_tabW impl_HexWinner.tab4 impl_HexWinner.bits4 (fun HT_ HW_ => ?_)
    generalize hq_ : w_.drew = wd_ at n1_ nb_ hHeld ⊢
    clear hq_
    refine take_ (i := 1) (N := some 11) (v := ?_) (a' := ?_) #[false, true, false, false, false] rfl rfl (take_ofW HT_.out HW_.out (by kernel_rfl)) (fun _ _ _ h => h) (Or.inl ⟨by rfl, ?_⟩) hHeld ?_ ?_
    rotate_left
    · rintro w' ⟨s0_, s1_⟩
      go_simp
      with_reducible rfl
    rotate_left
    · simp only [Act.put, sz_, s0_, s1_, i64_w, i32_w]
      rfl
    refine one_ (i := 0) (N := some 10) #[true, true, false, false, false] rfl rfl (one_of HT_.out (by kernel_rfl)) (by decide) (fun K hK => ?_)
    refine goes_ Tryd.func36 (by kernel_rfl) rfl #[] (by rfl) rfl rfl (by (try simp only [List.map_toArray, List.map_cons, List.map_nil]); first | done | rfl) ?_
    refine (impl_hexWins.calls n (winP k n) (winV k n) wd_).mono ?_
    rintro e wa_ ⟨gK, gF, gm, rfl, hE⟩
    refine ⟨_, rfl, ?_⟩
    have HE1 := Aside0.mk hE
    have HX2 := Aside0.mk (blk_below n1_.out hE.below)
    have HA2 := Aside0.mk (Kd.C_below HA.out (below_step nb_.out hE.below))
    have HLT := Aside0.mk (show g1 < gm by have := blk_lt n1_.out; have := hE.base; omega)
    have HSZ := Aside0.mk (below_size nb_.out)
    clear hE n1_
    refine hK.out _ _ ⟨(blk_cell HX2.out 0).trans rfl, (blk_cell HX2.out 1).trans rfl⟩ (fun hHeld => ?_)
    clear hK K
    refine norm_ (a' := ?_) ?_ ?_
    rotate_left
    · show Act.put _ (some 10) _ = _
      simp only [Act.put, sz_, s0_, s1_, i64_w, i32_w]
      rfl
    refine one_ (i := 2) (N := some 12) #[true, true, true, false, false] rfl rfl (one_of HT_.out (by kernel_rfl)) (by decide) (fun K hK => ?_)
    refine goesF_ (x := .tmp 10) (lb := #[.pointer (some ⟨gK, 0, none⟩), .pointer (some ⟨gF, 0, none⟩)]) eg_hfind #[.agg #[.int .i64 (n : Int), .slice A l.length c]] (by rfl) rfl rfl rfl (by (try simp only [List.map_toArray, List.map_cons, List.map_nil]); first | done | rfl) ?_
    refine (hfind_all wd_ gK gF gm n _ _ _ (hexVal_of k n) (emptyL l).length l A c 0 _ HOK.out.1 HOK.out.2 (Nat.le_refl _) HA2.out HC.out HE1.out HNB.out).mono ?_
    rintro e wb_ ⟨rfl, hE2, hG2⟩
    refine ⟨_, rfl, ?_⟩
    have HX3 := Aside0.mk (blk_grownB HX2.out hG2 (by have := HLT.out; omega))
    have HB4 := Aside0.mk (below_step nb_.out hE2.below)
    clear hE2 hG2 HX2 HE1 HA2
    refine hK.out _ _ ⟨(blk_cell HX3.out 0).trans rfl, (blk_cell HX3.out 1).trans rfl⟩ (fun hHeld => ?_)
    clear hK K
    refine norm_ (a' := ?_) ?_ ?_
    rotate_left
    · show Act.put _ (some 12) _ = _
      simp only [Act.put, sz_, s0_, s1_, i64_w, i32_w]
      rfl
    refine pure_ (i := 3) (N := some 2) (v := ?_) (a' := ?_) #[true, true, true, true, false] rfl rfl (any_of HT_.out (by kernel_rfl)) (fun _ _ _ h => h) (Or.inl ⟨by rfl, ?_⟩) ?_ ?_
    rotate_left
    · intro w'
      go_simp
      with_reducible rfl
    rotate_left
    · simp only [Act.put, sz_, s0_, s1_, i64_w, i32_w]
      rfl
    refine pure_ (i := 4) (N := some 3) (v := ?_) (a' := ?_) #[true, true, true, true, true] rfl rfl (any_of HT_.out (by kernel_rfl)) (fun _ _ _ h => h) (Or.inl ⟨by rfl, ?_⟩) ?_ ?_
    rotate_left
    · intro w'
      go_simp
      with_reducible rfl
    rotate_left
    · simp only [Act.put, sz_, s0_, s1_, i64_w, i32_w]
      rfl
    refine done_ (done_of HT_.out (by kernel_rfl)) ?_
    go_wp2_with fail
    go_ret2
    exact ⟨by rw [← HWV.out]; rfl, HB4.out⟩
  · rw [if_neg hz] at h
    simp only [Option.some.injEq, Prod.mk.injEq] at h
    obtain ⟨rfl, rfl⟩ := h
    have hcz : (cd != 0) = true := bne_iff_ne.mpr hz
    clear hz
    go_enter Tryd.func9, Tryd.ntmps9
    go_wp2_with (first | ((with_reducible refine gate_dst (N := 1) rfl ?_); refine box_event ?hg (N := 1) ?hd (cs := #[.int .i64 a0, .slice A l.length c]) (t := 28) ?hr ?_; (case hd => rfl); (case hg => rfl); (case hr => first | (go_simp; done) | (go_simp; rfl)); intro g1 hg_ w_ hbox hb; have HX1 := Aside0.mk hbox; have HG1 := Aside0.mk (show w.heap.size ≤ g1 by have := below_size HB.out; omega); clear hbox hg_; have nHB_ := Aside0.mk (below_step HB.out hb); clear HB hb; have HB := nHB_; clear nHB_; have hc10 := (blk_cell HX1.out 0).trans rfl; have hc11 := (blk_cell HX1.out 1).trans rfl) | (go_at_call 35; refine (impl_hexCode.calls a0 A c l _ _ (Kd.C_below HA.out HB.out) HC.out HCD.out).mono ?_; rintro e w_ ⟨rfl, hb⟩; (try clear hc10); (try clear hc11); have nHB_ := Aside0.mk (below_step HB.out hb); have nHX1_ := Aside0.mk (blk_below HX1.out hb); clear HB HX1 hb; have HB := nHB_; have HX1 := nHX1_; clear nHB_ nHX1_; have hc10 := (blk_cell HX1.out 0).trans rfl; have hc11 := (blk_cell HX1.out 1).trans rfl))
    go_ret2
    exact ⟨rfl, HB.out⟩
/-! ### laws_FnExactHexWinner: function 3 -/
def laws_FnExactHexWinner.j0 : Nat → Bool → Int → List Int → Int → List Int → Option (Bool)
 | 0, _, _, _, _, _ => none
 | k + 1, x34, x279000, x279001, x291000, x291001 => if x34 = true then (some false) else ((laws_toHex.f k x279000 x279001).bind fun bt293 => ((laws_eqHex.f k x291000 x291001 bt293.1 bt293.2).bind fun t297 => (if t297 = true then (some true) else (some false))))
def laws_FnExactHexWinner.f (k : Nat) (a0_0 : Int) (l0_1 : List Int) : Option (Bool) := (laws_szHex.f a0_0 l0_1 1048576).bind fun t279 => (if t279 < 0 then (some true) else ((laws_toHex.f k a0_0 l0_1).bind fun bt280 => ((spec_HexWinner.f k bt280.1 bt280.2).bind fun bt284 => ((laws_toHex.f k a0_0 l0_1).bind fun bt286 => ((impl_HexWinner.f k bt286.1 bt286.2).bind fun bt291 => (if bt291.1 = bt284.1 then (laws_FnExactHexWinner.j0 k (bt291.2 != bt284.2) a0_0 l0_1 bt286.1 bt286.2) else (laws_FnExactHexWinner.j0 k true a0_0 l0_1 bt286.1 bt286.2)))))))
set_option maxHeartbeats 8000000 in
set_option maxRecDepth 100000 in
theorem laws_FnExactHexWinner.calls (k : Nat) (a0_0 : Int) (A0_1 : Option Addr) (c0_1 : Nat) (l0_1 : List Int) (r : Bool) (w : World) (hr0_1 : Kd.C (Kd.int .i64) w A0_1 l0_1.length l0_1) (hc0_1 : l0_1.length ≤ c0_1) (h : laws_FnExactHexWinner.f k a0_0 l0_1 = some true) :
  Calls Tryd.prog 3 #[.agg #[.int .i64 a0_0, .slice A0_1 l0_1.length c0_1]] w fun e w' => e = .returned (.bool true) ∧ Below w.heap.size w w' := by
 have hu24 := Tryd.underlying24
 have hu28 := Tryd.underlying28
 have HR0_1 := Aside0.mk hr0_1
 have HC0_1 := Aside0.mk hc0_1
 clear hr0_1 hc0_1
 have HB := Aside0.mk (Below.refl w.heap.size w)
 have H : ((laws_szHex.f a0_0 l0_1 1048576).bind fun t279 => (if t279 < 0 then (some true) else ((laws_toHex.f k a0_0 l0_1).bind fun bt280 => ((spec_HexWinner.f k bt280.1 bt280.2).bind fun bt284 => ((laws_toHex.f k a0_0 l0_1).bind fun bt286 => ((impl_HexWinner.f k bt286.1 bt286.2).bind fun bt291 => (if bt291.1 = bt284.1 then (laws_FnExactHexWinner.j0 k (bt291.2 != bt284.2) a0_0 l0_1 bt286.1 bt286.2) else (laws_FnExactHexWinner.j0 k true a0_0 l0_1 bt286.1 bt286.2)))))))) = some true := h
 clear h
 replace H := Option.bind_eq_some_iff.mp H
 obtain ⟨t279, A20, H⟩ := H
 replace H : (if t279 < 0 then (some true) else ((laws_toHex.f k a0_0 l0_1).bind fun bt280 => ((spec_HexWinner.f k bt280.1 bt280.2).bind fun bt284 => ((laws_toHex.f k a0_0 l0_1).bind fun bt286 => ((impl_HexWinner.f k bt286.1 bt286.2).bind fun bt291 => (if bt291.1 = bt284.1 then (laws_FnExactHexWinner.j0 k (bt291.2 != bt284.2) a0_0 l0_1 bt286.1 bt286.2) else (laws_FnExactHexWinner.j0 k true a0_0 l0_1 bt286.1 bt286.2))))))) = some true := H
 have A2 := Aside0.mk A20
 clear A20
 by_cases c3 : t279 < 0
 ·rw [if_pos c3] at H
  have c3b0 : decide (t279 < 0) = true := decide_eq_true c3
  clear c3
  clear H
  go_enter Tryd.func3, Tryd.ntmps3
  go_wp2_with (first | ((with_reducible refine gate_dst (N := 1) rfl ?_); refine box_event ?hg (N := 1) ?hd (cs := #[.int .i64 a0_0, .slice A0_1 l0_1.length c0_1]) (t := 24) ?hr ?_; (case hd => rfl); (case hg => rfl); (case hr => first | (go_simp; done) | (go_simp; rfl)); intro gb278 hg w4 hbox hb; have n0_ := Aside0.mk (below_step hb_ hb); have n1_ := Aside0.mk (hbox); have n2_ := Aside0.mk ((by rw [hg]; exact (below_size hb_) : w.heap.size ≤ gb278)); have n3_ := Aside0.mk ((by rw [hg]; exact (below_size hb_) : w.heap.size ≤ gb278)); clear HB; have HB := n0_; have BK278 := n1_; have GW278 := n2_; have GE278 := n3_; clear n0_ n1_ n2_ n3_; clear hb hbox hg; have hcz5_0 : w4.cell? ⟨gb278, 0, none⟩ = some (.int .i64 a0_0) := (blk_cell BK278.out 0).trans rfl; have hcz5_1 : w4.cell? ⟨gb278, 1, none⟩ = some (.slice A0_1 l0_1.length c0_1) := (blk_cell BK278.out 1).trans rfl; have hfz5_0 := blk_frozen BK278.out 0; have hfz5_1 := blk_frozen BK278.out 1) | ((with_reducible refine gate_callee (f := 6) rfl ?_); refine goesA_ (some 11) rfl rfl Tryd.func6 (by kernel_rfl) rfl #[.agg #[.int .i64 a0_0, .slice A0_1 l0_1.length c0_1], .int .i64 1048576] rfl ?_; (with_reducible refine (laws_szHex.calls a0_0 _ _ l0_1 1048576 t279 _ ?side1 ?side2 A2.out).mono ?_); (case side1 => repeat (first | exact (Kd.C_below HR0_1.out HB.out) | (with_reducible refine Kd.C_alloc ?_ _) | (with_reducible refine Kd.C_drewN ?_ _) | (with_reducible refine Kd.C_drew ?_))); (case side2 => exact HC0_1.out); rintro e w6 ⟨rfl, hb⟩; refine ⟨_, rfl, ?_⟩; have n0_ := Aside0.mk (blk_below (g := gb278) (o := .cells #[.int .i64 a0_0, .slice A0_1 l0_1.length c0_1] 24 (0, 0)) (by (with_reducible repeat (first | refine blk_drewN ?_ _ | refine blk_drew ?_ | refine blk_alloc ?_ _)); exact BK278.out) hb); have n1_ := Aside0.mk (below_step (by repeat (first | (with_reducible first | exact HB.out | apply below_alloc | apply pw_below_drewN | apply below_drew1 | refine below_set ?_ GE278.out) | exact HB.out)) hb); clear BK278; clear HB; have BK278 := n0_; have HB := n1_; clear n0_ n1_; (try clear hb); (try clear hb2); (try clear hk); (try clear hi)))
  go_ret
  exact ⟨by first | rfl | (simp [errW_none, errW_some] <;> rfl) | (simp [*, errW_none, errW_some] <;> rfl), by repeat (first | (with_reducible first | exact HB.out | apply below_alloc | apply pw_below_drewN | apply below_drew1 | refine below_set ?_ GE278.out) | exact HB.out)⟩
 ·rw [if_neg c3] at H
  have c3b0 : decide (t279 < 0) = false := decide_eq_false c3
  clear c3
  replace H := Option.bind_eq_some_iff.mp H
  obtain ⟨⟨t280, t281⟩, A70, H⟩ := H
  replace H : ((spec_HexWinner.f k t280 t281).bind fun bt284 => ((laws_toHex.f k a0_0 l0_1).bind fun bt286 => ((impl_HexWinner.f k bt286.1 bt286.2).bind fun bt291 => (if bt291.1 = bt284.1 then (laws_FnExactHexWinner.j0 k (bt291.2 != bt284.2) a0_0 l0_1 bt286.1 bt286.2) else (laws_FnExactHexWinner.j0 k true a0_0 l0_1 bt286.1 bt286.2))))) = some true := H
  have A7 := Aside0.mk A70
  clear A70
  replace H := Option.bind_eq_some_iff.mp H
  obtain ⟨⟨t284, t285⟩, A80, H⟩ := H
  replace H : ((laws_toHex.f k a0_0 l0_1).bind fun bt286 => ((impl_HexWinner.f k bt286.1 bt286.2).bind fun bt291 => (if bt291.1 = t284 then (laws_FnExactHexWinner.j0 k (bt291.2 != t285) a0_0 l0_1 bt286.1 bt286.2) else (laws_FnExactHexWinner.j0 k true a0_0 l0_1 bt286.1 bt286.2)))) = some true := H
  have A8 := Aside0.mk A80
  clear A80
  replace H := Option.bind_eq_some_iff.mp H
  obtain ⟨⟨t286, t287⟩, A90, H⟩ := H
  replace H : ((impl_HexWinner.f k t286 t287).bind fun bt291 => (if bt291.1 = t284 then (laws_FnExactHexWinner.j0 k (bt291.2 != t285) a0_0 l0_1 t286 t287) else (laws_FnExactHexWinner.j0 k true a0_0 l0_1 t286 t287))) = some true := H
  have A9 := Aside0.mk A90
  clear A90
  replace H := Option.bind_eq_some_iff.mp H
  obtain ⟨⟨t291, t292⟩, A100, H⟩ := H
  replace H : (if t291 = t284 then (laws_FnExactHexWinner.j0 k (t292 != t285) a0_0 l0_1 t286 t287) else (laws_FnExactHexWinner.j0 k true a0_0 l0_1 t286 t287)) = some true := H
  have A10 := Aside0.mk A100
  clear A100
  have HC11 := Aside0.mk H
  clear H
  go_enter Tryd.func3, Tryd.ntmps3
  go_upto_region 8 with (first | ((with_reducible refine gate_dst (N := 1) rfl ?_); refine box_event ?hg (N := 1) ?hd (cs := #[.int .i64 a0_0, .slice A0_1 l0_1.length c0_1]) (t := 24) ?hr ?_; (case hd => rfl); (case hg => rfl); (case hr => first | (go_simp; done) | (go_simp; rfl)); intro gb278 hg w12 hbox hb; have n0_ := Aside0.mk (below_step hb_ hb); have n1_ := Aside0.mk (hbox); have n2_ := Aside0.mk ((by rw [hg]; exact (below_size hb_) : w.heap.size ≤ gb278)); have n3_ := Aside0.mk ((by rw [hg]; exact (below_size hb_) : w.heap.size ≤ gb278)); clear HB; have HB := n0_; have BK278 := n1_; have GW278 := n2_; have GE278 := n3_; clear n0_ n1_ n2_ n3_; clear hb hbox hg; have hcz13_0 : w12.cell? ⟨gb278, 0, none⟩ = some (.int .i64 a0_0) := (blk_cell BK278.out 0).trans rfl; have hcz13_1 : w12.cell? ⟨gb278, 1, none⟩ = some (.slice A0_1 l0_1.length c0_1) := (blk_cell BK278.out 1).trans rfl; have hfz13_0 := blk_frozen BK278.out 0; have hfz13_1 := blk_frozen BK278.out 1) | ((with_reducible refine gate_callee (f := 6) rfl ?_); refine goesA_ (some 11) rfl rfl Tryd.func6 (by kernel_rfl) rfl #[.agg #[.int .i64 a0_0, .slice A0_1 l0_1.length c0_1], .int .i64 1048576] rfl ?_; (with_reducible refine (laws_szHex.calls a0_0 _ _ l0_1 1048576 t279 _ ?side1 ?side2 A2.out).mono ?_); (case side1 => repeat (first | exact (Kd.C_below HR0_1.out HB.out) | (with_reducible refine Kd.C_alloc ?_ _) | (with_reducible refine Kd.C_drewN ?_ _) | (with_reducible refine Kd.C_drew ?_))); (case side2 => exact HC0_1.out); rintro e w14 ⟨rfl, hb⟩; refine ⟨_, rfl, ?_⟩; have n0_ := Aside0.mk (blk_below (g := gb278) (o := .cells #[.int .i64 a0_0, .slice A0_1 l0_1.length c0_1] 24 (0, 0)) (by (with_reducible repeat (first | refine blk_drewN ?_ _ | refine blk_drew ?_ | refine blk_alloc ?_ _)); exact BK278.out) hb); have n1_ := Aside0.mk (below_step (by repeat (first | (with_reducible first | exact HB.out | apply below_alloc | apply pw_below_drewN | apply below_drew1 | refine below_set ?_ GE278.out) | exact HB.out)) hb); clear BK278; clear HB; have BK278 := n0_; have HB := n1_; clear n0_ n1_; (try clear hb); (try clear hb2); (try clear hk); (try clear hi); have hcz15_0 : w14.cell? ⟨gb278, 0, none⟩ = some (.int .i64 a0_0) := (blk_cell BK278.out 0).trans rfl; have hcz15_1 : w14.cell? ⟨gb278, 1, none⟩ = some (.slice A0_1 l0_1.length c0_1) := (blk_cell BK278.out 1).trans rfl; have hfz15_0 := blk_frozen BK278.out 0; have hfz15_1 := blk_frozen BK278.out 1) | ((with_reducible refine gate_callee (f := 8) rfl ?_); refine goesA_ (some 16) rfl rfl Tryd.func8 (by kernel_rfl) rfl #[.agg #[.int .i64 a0_0, .slice A0_1 l0_1.length c0_1]] rfl ?_; (with_reducible refine (laws_toHex.calls k a0_0 _ _ l0_1 t280 t281 _ ?side1 ?side2 A7.out).mono ?_); (case side1 => repeat (first | exact (Kd.C_below HR0_1.out HB.out) | (with_reducible refine Kd.C_alloc ?_ _) | (with_reducible refine Kd.C_drewN ?_ _) | (with_reducible refine Kd.C_drew ?_))); (case side2 => exact HC0_1.out); rintro e w16 ⟨v282, rfl, ho0, hb⟩; refine ⟨_, rfl, ?_⟩; have n0_ := Aside0.mk (Kd.R_lower ho0 (below_size (by repeat (first | (with_reducible first | exact HB.out | apply below_alloc | apply pw_below_drewN | apply below_drew1 | refine below_set ?_ GE278.out) | exact HB.out)))); have n1_ := Aside0.mk (blk_below (g := gb278) (o := .cells #[.int .i64 a0_0, .slice A0_1 l0_1.length c0_1] 24 (0, 0)) (by (with_reducible repeat (first | refine blk_drewN ?_ _ | refine blk_drew ?_ | refine blk_alloc ?_ _)); exact BK278.out) hb); have n2_ := Aside0.mk (below_step (by repeat (first | (with_reducible first | exact HB.out | apply below_alloc | apply pw_below_drewN | apply below_drew1 | refine below_set ?_ GE278.out) | exact HB.out)) hb); clear BK278; clear HB; have HO283 := n0_; have BK278 := n1_; have HB := n2_; clear n0_ n1_ n2_; (try clear hb); (try clear hb2); (try clear hk); (try clear hi); (try clear ho0); obtain ⟨Ao17, co17, eo17⟩ := Kd.R_slice HO283.out; subst eo17) | ((with_reducible refine gate_callee (f := 7) rfl ?_); refine goesA_ (some 17) rfl rfl Tryd.func7 (by kernel_rfl) rfl #[.agg #[.int .i64 t280, .slice Ao17 t281.length co17]] rfl ?_; (with_reducible refine (spec_HexWinner.calls k t280 _ _ t281 t284 t285 _ ?side1 ?side2 A8.out).mono ?_); (case side1 => repeat (first | exact (Kd.R_reads' HO283.out).2.2 | (with_reducible refine Kd.C_alloc ?_ _) | (with_reducible refine Kd.C_drewN ?_ _) | (with_reducible refine Kd.C_drew ?_))); (case side2 => exact (Kd.R_reads' HO283.out).2.1); rintro e w18 ⟨rfl, hb⟩; refine ⟨_, rfl, ?_⟩; have n0_ := Aside0.mk (Kd.R_below (by (with_reducible repeat (first | apply Kd.R_alloc | apply Kd.R_drewN | apply Kd.R_drew)); exact HO283.out) hb); have n1_ := Aside0.mk (blk_below (g := gb278) (o := .cells #[.int .i64 a0_0, .slice A0_1 l0_1.length c0_1] 24 (0, 0)) (by (with_reducible repeat (first | refine blk_drewN ?_ _ | refine blk_drew ?_ | refine blk_alloc ?_ _)); exact BK278.out) hb); have n2_ := Aside0.mk (below_step (by repeat (first | (with_reducible first | exact HB.out | apply below_alloc | apply pw_below_drewN | apply below_drew1 | refine below_set ?_ GE278.out) | exact HB.out)) hb); clear HO283; clear BK278; clear HB; have HO283 := n0_; have BK278 := n1_; have HB := n2_; clear n0_ n1_ n2_; (try clear hb); (try clear hb2); (try clear hk); (try clear hi); have hcz19_0 : w18.cell? ⟨gb278, 0, none⟩ = some (.int .i64 a0_0) := (blk_cell BK278.out 0).trans rfl; have hcz19_1 : w18.cell? ⟨gb278, 1, none⟩ = some (.slice A0_1 l0_1.length c0_1) := (blk_cell BK278.out 1).trans rfl; have hfz19_0 := blk_frozen BK278.out 0; have hfz19_1 := blk_frozen BK278.out 1) | ((with_reducible refine gate_callee (f := 8) rfl ?_); refine goesA_ (some 21) rfl rfl Tryd.func8 (by kernel_rfl) rfl #[.agg #[.int .i64 a0_0, .slice A0_1 l0_1.length c0_1]] rfl ?_; (with_reducible refine (laws_toHex.calls k a0_0 _ _ l0_1 t286 t287 _ ?side1 ?side2 A9.out).mono ?_); (case side1 => repeat (first | exact (Kd.C_below HR0_1.out HB.out) | (with_reducible refine Kd.C_alloc ?_ _) | (with_reducible refine Kd.C_drewN ?_ _) | (with_reducible refine Kd.C_drew ?_))); (case side2 => exact HC0_1.out); rintro e w20 ⟨v288, rfl, ho0, hb⟩; refine ⟨_, rfl, ?_⟩; have n0_ := Aside0.mk (Kd.R_elder' (by (with_reducible repeat (first | apply Kd.R_alloc | apply Kd.R_drewN | apply Kd.R_drew)); exact HO283.out) (Kd.R_base ho0) hb); have n1_ := Aside0.mk (Kd.R_lower (Kd.R_new' ho0 (Kd.R_lt (by (with_reducible repeat (first | apply Kd.R_alloc | apply Kd.R_drewN | apply Kd.R_drew)); exact HO283.out))) (below_size (by repeat (first | (with_reducible first | exact HB.out | apply below_alloc | apply pw_below_drewN | apply below_drew1 | refine below_set ?_ GE278.out) | exact HB.out)))); have n2_ := Aside0.mk (blk_below (g := gb278) (o := .cells #[.int .i64 a0_0, .slice A0_1 l0_1.length c0_1] 24 (0, 0)) (by (with_reducible repeat (first | refine blk_drewN ?_ _ | refine blk_drew ?_ | refine blk_alloc ?_ _)); exact BK278.out) hb); have n3_ := Aside0.mk (below_step (by repeat (first | (with_reducible first | exact HB.out | apply below_alloc | apply pw_below_drewN | apply below_drew1 | refine below_set ?_ GE278.out) | exact HB.out)) hb); clear HO283; clear BK278; clear HB; have HO283 := n0_; have HO289 := n1_; have BK278 := n2_; have HB := n3_; clear n0_ n1_ n2_ n3_; (try clear hb); (try clear hb2); (try clear hk); (try clear hi); (try clear ho0)) | ((with_reducible refine gate_dst (N := 6) rfl ?_); refine box_event ?hg (N := 6) ?hd (cs := #[.int .i64 0, .slice none 0 0]) (t := 28) ?hr ?_; (case hd => rfl); (case hg => rfl); (case hr => first | (go_simp; done) | (go_simp; rfl)); intro gb290 hg w21 hbox hb; have n0_ := Aside0.mk (Kd.R_below (by (with_reducible repeat (first | apply Kd.R_alloc | apply Kd.R_drewN | apply Kd.R_drew)); exact HO283.out) hb); have n1_ := Aside0.mk (Kd.R_below (by (with_reducible repeat (first | apply Kd.R_alloc | apply Kd.R_drewN | apply Kd.R_drew)); exact HO289.out) hb); have n2_ := Aside0.mk (blk_below (g := gb278) (o := .cells #[.int .i64 a0_0, .slice A0_1 l0_1.length c0_1] 24 (0, 0)) (by (with_reducible repeat (first | refine blk_drewN ?_ _ | refine blk_drew ?_ | refine blk_alloc ?_ _)); exact BK278.out) hb); have n3_ := Aside0.mk (below_step (by repeat (first | (with_reducible first | exact HB.out | apply below_alloc | apply pw_below_drewN | apply below_drew1 | refine below_set ?_ GE278.out) | exact HB.out)) hb); have n4_ := Aside0.mk (hbox); have n5_ := Aside0.mk ((by rw [hg]; exact (below_size (by repeat (first | (with_reducible first | exact HB.out | apply below_alloc | apply pw_below_drewN | apply below_drew1 | refine below_set ?_ GE278.out) | exact HB.out))) : w.heap.size ≤ gb290)); have n6_ := Aside0.mk ((by rw [hg]; exact (below_size (by repeat (first | (with_reducible first | exact HB.out | apply below_alloc | apply pw_below_drewN | apply below_drew1 | refine below_set ?_ GE278.out) | exact HB.out))) : w.heap.size ≤ gb290)); have n7_ := Aside0.mk ((by rw [hg]; exact Nat.ne_of_lt (blk_lt (g := gb278) (o := .cells #[.int .i64 a0_0, .slice A0_1 l0_1.length c0_1] 24 (0, 0)) (by (with_reducible repeat (first | refine blk_drewN ?_ _ | refine blk_drew ?_ | refine blk_alloc ?_ _)); exact BK278.out)) : gb278 ≠ gb290)); have n8_ := Aside0.mk ((by rw [hg]; exact Nat.ne_of_gt (blk_lt (g := gb278) (o := .cells #[.int .i64 a0_0, .slice A0_1 l0_1.length c0_1] 24 (0, 0)) (by (with_reducible repeat (first | refine blk_drewN ?_ _ | refine blk_drew ?_ | refine blk_alloc ?_ _)); exact BK278.out)) : gb290 ≠ gb278)); clear HO283; clear HO289; clear BK278; clear HB; have HO283 := n0_; have HO289 := n1_; have BK278 := n2_; have HB := n3_; have BK290 := n4_; have GW290 := n5_; have GE290 := n6_; have NB278_290 := n7_; have NB290_278 := n8_; clear n0_ n1_ n2_ n3_ n4_ n5_ n6_ n7_ n8_; clear hb hbox hg; have hnb22 := NB290_278.out; have hnc22 := NB278_290.out; have hcz23_0 : w21.cell? ⟨gb290, 0, none⟩ = some (.int .i64 0) := (blk_cell BK290.out 0).trans rfl; have hcz23_1 : w21.cell? ⟨gb290, 1, none⟩ = some (.slice none 0 0) := (blk_cell BK290.out 1).trans rfl; have hfz23_0 := blk_frozen BK290.out 0; have hfz23_1 := blk_frozen BK290.out 1; obtain ⟨Ao24, co24, eo24⟩ := Kd.R_slice HO289.out; subst eo24) | ((with_reducible refine gate_callee (f := 9) rfl ?_); refine goesA_ (some 24) rfl rfl Tryd.func9 (by kernel_rfl) rfl #[.agg #[.int .i64 t286, .slice Ao24 t287.length co24]] rfl ?_; (with_reducible refine (impl_HexWinner.calls k t286 _ _ t287 t291 t292 _ ?side1 ?side2 A10.out).mono ?_); (case side1 => refine (Kd.R_reads' (e := 2) (base := w.heap.size) (ok := fun k_ => (True ∧ some k_ ≠ (.slice Ao17 t281.length co17 : Value).ownBlock)) (n := t287.length) (c := co24) ?_).2.2; exact (by (with_reducible repeat (first | apply Kd.R_alloc | apply Kd.R_drewN | apply Kd.R_drew)); exact (Kd.R_mono (Kd.R_far (p := ⟨gb290, 1, none⟩) (Kd.R_far (p := ⟨gb290, 0, none⟩) (Kd.R_types HO289.out BK290.out (by decide)) (fun _ hk => hk.2) (.int .i64 t286)) (fun _ hk => hk.2) (.slice Ao24 t287.length co24)) (fun _ h_ => h_.1)))); (case side2 => exact (Kd.R_reads' HO289.out).2.1); rintro e w25 ⟨rfl, hb⟩; refine ⟨_, rfl, ?_⟩; have n0_ := Aside0.mk (Kd.R_below (by (with_reducible repeat (first | apply Kd.R_alloc | apply Kd.R_drewN | apply Kd.R_drew)); exact (Kd.R_mono (Kd.R_far (p := ⟨gb290, 1, none⟩) (Kd.R_far (p := ⟨gb290, 0, none⟩) (Kd.R_types HO283.out BK290.out (by decide)) (fun _ hk => hk.2) (.int .i64 t286)) (fun _ hk => hk.2) (.slice Ao24 t287.length co24)) (fun _ h_ => h_.1))) hb); have n1_ := Aside0.mk (Kd.R_below (by (with_reducible repeat (first | apply Kd.R_alloc | apply Kd.R_drewN | apply Kd.R_drew)); exact (Kd.R_mono (Kd.R_far (p := ⟨gb290, 1, none⟩) (Kd.R_far (p := ⟨gb290, 0, none⟩) (Kd.R_types HO289.out BK290.out (by decide)) (fun _ hk => hk.2) (.int .i64 t286)) (fun _ hk => hk.2) (.slice Ao24 t287.length co24)) (fun _ h_ => h_.1))) hb); have n2_ := Aside0.mk (blk_below (g := gb278) (o := .cells #[.int .i64 a0_0, .slice A0_1 l0_1.length c0_1] 24 (0, 0)) (by (with_reducible repeat (first | refine blk_drewN ?_ _ | refine blk_drew ?_ | refine blk_alloc ?_ _)); refine blk_far ?_ NB278_290.out _; (with_reducible repeat (first | refine blk_drewN ?_ _ | refine blk_drew ?_ | refine blk_alloc ?_ _)); refine blk_far ?_ NB278_290.out _; (with_reducible repeat (first | refine blk_drewN ?_ _ | refine blk_drew ?_ | refine blk_alloc ?_ _)); exact BK278.out) hb); have n3_ := Aside0.mk (blk_below (g := gb290) (o := .cells #[.int .i64 t286, .slice Ao24 t287.length co24] 28 (0, 0)) (by (with_reducible repeat (first | refine blk_drewN ?_ _ | refine blk_drew ?_ | refine blk_alloc ?_ _)); refine blk_put (cs := #[.int .i64 t286, .slice none 0 0]) ?_ 1 _ rfl; (with_reducible repeat (first | refine blk_drewN ?_ _ | refine blk_drew ?_ | refine blk_alloc ?_ _)); refine blk_put (cs := #[.int .i64 0, .slice none 0 0]) ?_ 0 _ rfl; (with_reducible repeat (first | refine blk_drewN ?_ _ | refine blk_drew ?_ | refine blk_alloc ?_ _)); exact BK290.out) hb); have n4_ := Aside0.mk (below_step (by repeat (first | (with_reducible first | exact HB.out | apply below_alloc | apply pw_below_drewN | apply below_drew1 | refine below_set ?_ GE278.out | refine below_set ?_ GE290.out) | exact HB.out)) hb); clear HO283; clear HO289; clear BK278; clear BK290; clear HB; have HO283 := n0_; have HO289 := n1_; have BK278 := n2_; have BK290 := n3_; have HB := n4_; clear n0_ n1_ n2_ n3_ n4_; (try clear hb); (try clear hb2); (try clear hk); (try clear hi)))
  (try simp only [Act.put, List.setIfInBounds_toArray, List.set_cons_zero, List.set_cons_succ])
  go_cut [34] (fun v34 wc => ∃ (kq : Nat) (x34_10 : Bool), v34 = .bool x34_10 ∧ Aside0 (laws_FnExactHexWinner.j0 kq x34_10 a0_0 l0_1 t286 t287 = some true) ∧ Aside0 (kq ≤ k) ∧ Aside0 (Kd.R (Kd.int .i64) 2 wc w.heap.size (fun _ => True) (.slice Ao24 t287.length co24) t287) ∧ Aside0 (wc.heap[gb278]? = some (.cells #[.int .i64 a0_0, (.slice A0_1 l0_1.length c0_1)] 24 (0, 0))) ∧ Aside0 (wc.heap[gb290]? = some (.cells #[.int .i64 t286, (.slice Ao24 t287.length co24)] 28 (0, 0))) ∧ Aside0 (Below w.heap.size w wc))
  case first =>
   have H := HC11.out
   clear HC11
   by_cases c26 : t291 = t284
   ·rw [if_pos c26] at H
    have c26b0 : (t291 == t284) = true := beq_iff_eq.mpr c26
    have c26b1 : (t291 != t284) = false := bne_eq_false_iff_eq.mpr c26
    clear c26
    (first | rw [c26b0] | (simp only [i64_w, i32_w]; rw [c26b0]) | skip)
    have H' := Aside0.mk H
    clear H
    go_wp2
    go_meet
    case rel => exact ⟨_, ((t292 != t285)), (by first | rfl | (simp; done) | (simp [*]; done)), H', ⟨by first | omega | exact Nat.le_refl _⟩, ⟨by (with_reducible repeat (first | apply Kd.R_alloc | apply Kd.R_drewN | apply Kd.R_drew)); exact Kd.R_mono HO289.out (fun _ hk => trivial)⟩, ⟨by (with_reducible repeat (first | refine blk_drewN ?_ _ | refine blk_drew ?_ | refine blk_alloc ?_ _)); exact BK278.out⟩, ⟨by (with_reducible repeat (first | refine blk_drewN ?_ _ | refine blk_drew ?_ | refine blk_alloc ?_ _)); exact BK290.out⟩, ⟨by repeat (first | (with_reducible first | exact HB.out | apply below_alloc | apply pw_below_drewN | apply below_drew1 | refine below_set ?_ GE278.out | refine below_set ?_ GE290.out) | exact HB.out)⟩⟩
   ·rw [if_neg c26] at H
    have c26b0 : (t291 == t284) = false := beq_eq_false_iff_ne.mpr c26
    have c26b1 : (t291 != t284) = true := bne_iff_ne.mpr c26
    (first | rw [c26b0] | (simp only [i64_w, i32_w]; rw [c26b0]) | skip)
    have H' := Aside0.mk H
    clear H
    go_wp2
    go_meet
    case rel => exact ⟨_, (true), (by first | rfl | (simp; done) | (simp [*]; done)), H', ⟨by first | omega | exact Nat.le_refl _⟩, ⟨by (with_reducible repeat (first | apply Kd.R_alloc | apply Kd.R_drewN | apply Kd.R_drew)); exact Kd.R_mono HO289.out (fun _ hk => trivial)⟩, ⟨by (with_reducible repeat (first | refine blk_drewN ?_ _ | refine blk_drew ?_ | refine blk_alloc ?_ _)); exact BK278.out⟩, ⟨by (with_reducible repeat (first | refine blk_drewN ?_ _ | refine blk_drew ?_ | refine blk_alloc ?_ _)); exact BK290.out⟩, ⟨by repeat (first | (with_reducible first | exact HB.out | apply below_alloc | apply pw_below_drewN | apply below_drew1 | refine below_set ?_ GE278.out | refine below_set ?_ GE290.out) | exact HB.out)⟩⟩
  case rest =>
   clear HC11
   (try clear c2); (try clear p2); (try clear c3); (try clear c3b0); (try clear c6); (try clear c7); (try clear c8); (try clear c9); (try clear c22); (try clear c26); (try clear c26b0); (try clear c26b1); (try clear hcz13_0); (try clear hcz13_1); (try clear hcz15_0); (try clear hcz15_1); (try clear hcz19_0); (try clear hcz19_1); (try clear hcz23_0); (try clear hcz23_1); (try clear hcz5_0); (try clear hcz5_1); (try clear hfz13_0); (try clear hfz13_1); (try clear hfz15_0); (try clear hfz15_1); (try clear hfz19_0); (try clear hfz19_1); (try clear hfz23_0); (try clear hfz23_1); (try clear hfz5_0); (try clear hfz5_1)
   obtain ⟨kq, x34_10, rfl, HA, HJ10, HO_291001, BK278, BK290, HB⟩ := hcut
   cases kq with
   | zero => exact absurd HA.out (by simp [laws_FnExactHexWinner.j0])
   | succ kj10 =>
    have H := HA.out
    clear HA
    simp only [laws_FnExactHexWinner.j0] at H
    by_cases c27 : x34_10 = true
    ·subst c27
     have H1 : (some false) = some true := by rw [if_pos rfl] at H; exact H
     clear H
     have H := H1
     clear H1
     exact absurd H (by simp)
    ·replace c27 := Bool.eq_false_iff.mpr c27
     subst c27
     have H1 : ((laws_toHex.f kj10 a0_0 l0_1).bind fun bt293 => ((laws_eqHex.f kj10 t286 t287 bt293.1 bt293.2).bind fun t297 => (if t297 = true then (some true) else (some false)))) = some true := by rw [if_neg (show ¬ (false = true) by decide)] at H; exact H
     clear H
     have H := H1
     clear H1
     replace H := Option.bind_eq_some_iff.mp H
     obtain ⟨⟨t293, t294⟩, A280, H⟩ := H
     replace H : ((laws_eqHex.f kj10 t286 t287 t293 t294).bind fun t297 => (if t297 = true then (some true) else (some false))) = some true := H
     have A28 := Aside0.mk A280
     clear A280
     replace H := Option.bind_eq_some_iff.mp H
     obtain ⟨t297, A290, H⟩ := H
     replace H : (if t297 = true then (some true) else (some false)) = some true := H
     have A29 := Aside0.mk A290
     clear A290
     by_cases c30 : t297 = true
     ·subst c30
      have H1 : (some true) = some true := rfl
      clear H
      have H := H1
      clear H1
      clear H
      try go_wp2
      have n0_ := Aside0.mk (Kd.R_drew HO_291001.out)
      have n1_ := Aside0.mk (blk_drew BK278.out)
      have n2_ := Aside0.mk (blk_drew BK290.out)
      have n3_ := Aside0.mk (below_drew1 HB.out)
      clear HO_291001
      clear BK278
      clear BK290
      clear HB
      have HO_291001 := n0_
      have BK278 := n1_
      have BK290 := n2_
      have HB := n3_
      clear n0_ n1_ n2_ n3_
      refine start_ (n := 5) (S := fun w' => w'.cell? ⟨gb290, 0, none⟩ = some (.int .i64 t286) ∧ w'.cell? ⟨gb290, 1, none⟩ = some (.slice Ao24 t287.length co24) ∧ w'.cell? ⟨gb278, 0, none⟩ = some (.int .i64 a0_0) ∧ w'.cell? ⟨gb278, 1, none⟩ = some (.slice A0_1 l0_1.length c0_1)) (ds := []) #[false, false, false, false, false] (by kernel_rfl) rfl rfl ⟨(blk_cell BK290.out 0).trans rfl, (blk_cell BK290.out 1).trans rfl, (blk_cell BK278.out 0).trans rfl, (blk_cell BK278.out 1).trans rfl⟩ (fun hHeld => ?_)
      generalize wc.drew = w31 at HO_291001 BK278 BK290 HB hHeld ⊢
      refine take_ (i := 0) (N := some 35) (v := ?_) (a' := ?_) #[true, false, false, false, false] rfl rfl (by kernel_rfl) (fun _ _ _ h => h) (Or.inl ⟨by rfl, ?_⟩) hHeld ?_ ?_
      rotate_left; (· (rintro w' ⟨s0, s1, s2, s3⟩; go_simp; with_reducible rfl)); rotate_left; (· (simp only [Act.put, sz_, s0_, s1_, i64_w, i32_w]; rfl))
      refine take_ (i := 1) (N := some 36) (v := ?_) (a' := ?_) #[true, true, false, false, false] rfl rfl (by kernel_rfl) (fun _ _ _ h => h) (Or.inl ⟨by rfl, ?_⟩) hHeld ?_ ?_
      rotate_left; (· (rintro w' ⟨s0, s1, s2, s3⟩; go_simp; with_reducible rfl)); rotate_left; (· (simp only [Act.put, sz_, s0_, s1_, i64_w, i32_w]; rfl))
      refine one_ (i := 2) (N := some 37) #[true, true, true, false, false] rfl rfl (by kernel_rfl) (by decide) (fun K hK => ?_)
      refine goes_ Tryd.func8 (by kernel_rfl) rfl #[.agg #[.int .i64 a0_0, .slice A0_1 l0_1.length c0_1]] (by rfl) rfl rfl (by (try simp only [List.map_toArray, List.map_cons, List.map_nil]); first | done | rfl | (simp only [List.length_drop, List.length_take]; rfl)) ?_
      with_reducible refine (laws_toHex.calls kj10 a0_0 _ _ l0_1 t293 t294 _ ?side1 ?side2 A28.out).mono ?_
      (case side1 => repeat (first | exact (Kd.C_below HR0_1.out HB.out) | (with_reducible refine Kd.C_alloc ?_ _) | (with_reducible refine Kd.C_drewN ?_ _) | (with_reducible refine Kd.C_drew ?_)))
      (case side2 => exact HC0_1.out)
      rintro e w32 ⟨v295, rfl, ho0, hb⟩
      refine ⟨_, rfl, ?_⟩
      have n0_ := Aside0.mk (Kd.R_elder' (by (with_reducible repeat (first | apply Kd.R_alloc | apply Kd.R_drewN | apply Kd.R_drew)); exact HO_291001.out) (Kd.R_base ho0) hb)
      have n1_ := Aside0.mk (Kd.R_lower (Kd.R_new' ho0 (Kd.R_lt (by (with_reducible repeat (first | apply Kd.R_alloc | apply Kd.R_drewN | apply Kd.R_drew)); exact HO_291001.out))) (below_size (by repeat (first | (with_reducible first | exact HB.out | apply below_alloc | apply pw_below_drewN | apply below_drew1 | refine below_set ?_ GE278.out | refine below_set ?_ GE290.out) | exact HB.out))))
      have n2_ := Aside0.mk (blk_below (g := gb278) (o := .cells #[.int .i64 a0_0, .slice A0_1 l0_1.length c0_1] 24 (0, 0)) (by (with_reducible repeat (first | refine blk_drewN ?_ _ | refine blk_drew ?_ | refine blk_alloc ?_ _)); exact BK278.out) hb)
      have n3_ := Aside0.mk (blk_below (g := gb290) (o := .cells #[.int .i64 t286, .slice Ao24 t287.length co24] 28 (0, 0)) (by (with_reducible repeat (first | refine blk_drewN ?_ _ | refine blk_drew ?_ | refine blk_alloc ?_ _)); exact BK290.out) hb)
      have n4_ := Aside0.mk (below_step (by repeat (first | (with_reducible first | exact HB.out | apply below_alloc | apply pw_below_drewN | apply below_drew1 | refine below_set ?_ GE278.out | refine below_set ?_ GE290.out) | exact HB.out)) hb)
      clear HO_291001
      clear BK278
      clear BK290
      clear HB
      have HO_291001 := n0_
      have HO296 := n1_
      have BK278 := n2_
      have BK290 := n3_
      have HB := n4_
      clear n0_ n1_ n2_ n3_ n4_
      (try clear hb)
      (try clear hb2)
      (try clear hk)
      (try clear hi)
      (try clear ho0)
      obtain ⟨Ao33, co33, eo33⟩ := Kd.R_slice HO296.out
      (first | subst eo33 | (injection eo33 with f1_ f2_ f3_; have f4_ := f1_.symm; have f5_ := f3_.symm; clear f1_ f2_ f3_; subst f4_; subst f5_))
      refine hK.out _ _ ⟨(blk_cell BK290.out 0).trans rfl, (blk_cell BK290.out 1).trans rfl, (blk_cell BK278.out 0).trans rfl, (blk_cell BK278.out 1).trans rfl⟩ (fun hHeld => ?_)
      clear hK K
      refine norm_ (a' := ?_) ?_ ?_
      rotate_left
      ·show Act.put _ (some 37) _ = _
       simp only [Act.put, sz_, s0_, s1_, i64_w, i32_w]
       rfl
      refine one_ (i := 3) (N := some 38) #[true, true, true, true, false] rfl rfl (by kernel_rfl) (by decide) (fun K hK => ?_)
      refine goes_ Tryd.func10 (by kernel_rfl) rfl #[.agg #[.int .i64 t286, .slice Ao24 t287.length co24], .agg #[.int .i64 t293, .slice Ao33 t294.length co33]] (by rfl) rfl rfl (by (try simp only [List.map_toArray, List.map_cons, List.map_nil]); first | done | rfl | (simp only [List.length_drop, List.length_take]; rfl)) ?_
      with_reducible refine (laws_eqHex.calls kj10 t286 _ _ t287 t293 _ _ t294 true _ ?side1 ?side2 ?side3 ?side4 A29.out).mono ?_
      (case side1 => repeat (first | exact (Kd.R_reads' HO_291001.out).2.2 | (with_reducible refine Kd.C_alloc ?_ _) | (with_reducible refine Kd.C_drewN ?_ _) | (with_reducible refine Kd.C_drew ?_)))
      (case side2 => exact (Kd.R_reads' HO_291001.out).2.1)
      (case side3 => repeat (first | exact (Kd.R_reads' HO296.out).2.2 | (with_reducible refine Kd.C_alloc ?_ _) | (with_reducible refine Kd.C_drewN ?_ _) | (with_reducible refine Kd.C_drew ?_)))
      (case side4 => exact (Kd.R_reads' HO296.out).2.1)
      rintro e w34 ⟨rfl, hb⟩
      refine ⟨_, rfl, ?_⟩
      have n0_ := Aside0.mk (Kd.R_below (by (with_reducible repeat (first | apply Kd.R_alloc | apply Kd.R_drewN | apply Kd.R_drew)); exact HO_291001.out) hb)
      have n1_ := Aside0.mk (Kd.R_below (by (with_reducible repeat (first | apply Kd.R_alloc | apply Kd.R_drewN | apply Kd.R_drew)); exact HO296.out) hb)
      have n2_ := Aside0.mk (blk_below (g := gb278) (o := .cells #[.int .i64 a0_0, .slice A0_1 l0_1.length c0_1] 24 (0, 0)) (by (with_reducible repeat (first | refine blk_drewN ?_ _ | refine blk_drew ?_ | refine blk_alloc ?_ _)); exact BK278.out) hb)
      have n3_ := Aside0.mk (blk_below (g := gb290) (o := .cells #[.int .i64 t286, .slice Ao24 t287.length co24] 28 (0, 0)) (by (with_reducible repeat (first | refine blk_drewN ?_ _ | refine blk_drew ?_ | refine blk_alloc ?_ _)); exact BK290.out) hb)
      have n4_ := Aside0.mk (below_step (by repeat (first | (with_reducible first | exact HB.out | apply below_alloc | apply pw_below_drewN | apply below_drew1 | refine below_set ?_ GE278.out | refine below_set ?_ GE290.out) | exact HB.out)) hb)
      clear HO_291001
      clear HO296
      clear BK278
      clear BK290
      clear HB
      have HO_291001 := n0_
      have HO296 := n1_
      have BK278 := n2_
      have BK290 := n3_
      have HB := n4_
      clear n0_ n1_ n2_ n3_ n4_
      (try clear hb)
      (try clear hb2)
      (try clear hk)
      (try clear hi)
      refine hK.out _ _ ⟨(blk_cell BK290.out 0).trans rfl, (blk_cell BK290.out 1).trans rfl, (blk_cell BK278.out 0).trans rfl, (blk_cell BK278.out 1).trans rfl⟩ (fun hHeld => ?_)
      clear hK K
      refine norm_ (a' := ?_) ?_ ?_
      rotate_left
      ·show Act.put _ (some 38) _ = _
       simp only [Act.put, sz_, s0_, s1_, i64_w, i32_w]
       rfl
      refine pure_ (i := 4) (N := some 39) (v := ?_) (a' := ?_) #[true, true, true, true, true] rfl rfl (by kernel_rfl) (fun _ _ _ h => h) (Or.inl ⟨by rfl, ?_⟩) ?_ ?_
      rotate_left; (· (intro w'; go_simp; with_reducible rfl)); rotate_left; (· (simp only [Act.put, sz_, s0_, s1_, i64_w, i32_w]; rfl))
      refine done_ (by kernel_rfl) ?_
      try go_wp2
      go_ret
      exact ⟨by first | rfl | (simp [errW_none, errW_some] <;> rfl) | (simp [*, errW_none, errW_some] <;> rfl), by repeat (first | (with_reducible first | exact HB.out | apply below_alloc | apply pw_below_drewN | apply below_drew1 | refine below_set ?_ GE278.out | refine below_set ?_ GE290.out) | exact HB.out)⟩
     ·replace c30 := Bool.eq_false_iff.mpr c30
      subst c30
      have H1 : (some false) = some true := by rw [if_neg (show ¬ (false = true) by decide)] at H; exact H
      clear H
      have H := H1
      clear H1
      exact absurd H (by simp)

-- The empty cells, on the reference's side. emptyL chosenTo rd_get wrap_next (for 32 47 37)
theorem chosen_mono (p : Int → Bool) {i : Nat} : ∀ n, i ≤ n → (chosenTo p i).length ≤ (chosenTo p n).length
  | 0, h => by have : i = 0 := by omega
               subst this; exact Nat.le_refl _
  | n + 1, h => by
    by_cases e : i = n + 1
    · subst e; exact Nat.le_refl _
    · have := chosen_mono p n (show i ≤ n by omega)
      have hs : chosenTo p (n + 1) = if p n then chosenTo p n ++ [(n : Int)] else chosenTo p n := rfl
      rw [hs]
      split
      · rw [List.length_append]; omega
      · exact this
theorem three_small {m : Nat} (h : m ≤ 9) : 3 ^ m ≤ 19683 := Nat.le_trans (Nat.pow_le_pow_right (by omega) h) (by simp)
theorem three_wrap {a : Nat} (h : a ≤ 19683) : wrap64 ((a : Int) * 3) = ((a * 3 : Nat) : Int) := by unfold wrap64; omega
theorem specEmpty_ev (p : Int) (l : List Int) (hl : l.length ≤ 64) (hm : (emptyL l).length ≤ 9) : Ev (fun k => spec_l06Empty.f k p l) (emptyL l, List.replicate (3 ^ (emptyL l).length) 0) := by
  unfold spec_l06Empty.f
  have key : ∀ (d i : Nat), i + d = l.length → Ev (fun k => spec_l06Empty.l0 k (chosenTo (fun c => rd l c == 0) i) ((3 ^ (chosenTo (fun c => rd l c == 0) i).length : Nat) : Int) i p l) (emptyL l, List.replicate (3 ^ (emptyL l).length) 0) := by
    intro d
    induction d with
    | zero =>
      intro i hi
      have e : i = l.length := by omega
      subst e
      have h3 := three_small hm
      refine Ev.step (f := fun _ => some (emptyL l, List.replicate (3 ^ (emptyL l).length) 0)) (fun k => ?_) (Ev.now _)
      simp only [spec_l06Empty.l0]
      have he : (chosenTo (fun c => rd l c == 0) l.length) = emptyL l := rfl
      rw [he]
      generalize 3 ^ (emptyL l).length = w at h3 ⊢
      rw [if_neg (by omega), if_pos (by omega), if_pos (by omega), Int.toNat_natCast]
    | succ d ih =>
      intro i hi
      have hlt : i < l.length := by omega
      have W1 := Aside0.mk (show wrap64 ((i : Int) + 1) = ((i + 1 : Nat) : Int) from wrap_next hlt (by omega))
      have h := ih (i + 1) (by omega)
      have hs : chosenTo (fun c => rd l c == 0) (i + 1) = if (rd l (i : Int) == 0) = true then chosenTo (fun c => rd l c == 0) i ++ [(i : Int)] else chosenTo (fun c => rd l c == 0) i := rfl
      have hml : (chosenTo (fun c => rd l c == 0) i).length ≤ 9 := Nat.le_trans (chosen_mono _ l.length (by omega)) hm
      rw [hs] at h
      refine Ev.step (fun k => ?_) h
      simp only [spec_l06Empty.l0]
      rw [if_pos (by omega), if_pos (by omega), W1.out]
      by_cases hz : rd l (i : Int) = 0
      · have hb : (rd l (i : Int) == 0) = true := beq_iff_eq.2 hz
        have HW := Aside0.mk (three_wrap (three_small hml))
        rw [if_pos hz, if_pos (by omega), HW.out]
        simp only [hb, if_true, List.length_append, List.length_singleton]
        rw [Nat.pow_succ]
      · have hb : (rd l (i : Int) == 0) = false := beq_eq_false_iff_ne.2 hz
        rw [if_neg hz]
        simp only [hb, Bool.false_eq_true, if_false]
  exact key l.length 0 (by omega)
-- The theorem of Hex: of two colours on a full board just one joins its sides (by the reduction of triangles).
/-- A cell (a, b) is in the small triangle whose top is (r, c). -/
def InT (a b r c : Nat) : Prop := (a = r ∧ b = c) ∨ (a = r + 1 ∧ b = c) ∨ (a = r + 1 ∧ b = c + 1)
/-- Two cells are in one small triangle of a triangle of side n. -/
def EdgeT (n a b a' b' : Nat) : Prop := ∃ r c, c ≤ r ∧ r + 1 < n ∧ InT a b r c ∧ InT a' b' r c
inductive ConT (n : Nat) (f : Nat → Nat → Bool) (k : Bool) (a b : Nat) : Nat → Nat → Prop
  | refl : b ≤ a → a < n → f a b = k → ConT n f k a b a b
  | step {a' b' a'' b'' : Nat} : ConT n f k a b a' b' → EdgeT n a' b' a'' b'' → f a'' b'' = k → ConT n f k a b a'' b''
theorem EdgeT.symm {n a b a' b' : Nat} : EdgeT n a b a' b' → EdgeT n a' b' a b := fun ⟨r, c, h1, h2, h3, h4⟩ => ⟨r, c, h1, h2, h4, h3⟩
theorem EdgeT.bound {n a b a' b' : Nat} : EdgeT n a b a' b' → b' ≤ a' ∧ a' < n := fun ⟨r, c, h1, h2, h3, h4⟩ => by unfold InT at h4; omega
theorem ConT.last {n : Nat} {f : Nat → Nat → Bool} {k : Bool} {a b a' b' : Nat} : ConT n f k a b a' b' → b' ≤ a' ∧ a' < n ∧ f a' b' = k
  | .refl h1 h2 h3 => ⟨h1, h2, h3⟩
  | .step _ he hf => ⟨he.bound.1, he.bound.2, hf⟩
theorem ConT.first {n : Nat} {f : Nat → Nat → Bool} {k : Bool} {a b a' b' : Nat} (h : ConT n f k a b a' b') : b ≤ a ∧ a < n ∧ f a b = k := by
  induction h with
  | refl h1 h2 h3 => exact ⟨h1, h2, h3⟩
  | step _ _ _ ih => exact ih
theorem ConT.trans {n : Nat} {f : Nat → Nat → Bool} {k : Bool} {a b a' b' a'' b'' : Nat} (h : ConT n f k a b a' b') (h' : ConT n f k a' b' a'' b'') : ConT n f k a b a'' b'' := by
  induction h' with
  | refl _ _ _ => exact h
  | step _ he hf ih => exact .step ih he hf
theorem ConT.symm {n : Nat} {f : Nat → Nat → Bool} {k : Bool} {a b a' b' : Nat} (h : ConT n f k a b a' b') : ConT n f k a' b' a b := by
  induction h with
  | refl h1 h2 h3 => exact .refl h1 h2 h3
  | step hc he hf ih =>
    have hl := hc.last
    exact ConT.trans (.step (.refl he.bound.1 he.bound.2 hf) he.symm hl.2.2) ih
/-- The majority of a small triangle. -/
def redT (f : Nat → Nat → Bool) (r c : Nat) : Bool := (f r c && f (r + 1) c) || (f r c && f (r + 1) (c + 1)) || (f (r + 1) c && f (r + 1) (c + 1))
def HasY (n : Nat) (f : Nat → Nat → Bool) (k : Bool) : Prop := ∃ a1 a2 b2 a3 b3, ConT n f k a1 0 a2 b2 ∧ a2 = b2 ∧ ConT n f k a1 0 a3 b3 ∧ a3 + 1 = n
theorem red_two {f : Nat → Nat → Bool} {k : Bool} {a b a' b' r c : Nat} (h1 : InT a b r c) (h2 : InT a' b' r c) (hne : ¬ (a = a' ∧ b = b')) (f1 : f a b = k) (f2 : f a' b' = k) : redT f r c = k := by
  unfold InT at h1 h2
  unfold redT
  rcases h1 with ⟨rfl, rfl⟩ | ⟨rfl, rfl⟩ | ⟨rfl, rfl⟩ <;> rcases h2 with ⟨rfl, rfl⟩ | ⟨rfl, rfl⟩ | ⟨rfl, rfl⟩ <;> first | (exact absurd ⟨rfl, rfl⟩ hne) | (rw [f1, f2]; cases k <;> simp)
theorem edge_share {n a b r c r' c' : Nat} (h1 : InT a b r c) (h2 : InT a b r' c') (g1 : c ≤ r) (g2 : c' ≤ r') (g3 : r < n) (g4 : r' < n) : (r = r' ∧ c = c') ∨ EdgeT n r c r' c' := by
  unfold InT at h1 h2
  by_cases he : r = r' ∧ c = c'
  · exact .inl he
  refine .inr ?_
  by_cases hr : r = r'
  · by_cases hc : c < c'
    · exact ⟨r - 1, c, by omega, by omega, by unfold InT; omega, by unfold InT; omega⟩
    · exact ⟨r - 1, c', by omega, by omega, by unfold InT; omega, by unfold InT; omega⟩
  · by_cases hlt : r < r'
    · exact ⟨r, c, by omega, by omega, by unfold InT; omega, by unfold InT; omega⟩
    · exact ⟨r', c', by omega, by omega, by unfold InT; omega, by unfold InT; omega⟩
theorem proj_con {n : Nat} {f : Nat → Nat → Bool} {k : Bool} {a b a' b' : Nat} (h : ConT (n + 1) f k a b a' b') : ∀ r c r' c', InT a b r c → c ≤ r → r < n → redT f r c = k → InT a' b' r' c' → c' ≤ r' → r' < n → redT f r' c' = k → ConT n (redT f) k r c r' c' := by
  induction h with
  | refl _ _ _ =>
    intro r c r' c' h1 g1 g2 e1 h2 g3 g4 e2
    rcases edge_share (n := n) h1 h2 g1 g3 g2 g4 with ⟨rfl, rfl⟩ | he
    · exact .refl g1 g2 e1
    · exact .step (.refl g1 g2 e1) he e2
  | @step a1 b1 a2 b2 hc he hf ih =>
    intro r c r' c' h1 g1 g2 e1 h2 g3 g4 e2
    by_cases hq : a1 = a2 ∧ b1 = b2
    · obtain ⟨rfl, rfl⟩ := hq
      exact ih r c r' c' h1 g1 g2 e1 h2 g3 g4 e2
    · obtain ⟨rs, cs, k1, k2, k3, k4⟩ := he
      have e3 := red_two k3 k4 hq hc.last.2.2 hf
      have := ih r c rs cs h1 g1 g2 e1 k3 k1 (by omega) e3
      rcases edge_share (n := n) k4 h2 k1 g3 (by omega) g4 with ⟨rfl, rfl⟩ | he2
      · exact this
      · exact .step this he2 e2
theorem proj_some {n : Nat} {f : Nat → Nat → Bool} {k : Bool} {a b a' b' : Nat} (h : ConT (n + 1) f k a b a' b') : ¬ (a = a' ∧ b = b') → ∃ r c, InT a b r c ∧ c ≤ r ∧ r < n ∧ redT f r c = k := by
  induction h with
  | refl => exact fun h => absurd ⟨rfl, rfl⟩ h
  | @step a1 b1 a2 b2 hc he hf ih =>
    intro hne
    by_cases hq : a = a1 ∧ b = b1
    · obtain ⟨rfl, rfl⟩ := hq
      obtain ⟨rs, cs, k1, k2, k3, k4⟩ := he
      exact ⟨rs, cs, k3, k1, by omega, red_two k3 k4 hne hc.last.2.2 hf⟩
    · exact ih hq
theorem proj_Y {n : Nat} (hn : 1 ≤ n) {f : Nat → Nat → Bool} {k : Bool} : HasY (n + 1) f k → HasY n (redT f) k := by
  rintro ⟨a1, a2, b2, a3, b3, h12, h2, h13, h3⟩
  have h23 := h12.symm.trans h13
  have t1 : ∃ r c, InT a1 0 r c ∧ c ≤ r ∧ r < n ∧ redT f r c = k := by
    by_cases h : a1 = a2 ∧ 0 = b2
    · exact proj_some h13 (by omega)
    · exact proj_some h12 h
  have t2 : ∃ r c, InT a2 b2 r c ∧ c ≤ r ∧ r < n ∧ redT f r c = k := by
    by_cases h : a2 = a1 ∧ b2 = 0
    · exact proj_some h23 (by omega)
    · exact proj_some h12.symm h
  have t3 : ∃ r c, InT a3 b3 r c ∧ c ≤ r ∧ r < n ∧ redT f r c = k := by
    by_cases h : a3 = a1 ∧ b3 = 0
    · exact proj_some h23.symm (by omega)
    · exact proj_some h13.symm h
  obtain ⟨r1, c1, i1, q1, l1, e1⟩ := t1
  obtain ⟨r2, c2, i2, q2, l2, e2⟩ := t2
  obtain ⟨r3, c3, i3, q3, l3, e3⟩ := t3
  have hc1 : c1 = 0 := by unfold InT at i1; omega
  subst hc1
  exact ⟨r1, r2, c2, r3, c3, proj_con h12 _ _ _ _ i1 q1 l1 e1 i2 q2 l2 e2, by unfold InT at i2; omega, proj_con h13 _ _ _ _ i1 q1 l1 e1 i3 q3 l3 e3, by unfold InT at i3; omega⟩
theorem red_cases {f : Nat → Nat → Bool} {k : Bool} {r c : Nat} (h : redT f r c = k) : (f r c = k ∧ f (r + 1) c = k) ∨ (f r c = k ∧ f (r + 1) (c + 1) = k) ∨ (f (r + 1) c = k ∧ f (r + 1) (c + 1) = k) := by
  unfold redT at h
  revert h
  generalize f r c = x
  generalize f (r + 1) c = y
  generalize f (r + 1) (c + 1) = z
  revert x y z k
  decide
theorem link_lt {n : Nat} {f : Nat → Nat → Bool} {k : Bool} {r c r' c' : Nat} (hs : (r' = r + 1 ∧ c' = c) ∨ (r' = r + 1 ∧ c' = c + 1) ∨ (r' = r ∧ c' = c + 1 ∧ 1 ≤ r)) (g1 : c ≤ r) (g2 : c' ≤ r') (g3 : r < n) (g4 : r' < n) (e1 : redT f r c = k) (e2 : redT f r' c' = k) : ∃ p q p' q', InT p q r c ∧ f p q = k ∧ InT p' q' r' c' ∧ f p' q' = k ∧ EdgeT (n + 1) p q p' q' := by
  have d1 := red_cases e1
  have d2 := red_cases e2
  rcases hs with ⟨rfl, rfl⟩ | ⟨rfl, rfl⟩ | ⟨rfl, rfl, h1⟩
  · by_cases hk : f (r + 1) c' = k
    · exact ⟨r + 1, c', r + 1, c', by unfold InT; omega, hk, by unfold InT; omega, hk, r, c', g1, by omega, by unfold InT; omega, by unfold InT; omega⟩
    · simp only [hk, and_false, false_and, or_false, false_or] at d1 d2
      exact ⟨r + 1, c' + 1, r + 1 + 1, c' + 1, by unfold InT; omega, d1.2, by unfold InT; omega, d2.2, r + 1, c' + 1, by omega, by omega, by unfold InT; omega, by unfold InT; omega⟩
  · by_cases hk : f (r + 1) (c + 1) = k
    · exact ⟨r + 1, c + 1, r + 1, c + 1, by unfold InT; omega, hk, by unfold InT; omega, hk, r, c, g1, by omega, by unfold InT; omega, by unfold InT; omega⟩
    · simp only [hk, and_false, false_and, or_false, false_or] at d1 d2
      exact ⟨r + 1, c, r + 1 + 1, c + 1, by unfold InT; omega, d1.2, by unfold InT; omega, d2.1, r + 1, c, by omega, by omega, by unfold InT; omega, by unfold InT; omega⟩
  · by_cases hk : f (r' + 1) (c + 1) = k
    · exact ⟨r' + 1, c + 1, r' + 1, c + 1, by unfold InT; omega, hk, by unfold InT; omega, hk, r', c, g1, by omega, by unfold InT; omega, by unfold InT; omega⟩
    · simp only [hk, and_false, false_and, or_false, false_or] at d1 d2
      exact ⟨r', c, r', c + 1, by unfold InT; omega, d1.1, by unfold InT; omega, d2.1, r' - 1, c, by omega, by omega, by unfold InT; omega, by unfold InT; omega⟩
theorem red_some {f : Nat → Nat → Bool} {k : Bool} {r c : Nat} (h : redT f r c = k) : ∃ p q, InT p q r c ∧ f p q = k := by
  rcases red_cases h with ⟨h, _⟩ | ⟨h, _⟩ | ⟨h, _⟩
  · exact ⟨r, c, by unfold InT; omega, h⟩
  · exact ⟨r, c, by unfold InT; omega, h⟩
  · exact ⟨r + 1, c, by unfold InT; omega, h⟩
theorem link {n : Nat} {f : Nat → Nat → Bool} {k : Bool} {r c r' c' : Nat} (he : EdgeT n r c r' c') (e1 : redT f r c = k) (e2 : redT f r' c' = k) : ∃ p q p' q', InT p q r c ∧ f p q = k ∧ InT p' q' r' c' ∧ f p' q' = k ∧ EdgeT (n + 1) p q p' q' := by
  have b2 := he.bound
  have b1 := he.symm.bound
  obtain ⟨s, t, k1, k2, k3, k4⟩ := he
  by_cases hq : r = r' ∧ c = c'
  · obtain ⟨rfl, rfl⟩ := hq
    obtain ⟨p, q, hi, hf⟩ := red_some e1
    exact ⟨p, q, p, q, hi, hf, hi, hf, r, c, by omega, by omega, hi, hi⟩
  · by_cases hlt : (r' = r + 1 ∧ c' = c) ∨ (r' = r + 1 ∧ c' = c + 1) ∨ (r' = r ∧ c' = c + 1 ∧ 1 ≤ r)
    · exact link_lt hlt b1.1 b2.1 b1.2 b2.2 e1 e2
    · obtain ⟨p, q, p', q', h1, h2, h3, h4, h5⟩ := link_lt (n := n) (r := r') (c := c') (r' := r) (c' := c) (by unfold InT at k3 k4; omega) b2.1 b1.1 b2.2 b1.2 e2 e1
      exact ⟨p', q', p, q, h3, h4, h1, h2, h5.symm⟩
theorem lift_con {n : Nat} {f : Nat → Nat → Bool} {k : Bool} {r c r' c' : Nat} (h : ConT n (redT f) k r c r' c') : ∀ a b a' b', InT a b r c → f a b = k → InT a' b' r' c' → f a' b' = k → ConT (n + 1) f k a b a' b' := by
  induction h with
  | refl g1 g2 e1 =>
    intro a b a' b' i1 f1 i2 f2
    exact .step (.refl (by unfold InT at i1; omega) (by unfold InT at i1; omega) f1) ⟨r, c, g1, by omega, i1, i2⟩ f2
  | @step r1 c1 r2 c2 hc he hf ih =>
    intro a b a' b' i1 f1 i2 f2
    obtain ⟨p, q, p', q', j1, j2, j3, j4, j5⟩ := link he hc.last.2.2 hf
    have hb := he.bound
    exact .step (.step (ih a b p q i1 f1 j1 j2) j5 j4) ⟨r2, c2, hb.1, by omega, j3, i2⟩ f2
theorem lift_Y {n : Nat} {f : Nat → Nat → Bool} {k : Bool} : HasY n (redT f) k → HasY (n + 1) f k := by
  rintro ⟨r1, r2, c2, r3, c3, h12, h2, h13, h3⟩
  subst h2
  have d1 := red_cases h12.first.2.2
  have d2 := red_cases h12.last.2.2
  have d3 := red_cases h13.last.2.2
  have t1 : ∃ a, InT a 0 r1 0 ∧ f a 0 = k := by
    by_cases h : f r1 0 = k
    · exact ⟨r1, by unfold InT; omega, h⟩
    · simp only [h, and_false, false_and, or_false, false_or] at d1
      exact ⟨r1 + 1, by unfold InT; omega, d1.1⟩
  have t2 : ∃ a, InT a a r2 r2 ∧ f a a = k := by
    by_cases h : f r2 r2 = k
    · exact ⟨r2, by unfold InT; omega, h⟩
    · simp only [h, and_false, false_and, or_false, false_or] at d2
      exact ⟨r2 + 1, by unfold InT; omega, d2.2⟩
  have t3 : ∃ b, InT (r3 + 1) b r3 c3 ∧ f (r3 + 1) b = k := by
    by_cases h : f (r3 + 1) c3 = k
    · exact ⟨c3, by unfold InT; omega, h⟩
    · simp only [h, and_false, false_and, or_false, false_or] at d3
      exact ⟨c3 + 1, by unfold InT; omega, d3.2⟩
  obtain ⟨a1, i1, f1⟩ := t1
  obtain ⟨a2, i2, f2⟩ := t2
  obtain ⟨b3, i3, f3⟩ := t3
  exact ⟨a1, a2, a2, r3 + 1, b3, lift_con h12 _ _ _ _ i1 f1 i2 f2, rfl, lift_con h13 _ _ _ _ i1 f1 i3 f3, by omega⟩
/-- Just one colour has a Y. -/
theorem one_Y : ∀ (n : Nat), 1 ≤ n → ∀ (f : Nat → Nat → Bool), ∃ k, HasY n f k ∧ ¬ HasY n f (!k)
  | 0, h, _ => by omega
  | 1, _, f => by
    refine ⟨f 0 0, ⟨0, 0, 0, 0, 0, .refl (Nat.le_refl _) (by omega) rfl, rfl, .refl (Nat.le_refl _) (by omega) rfl, rfl⟩, ?_⟩
    rintro ⟨a1, a2, b2, a3, b3, h12, _, _, _⟩
    have h := h12.first
    have : a1 = 0 := by omega
    subst this
    exact absurd h.2.2 (by cases f 0 0 <;> decide)
  | n + 2, _, f => by
    obtain ⟨k, h1, h2⟩ := one_Y (n + 1) (by omega) (redT f)
    exact ⟨k, lift_Y h1, fun h => h2 (proj_Y (by omega) h)⟩
-- The board of Hex in a triangle: just one player joins on a full board. ConT HasY one_Y EdgeT InT
def HAdj (r c r' c' : Nat) : Prop := (r' = r + 1 ∧ c' = c) ∨ (r = r' + 1 ∧ c' = c) ∨ (r' = r ∧ c' = c + 1) ∨ (r' = r ∧ c = c' + 1) ∨ (r = r' + 1 ∧ c' = c + 1) ∨ (r' = r + 1 ∧ c = c' + 1)
inductive HCon (n : Nat) (g : Nat → Nat → Bool) (k : Bool) (a b : Nat) : Nat → Nat → Prop
  | refl : a < n → b < n → g a b = k → HCon n g k a b a b
  | step {a' b' a'' b'' : Nat} : HCon n g k a b a' b' → HAdj a' b' a'' b'' → a'' < n → b'' < n → g a'' b'' = k → HCon n g k a b a'' b''
/-- The first player (true) joins row 0 and row n - 1, the second one (false) column 0 and column n - 1. -/
def HJoin (n : Nat) (g : Nat → Nat → Bool) : Bool → Prop
  | true => ∃ c r c', HCon n g true 0 c r c' ∧ r + 1 = n
  | false => ∃ r r' c', HCon n g false r 0 r' c' ∧ c' + 1 = n
theorem HCon.last {n : Nat} {g : Nat → Nat → Bool} {k : Bool} {a b a' b' : Nat} : HCon n g k a b a' b' → a' < n ∧ b' < n ∧ g a' b' = k
  | .refl h1 h2 h3 => ⟨h1, h2, h3⟩
  | .step _ _ h1 h2 h3 => ⟨h1, h2, h3⟩
def colY (n : Nat) (g : Nat → Nat → Bool) (R C : Nat) : Bool := if n ≤ C then false else if n ≤ R - C then true else g (R - C) C
theorem colY_in {n : Nat} {g : Nat → Nat → Bool} {a b : Nat} (ha : a < n) (hb : b < n) : colY n g (a + b) b = g a b := by
  unfold colY
  rw [if_neg (by omega), if_neg (by omega), Nat.add_sub_cancel]
theorem into_Y {n : Nat} {g : Nat → Nat → Bool} {k : Bool} {a b a' b' : Nat} (h : HCon n g k a b a' b') : ConT (2 * n - 1) (colY n g) k (a + b) b (a' + b') b' := by
  induction h with
  | refl h1 h2 h3 => exact .refl (by omega) (by omega) (by rw [colY_in h1 h2, h3])
  | @step a1 b1 a2 b2 hc he h1 h2 h3 ih =>
    have hl := hc.last
    refine .step ih ?_ (by rw [colY_in h1 h2, h3])
    unfold HAdj at he
    rcases he with ⟨rfl, rfl⟩ | ⟨rfl, rfl⟩ | ⟨rfl, rfl⟩ | ⟨rfl, rfl⟩ | ⟨rfl, rfl⟩ | ⟨rfl, rfl⟩
    · exact ⟨a1 + b2, b2, by omega, by omega, by unfold InT; omega, by unfold InT; omega⟩
    · exact ⟨a2 + b2, b2, by omega, by omega, by unfold InT; omega, by unfold InT; omega⟩
    · exact ⟨a2 + b1, b1, by omega, by omega, by unfold InT; omega, by unfold InT; omega⟩
    · exact ⟨a2 + b2, b2, by omega, by omega, by unfold InT; omega, by unfold InT; omega⟩
    · exact ⟨a2 + b1, b1, by omega, by omega, by unfold InT; omega, by unfold InT; omega⟩
    · exact ⟨a1 + b2, b2, by omega, by omega, by unfold InT; omega, by unfold InT; omega⟩
theorem go_down {N : Nat} {f : Nat → Nat → Bool} {k : Bool} {x y R C : Nat} (h : ConT N f k x y R C) : ∀ j, R + j < N → (∀ i, i ≤ j → f (R + i) C = k) → ConT N f k x y (R + j) C
  | 0, _, _ => h
  | j + 1, hj, hf => .step (go_down h j (by omega) (fun i hi => hf i (by omega))) ⟨R + j, C, by have := h.last; omega, by omega, by unfold InT; omega, by unfold InT; omega⟩ (hf (j + 1) (Nat.le_refl _))
theorem go_right {N : Nat} {f : Nat → Nat → Bool} {k : Bool} {x y R C : Nat} (h : ConT N f k x y R C) : ∀ j, C + j ≤ R → (∀ i, i ≤ j → f R (C + i) = k) → ConT N f k x y R (C + j)
  | 0, _, _ => h
  | j + 1, hj, hf => .step (go_right h j (by omega) (fun i hi => hf i (by omega))) ⟨R - 1, C + j, by omega, by have := h.last; omega, by unfold InT; omega, by unfold InT; omega⟩ (hf (j + 1) (Nat.le_refl _))
theorem go_left {N : Nat} {f : Nat → Nat → Bool} {k : Bool} {x y R C : Nat} (h : ConT N f k x y R C) : ∀ j, j ≤ C → (∀ i, i ≤ j → f R (C - i) = k) → ConT N f k x y R (C - j)
  | 0, _, _ => h
  | j + 1, hj, hf => .step (go_left h j (by omega) (fun i hi => hf i (by omega))) ⟨R - 1, C - (j + 1), by have := h.last; omega, by have := h.last; omega, by unfold InT; have := h.last; omega, by unfold InT; have := h.last; omega⟩ (hf (j + 1) (Nat.le_refl _))
theorem join_Y1 {n : Nat} (hn : 1 ≤ n) {g : Nat → Nat → Bool} (h : HJoin n g true) : HasY (2 * n - 1) (colY n g) true := by
  obtain ⟨c, r, c', h, hr⟩ := h
  have hy := into_Y h
  have hl := h.last
  have hb : ∀ R C, C < n → n ≤ R - C → colY n g R C = true := fun R C h1 h2 => by unfold colY; rw [if_neg (by omega), if_pos h2]
  have hc0 : colY n g (r + c') c' = true := by rw [colY_in hl.1 hl.2.1]; exact hl.2.2
  have e1 : ConT (2 * n - 1) (colY n g) true (0 + c) c (r + c') 0 := by
    have := go_left hy c' (Nat.le_refl _) (fun i hi => by
      by_cases h0 : i = 0
      · rw [h0, Nat.sub_zero]; exact hc0
      · exact hb _ _ (by omega) (by omega))
    rwa [Nat.sub_self] at this
  have e2 : ConT (2 * n - 1) (colY n g) true (0 + c) c (2 * n - 2) c' := by
    have := go_down hy (2 * n - 2 - (r + c')) (by omega) (fun i hi => by
      by_cases h0 : i = 0
      · rw [h0, Nat.add_zero]; exact hc0
      · exact hb _ _ (by omega) (by omega))
    rwa [show r + c' + (2 * n - 2 - (r + c')) = 2 * n - 2 by omega] at this
  exact ⟨r + c', 0 + c, c, 2 * n - 2, c', e1.symm, by omega, e1.symm.trans e2, by omega⟩
theorem join_Y2 {n : Nat} (hn : 1 ≤ n) {g : Nat → Nat → Bool} (h : HJoin n g false) : HasY (2 * n - 1) (colY n g) false := by
  obtain ⟨r, r', c', h, hc⟩ := h
  have hy := into_Y h
  have hl := h.last
  have hb : ∀ R C, n ≤ C → colY n g R C = false := fun R C h1 => by unfold colY; rw [if_pos h1]
  have hc0 : colY n g (r' + c') c' = false := by rw [colY_in hl.1 hl.2.1]; exact hl.2.2
  have e1 : ConT (2 * n - 1) (colY n g) false (r + 0) 0 (r' + c') (r' + c') := by
    have := go_right hy r' (by omega) (fun i hi => by
      by_cases h0 : i = 0
      · rw [h0, Nat.add_zero]; exact hc0
      · exact hb _ _ (by omega))
    rwa [Nat.add_comm c' r'] at this
  have e2 : ∃ q, ConT (2 * n - 1) (colY n g) false (r + 0) 0 (2 * n - 2) q := by
    by_cases hq : r' + 1 = n
    · exact ⟨c', by rwa [show r' + c' = 2 * n - 2 by omega] at hy⟩
    · have h1 : ConT (2 * n - 1) (colY n g) false (r + 0) 0 (r' + c' + 1) (c' + 1) := .step hy ⟨r' + c', c', by omega, by omega, by unfold InT; omega, by unfold InT; omega⟩ (hb _ _ (by omega))
      have := go_down h1 (2 * n - 2 - (r' + c' + 1)) (by omega) (fun i hi => hb _ _ (by omega))
      exact ⟨c' + 1, by rwa [show r' + c' + 1 + (2 * n - 2 - (r' + c' + 1)) = 2 * n - 2 by omega] at this⟩
  obtain ⟨q, e2⟩ := e2
  exact ⟨r + 0, r' + c', r' + c', 2 * n - 2, q, e1, rfl, e2, by omega⟩
theorem from_edge {n R C R' C' : Nat} (he : EdgeT (2 * n - 1) R C R' C') : (R' - C' = R - C ∧ C' = C) ∨ HAdj (R - C) C (R' - C') C' := by
  obtain ⟨s, t, h1, h2, h3, h4⟩ := he
  unfold InT at h3 h4
  unfold HAdj
  generalize hx : R - C = x
  generalize hy : R' - C' = y
  rcases h3 with h3 | h3 | h3 <;> rcases h4 with h4 | h4 | h4 <;> first | exact .inl ⟨by omega, by omega⟩ | exact .inr (.inl ⟨by omega, by omega⟩) | exact .inr (.inr (.inl ⟨by omega, by omega⟩)) | exact .inr (.inr (.inr (.inl ⟨by omega, by omega⟩))) | exact .inr (.inr (.inr (.inr (.inl ⟨by omega, by omega⟩)))) | exact .inr (.inr (.inr (.inr (.inr (.inl ⟨by omega, by omega⟩))))) | exact .inr (.inr (.inr (.inr (.inr (.inr (⟨by omega, by omega⟩))))))
theorem from_Y1 {n : Nat} {g : Nat → Nat → Bool} {c0 R C : Nat} (hc : c0 < n) (h : ConT (2 * n - 1) (colY n g) true c0 c0 R C) : (R - C < n ∧ C < n ∧ HCon n g true 0 c0 (R - C) C) ∨ HJoin n g true := by
  induction h with
  | refl h1 h2 h3 =>
    refine .inl ⟨by omega, hc, ?_⟩
    rw [Nat.sub_self]
    refine .refl (by omega) hc ?_
    have e := colY_in (g := g) (show 0 < n by omega) hc
    rw [Nat.zero_add] at e
    rw [← e]; exact h3
  | @step R1 C1 R2 C2 hcon he hf ih =>
    rcases ih with ⟨q1, q2, q3⟩ | ih
    · have hb := he.bound
      have h1 : C2 < n := by
        by_cases h : C2 < n
        · exact h
        · unfold colY at hf; rw [if_pos (by omega)] at hf; cases hf
      by_cases h2 : R2 - C2 < n
      · refine .inl ⟨h2, h1, ?_⟩
        have e := colY_in (g := g) h2 h1
        rw [show R2 - C2 + C2 = R2 by omega, hf] at e
        rcases from_edge he with ⟨e1, e2⟩ | ha
        · rw [e1, e2]; exact q3
        · exact .step q3 ha h2 h1 e.symm
      · refine .inr ⟨c0, R1 - C1, C1, q3, ?_⟩
        obtain ⟨s, t, k1, k2, k3, k4⟩ := he
        unfold InT at k3 k4
        omega
    · exact .inr ih
theorem from_Y2 {n : Nat} {g : Nat → Nat → Bool} {r0 R C : Nat} (hc : r0 < n) (h : ConT (2 * n - 1) (colY n g) false r0 0 R C) : (R - C < n ∧ C < n ∧ HCon n g false r0 0 (R - C) C) ∨ HJoin n g false := by
  induction h with
  | refl h1 h2 h3 =>
    refine .inl ⟨by omega, by omega, ?_⟩
    rw [Nat.sub_zero]
    refine .refl hc (by omega) ?_
    have e := colY_in (g := g) hc (show 0 < n by omega)
    rw [Nat.add_zero] at e
    rw [← e]; exact h3
  | @step R1 C1 R2 C2 hcon he hf ih =>
    rcases ih with ⟨q1, q2, q3⟩ | ih
    · have hb := he.bound
      by_cases h1 : C2 < n
      · have h2 : R2 - C2 < n := by
          by_cases h : R2 - C2 < n
          · exact h
          · unfold colY at hf; rw [if_neg (by omega), if_pos (by omega)] at hf; cases hf
        refine .inl ⟨h2, h1, ?_⟩
        have e := colY_in (g := g) h2 h1
        rw [show R2 - C2 + C2 = R2 by omega, hf] at e
        rcases from_edge he with ⟨e1, e2⟩ | ha
        · rw [e1, e2]; exact q3
        · exact .step q3 ha h2 h1 e.symm
      · refine .inr ⟨r0, R1 - C1, C1, q3, ?_⟩
        obtain ⟨s, t, k1, k2, k3, k4⟩ := he
        unfold InT at k3 k4
        omega
    · exact .inr ih
theorem Y_join {n : Nat} (hn : 1 ≤ n) {g : Nat → Nat → Bool} : ∀ k, HasY (2 * n - 1) (colY n g) k → HJoin n g k
  | true, ⟨a1, a2, b2, a3, b3, h12, h2, h13, h3⟩ => by
    subst h2
    have hl := h12.last
    have hlt : a2 < n := by
      by_cases h : a2 < n
      · exact h
      · have := hl.2.2; unfold colY at this; rw [if_pos (by omega)] at this; cases this
    rcases from_Y1 hlt (h12.symm.trans h13) with ⟨q1, q2, q3⟩ | h
    · exact ⟨a2, _, _, q3, by omega⟩
    · exact h
  | false, ⟨a1, a2, b2, a3, b3, h12, h2, h13, h3⟩ => by
    have hl := h12.first
    have hlt : a1 < n := by
      by_cases h : a1 < n
      · exact h
      · have := hl.2.2; unfold colY at this; rw [if_neg (by omega), if_pos (by omega)] at this; cases this
    rcases from_Y2 hlt h13 with ⟨q1, q2, q3⟩ | h
    · exact ⟨a1, _, _, q3, by have := h13.last; omega⟩
    · exact h
/-- On a full board just one player joins. -/
theorem one_joins {n : Nat} (hn : 1 ≤ n) (g : Nat → Nat → Bool) : ∃ k, HJoin n g k ∧ ¬ HJoin n g (!k) := by
  obtain ⟨k, h1, h2⟩ := one_Y (2 * n - 1) (by omega) (colY n g)
  refine ⟨k, Y_join hn k h1, fun h => h2 ?_⟩
  cases k with
  | true => exact join_Y2 hn h
  | false => exact join_Y1 hn h
-- How far a player's sides are, plain: what the program's rounds come to. costV_small farInit farStep farRound farLoop betterV costV openV lineV IsBest needBest needBest_is count_set getD_set_same getD_set_ne nearV farInit_len farStep_len farRound_len (for 79 70)
/-- A way from the first line to a cell, and the empty cells on it. -/
inductive Cst (s : Int) (l : List Int) (p : Int) : Nat → Int → Prop
  | start (x : Nat) : x < l.length → lineV s p (x : Int) = 0 → openV l p (x : Int) = true → Cst s l p x (costV l (x : Int))
  | step {x y : Nat} {c : Int} : Cst s l p x c → (y : Int) ∈ nearV s (x : Int) → y < l.length → openV l p (y : Int) = true → Cst s l p y (c + costV l (y : Int))
theorem cst_pos {s : Int} {l : List Int} {p : Int} {x : Nat} {c : Int} (h : Cst s l p x c) : 0 ≤ c ∧ x < l.length := by
  induction h with
  | start x h1 _ _ => exact ⟨(costV_small l _).1, h1⟩
  | @step x y c hc hn hy ho ih => exact ⟨by have := ih.1; have := (costV_small l (y : Int)).1; omega, hy⟩
def cntF (far : List (Option Int)) : Nat := (far.filter Option.isSome).length
def msrF : List (Option Int) → Nat
  | [] => 0
  | none :: r => 66 + msrF r
  | some c :: r => c.toNat + msrF r
theorem msr_set : ∀ (far : List (Option Int)) (i : Nat) (c : Int), i < far.length → (∀ m, far.getD i none = some m → 0 ≤ c ∧ c < m) → (far.getD i none = none → c ≤ 65) → msrF (far.set i (some c)) < msrF far
  | [], i, c, h, _, _ => by simp at h
  | a :: r, 0, c, _, h1, h2 => by
    cases a with
    | none =>
      have := h2 rfl
      simp only [List.set_cons_zero, msrF]
      omega
    | some m =>
      have := h1 m rfl
      simp only [List.set_cons_zero, msrF]
      omega
  | a :: r, i + 1, c, h, h1, h2 => by
    have e : (a :: r).getD (i + 1) none = r.getD i none := by simp [List.getD_eq_getElem?_getD]
    rw [e] at h1 h2
    have ih := msr_set r i c (by simpa using h) h1 h2
    cases a with
    | none => simp only [List.set_cons_succ, msrF]; omega
    | some m => simp only [List.set_cons_succ, msrF]; omega
/-- What is told of far cells is so, and the first line is told of. -/
def FarOk (s : Int) (l : List Int) (p : Int) (far : List (Option Int)) : Prop :=
  far.length = l.length ∧ (∀ (x : Nat) (c : Int), far.getD x none = some c → Cst s l p x c ∧ c ≤ (cntF far : Int)) ∧ ∀ x : Nat, x < l.length → lineV s p (x : Int) = 0 → openV l p (x : Int) = true → ∃ c, far.getD x none = some c ∧ c ≤ costV l (x : Int)
theorem cnt_pos {far : List (Option Int)} {x : Nat} {c : Int} (h : far.getD x none = some c) : 1 ≤ cntF far := by
  unfold cntF
  have hx : x < far.length := by
    by_cases hx : x < far.length
    · exact hx
    · rw [List.getD_eq_getElem?_getD, List.getElem?_eq_none (by omega)] at h; cases h
  rw [List.getD_eq_getElem?_getD, List.getElem?_eq_getElem hx] at h
  have hm : far[x] ∈ far.filter Option.isSome := List.mem_filter.2 ⟨List.getElem_mem hx, by rw [show far[x] = some c from h]; rfl⟩
  exact List.length_pos_of_mem hm
theorem far_start {s : Int} {l : List Int} {p : Int} : FarOk s l p (farInit s l p l.length) := by
  have hg : ∀ x : Nat, x < l.length → (farInit s l p l.length).getD x none = if ((lineV s p (x : Int) == 0) && openV l p (x : Int)) = true then some (costV l (x : Int)) else none := fun x hx => by
    rw [List.getD_eq_getElem?_getD, List.getElem?_eq_getElem (by rw [farInit_len]; exact hx)]
    simp [farInit, hx]
  refine ⟨farInit_len _ _ _ _, fun x c h => ?_, fun x hx h1 h2 => ⟨costV l (x : Int), ?_, Int.le_refl _⟩⟩
  · have hx : x < l.length := by
      by_cases hx : x < l.length
      · exact hx
      · rw [List.getD_eq_getElem?_getD, List.getElem?_eq_none (by rw [farInit_len]; omega)] at h; cases h
    have hc := cnt_pos h
    rw [hg x hx] at h
    by_cases hh : ((lineV s p (x : Int) == 0) && openV l p (x : Int)) = true
    · rw [if_pos hh] at h
      injection h with h
      subst h
      simp only [Bool.and_eq_true, beq_iff_eq] at hh
      have := costV_small l (x : Int)
      exact ⟨.start x hx hh.1 hh.2, by omega⟩
    · rw [if_neg hh] at h; cases h
  · rw [hg x hx, if_pos (by rw [h1, h2]; rfl)]
theorem far_put {s : Int} {l : List Int} {p : Int} (h64 : l.length ≤ 64) {far : List (Option Int)} (hf : FarOk s l p far) {y : Nat} {n : Int} (hy : y < l.length) (hn : n ≤ (cntF far : Int)) (hn0 : 0 ≤ n) (hc : Cst s l p y (n + costV l (y : Int))) (hb : match far.getD y none with | none => True | some m => n + costV l (y : Int) < m) :
    FarOk s l p (far.set y (some (n + costV l (y : Int)))) ∧ cntF far ≤ cntF (far.set y (some (n + costV l (y : Int)))) ∧ msrF (far.set y (some (n + costV l (y : Int)))) < msrF far := by
  obtain ⟨h1, h2, h3⟩ := hf
  have hcs := costV_small l (y : Int)
  have hyf : y < far.length := by omega
  have hcnt := count_set far y (n + costV l (y : Int)) hyf
  have hle : cntF far ≤ l.length := by rw [← h1]; exact List.length_filter_le _ _
  have hcge : cntF far ≤ cntF (far.set y (some (n + costV l (y : Int)))) := by
    unfold cntF
    rw [hcnt]
    split <;> omega
  have hnew : n + costV l (y : Int) ≤ (cntF (far.set y (some (n + costV l (y : Int)))) : Int) := by
    cases hg : far.getD y none with
    | none =>
      rw [hg] at hcnt
      unfold cntF at hn ⊢
      rw [hcnt, if_neg (by simp)]
      omega
    | some m =>
      rw [hg] at hb
      have := (h2 y m hg).2
      have hb : n + costV l (y : Int) < m := hb
      omega
  refine ⟨⟨by rw [List.length_set]; exact h1, fun x c h => ?_, fun x hx q1 q2 => ?_⟩, hcge, ?_⟩
  · by_cases e : y = x
    · subst e
      rw [getD_set_same _ _ _ _ hyf] at h
      injection h with h
      subst h
      exact ⟨hc, hnew⟩
    · rw [getD_set_ne _ _ _ _ _ e] at h
      obtain ⟨a, b⟩ := h2 x c h
      exact ⟨a, by omega⟩
  · obtain ⟨c, a, b⟩ := h3 x hx q1 q2
    by_cases e : y = x
    · subst e
      rw [a] at hb
      have hb : n + costV l (y : Int) < c := hb
      exact ⟨_, getD_set_same _ _ _ _ hyf, by omega⟩
    · exact ⟨c, by rw [getD_set_ne _ _ _ _ _ e]; exact a, b⟩
  · refine msr_set far y _ hyf (fun m hm => ?_) (fun _ => by omega)
    rw [hm] at hb
    exact ⟨by omega, hb⟩
theorem better_is {l : List Int} {p n : Int} {far : List (Option Int)} {y : Nat} (hn0 : 0 ≤ n) (hn : n ≤ 64) : betterV l p n far (y : Int) = true ↔ openV l p (y : Int) = true ∧ match far.getD y none with | none => True | some m => n + costV l (y : Int) < m := by
  have hcs := costV_small l (y : Int)
  have hw : wrap64 (n + costV l (y : Int)) = n + costV l (y : Int) := by unfold wrap64; omega
  unfold betterV
  rw [hw, Int.toNat_natCast, Bool.and_eq_true]
  cases far.getD y none with
  | none => simp
  | some m => simp
theorem farStep_ok {s : Int} {l : List Int} {p : Int} (h64 : l.length ≤ 64) {x : Nat} {n : Int} (hx : Cst s l p x n) : ∀ (r : List Int) (far : List (Option Int)) (ch : Bool), (∀ z ∈ r, z ∈ nearV s (x : Int) ∧ ∃ y : Nat, z = (y : Int) ∧ y < l.length) → FarOk s l p far → n ≤ (cntF far : Int) →
    FarOk s l p (farStep l p n r far ch).1 ∧ cntF far ≤ cntF (farStep l p n r far ch).1 ∧ msrF (farStep l p n r far ch).1 ≤ msrF far ∧ ((farStep l p n r far ch).2 = true → ch = true ∨ msrF (farStep l p n r far ch).1 < msrF far) ∧ ((farStep l p n r far ch).2 = false → ch = false ∧ (farStep l p n r far ch).1 = far ∧ ∀ z ∈ r, betterV l p n far z = false)
  | [], far, ch, _, hf, _ => ⟨hf, Nat.le_refl _, Nat.le_refl _, fun h => .inl h, fun h => ⟨h, rfl, fun z hz => absurd hz (by simp)⟩⟩
  | z :: r, far, ch, hr, hf, hn => by
    have hle : cntF far ≤ l.length := by rw [← hf.1]; exact List.length_filter_le _ _
    obtain ⟨hzn, y, rfl, hy⟩ := hr z (List.mem_cons_self ..)
    have hn0 := (cst_pos hx).1
    have hcs := costV_small l (y : Int)
    unfold farStep
    by_cases hb : betterV l p n far (y : Int) = true
    · rw [if_pos hb]
      obtain ⟨b1, b2⟩ := (better_is hn0 (by omega)).1 hb
      have hw : wrap64 (n + costV l (y : Int)) = n + costV l (y : Int) := by unfold wrap64; omega
      rw [hw, Int.toNat_natCast]
      obtain ⟨p1, p2, p3⟩ := far_put h64 hf hy hn hn0 (.step hx hzn hy b1) b2
      obtain ⟨q1, q2, q3, q4, q5⟩ := farStep_ok h64 hx r _ true (fun z hz => hr z (List.mem_cons_of_mem _ hz)) p1 (by omega)
      exact ⟨q1, by omega, by omega, fun _ => .inr (by omega), fun h => absurd (q5 h).1 (by simp)⟩
    · rw [if_neg hb]
      obtain ⟨q1, q2, q3, q4, q5⟩ := farStep_ok h64 hx r far ch (fun z hz => hr z (List.mem_cons_of_mem _ hz)) hf hn
      refine ⟨q1, q2, q3, q4, fun h => ?_⟩
      obtain ⟨a, b, c⟩ := q5 h
      refine ⟨a, b, fun z hz => ?_⟩
      rcases List.mem_cons.1 hz with rfl | hz
      · simpa using hb
      · exact c z hz
def NearIn (s : Int) (l : List Int) : Prop := ∀ x : Nat, x < l.length → ∀ z ∈ nearV s (x : Int), ∃ y : Nat, z = (y : Int) ∧ y < l.length
theorem farRound_ok {s : Int} {l : List Int} {p : Int} (h64 : l.length ≤ 64) (hnear : NearIn s l) : ∀ (d c : Nat) (far : List (Option Int)) (ch : Bool), c + d = l.length → FarOk s l p far →
    FarOk s l p (farRound s l p d c far ch).1 ∧ cntF far ≤ cntF (farRound s l p d c far ch).1 ∧ msrF (farRound s l p d c far ch).1 ≤ msrF far ∧ ((farRound s l p d c far ch).2 = true → ch = true ∨ msrF (farRound s l p d c far ch).1 < msrF far) ∧ ((farRound s l p d c far ch).2 = false → ch = false ∧ (farRound s l p d c far ch).1 = far ∧ ∀ x : Nat, c ≤ x → x < l.length → ∀ n, far.getD x none = some n → ∀ z ∈ nearV s (x : Int), betterV l p n far z = false)
  | 0, c, far, ch, hc, hf => ⟨hf, Nat.le_refl _, Nat.le_refl _, fun h => .inl h, fun h => ⟨h, rfl, fun x h1 h2 => by omega⟩⟩
  | d + 1, c, far, ch, hc, hf => by
    unfold farRound
    cases hg : far.getD c none with
    | none =>
      obtain ⟨q1, q2, q3, q4, q5⟩ := farRound_ok h64 hnear d (c + 1) far ch (by omega) hf
      refine ⟨q1, q2, q3, q4, fun h => ?_⟩
      obtain ⟨a, b, e⟩ := q5 h
      refine ⟨a, b, fun x h1 h2 n hn z hz => ?_⟩
      by_cases hx : x = c
      · subst hx; rw [hg] at hn; cases hn
      · exact e x (by omega) h2 n hn z hz
    | some n =>
      obtain ⟨hx, hn⟩ := hf.2.1 c n hg
      obtain ⟨p1, p2, p3, p4, p5⟩ := farStep_ok h64 hx (nearV s (c : Int)) far ch (fun z hz => ⟨hz, hnear c (by omega) z hz⟩) hf hn
      obtain ⟨q1, q2, q3, q4, q5⟩ := farRound_ok h64 hnear d (c + 1) (farStep l p n (nearV s (c : Int)) far ch).1 (farStep l p n (nearV s (c : Int)) far ch).2 (by omega) p1
      dsimp only
      refine ⟨q1, by omega, by omega, fun h => ?_, fun h => ?_⟩
      · rcases q4 h with h | h
        · rcases p4 h with h | h
          · exact .inl h
          · exact .inr (by omega)
        · exact .inr (by omega)
      · obtain ⟨a, b, e⟩ := q5 h
        obtain ⟨a2, b2, e2⟩ := p5 a
        refine ⟨a2, b.trans b2, fun x h1 h2 m hm z hz => ?_⟩
        by_cases hxc : x = c
        · subst hxc
          rw [hg] at hm
          injection hm with hm
          subst hm
          exact e2 z hz
        · have := e x (by omega) h2 m (by rw [b2]; exact hm) z hz
          rwa [b2] at this
/-- Nothing gets nearer any more. -/
def FarFix (s : Int) (l : List Int) (p : Int) (far : List (Option Int)) : Prop := ∀ x : Nat, x < l.length → ∀ n, far.getD x none = some n → ∀ z ∈ nearV s (x : Int), betterV l p n far z = false
theorem farLoop_end {s : Int} {l : List Int} {p : Int} (h64 : l.length ≤ 64) (hnear : NearIn s l) : ∀ (M : Nat) (far : List (Option Int)), msrF far ≤ M → FarOk s l p far → ∃ farE, FarOk s l p farE ∧ FarFix s l p farE ∧ Ev (fun k => farLoop s l p k true far) farE := by
  intro M
  induction M with
  | zero =>
    intro far hm hf
    obtain ⟨q1, q2, q3, q4, q5⟩ := farRound_ok h64 hnear l.length 0 far false (by omega) hf
    cases hch : (farRound s l p l.length 0 far false).2 with
    | true =>
      rcases q4 hch with h | h
      · cases h
      · omega
    | false =>
      obtain ⟨_, b, e⟩ := q5 hch
      refine ⟨far, hf, fun x hx => e x (by omega) hx, Ev.step (f := fun k => farLoop s l p k false far) (fun k => ?_) (Ev.step (f := fun _ => some far) (fun k => ?_) (Ev.now _))⟩
      · rw [farLoop, if_pos rfl, hch, b]
      · rw [farLoop, if_neg (by simp)]
  | succ M ih =>
    intro far hm hf
    obtain ⟨q1, q2, q3, q4, q5⟩ := farRound_ok h64 hnear l.length 0 far false (by omega) hf
    cases hch : (farRound s l p l.length 0 far false).2 with
    | true =>
      rcases q4 hch with h | h
      · cases h
      · obtain ⟨farE, e1, e2, e3⟩ := ih _ (by omega) q1
        refine ⟨farE, e1, e2, Ev.step (fun k => ?_) e3⟩
        rw [farLoop, if_pos rfl, hch]
    | false =>
      obtain ⟨_, b, e⟩ := q5 hch
      refine ⟨far, hf, fun x hx => e x (by omega) hx, Ev.step (f := fun k => farLoop s l p k false far) (fun k => ?_) (Ev.step (f := fun _ => some far) (fun k => ?_) (Ev.now _))⟩
      · rw [farLoop, if_pos rfl, hch, b]
      · rw [farLoop, if_neg (by simp)]
theorem far_all {s : Int} {l : List Int} {p : Int} (h64 : l.length ≤ 64) {far : List (Option Int)} (hf : FarOk s l p far) (hx : FarFix s l p far) {x : Nat} {c : Int} (h : Cst s l p x c) : ∃ c', far.getD x none = some c' ∧ c' ≤ c := by
  have hle : cntF far ≤ l.length := by rw [← hf.1]; exact List.length_filter_le _ _
  induction h with
  | start x h1 h2 h3 => exact hf.2.2 x h1 h2 h3
  | @step x y c hc hn hy ho ih =>
    obtain ⟨c', e, hc'⟩ := ih
    have hb := hx x (cst_pos hc).2 c' e (y : Int) hn
    obtain ⟨hcst, hcn⟩ := hf.2.1 x c' e
    have hc0 := (cst_pos hcst).1
    cases hg : far.getD y none with
    | none =>
      have := (better_is (l := l) (p := p) (far := far) (y := y) hc0 (by omega)).2 ⟨ho, by rw [hg]; trivial⟩
      rw [this] at hb; cases hb
    | some m =>
      refine ⟨m, rfl, ?_⟩
      by_cases hlt : c' + costV l (y : Int) < m
      · have := (better_is (l := l) (p := p) (far := far) (y := y) hc0 (by omega)).2 ⟨ho, by rw [hg]; exact hlt⟩
        rw [this] at hb; cases hb
      · omega
/-- The least number of empty cells that a player has to get, -1 for none. -/
def LeastC (s : Int) (l : List Int) (p v : Int) : Prop :=
  (v = -1 ∧ ∀ (x : Nat) (c : Int), Cst s l p x c → lineV s p (x : Int) ≠ s - 1) ∨ (0 ≤ v ∧ (∃ x : Nat, Cst s l p x v ∧ lineV s p (x : Int) = s - 1) ∧ ∀ (x : Nat) (c : Int), Cst s l p x c → lineV s p (x : Int) = s - 1 → v ≤ c)
theorem LeastC.unique {s : Int} {l : List Int} {p v v' : Int} (h : LeastC s l p v) (h' : LeastC s l p v') : v = v' := by
  rcases h with ⟨rfl, h⟩ | ⟨h0, ⟨x, hx, hl⟩, hm⟩
  · rcases h' with ⟨rfl, _⟩ | ⟨_, ⟨x', hx', hl'⟩, _⟩
    · rfl
    · exact absurd hl' (h x' _ hx')
  · rcases h' with ⟨rfl, h'⟩ | ⟨h0', ⟨x', hx', hl'⟩, hm'⟩
    · exact absurd hl (h' x _ hx)
    · have := hm x' _ hx' hl'
      have := hm' x _ hx hl
      omega
theorem best_least {s : Int} {l : List Int} {p : Int} (h64 : l.length ≤ 64) {far : List (Option Int)} (hf : FarOk s l p far) (hx : FarFix s l p far) : LeastC s l p (needBest s p far 0 (-1)) := by
  have hpos : ∀ o ∈ far, ∀ c, o = some c → 0 ≤ c := fun o ho c hc => by
    obtain ⟨i, hi, rfl⟩ := List.mem_iff_getElem.1 ho
    have := hf.2.1 i c (by rw [List.getD_eq_getElem?_getD, List.getElem?_eq_getElem hi]; exact hc)
    exact (cst_pos this.1).1
  have h0 : IsBest s p far.length far (fun y => decide (y < ((0 : Nat) : Int))) (-1) := .inl ⟨rfl, fun x c h1 _ hg _ => by simp at hg; omega⟩
  have hb := needBest_is s p far hpos far 0 (-1) rfl (Nat.zero_le _) h0
  rcases hb with ⟨e, h⟩ | ⟨hv, ⟨x, h1, h2, _, h3, h4⟩, hm⟩
  · refine .inl ⟨e, fun x c hc hl => ?_⟩
    obtain ⟨c', hg, _⟩ := far_all h64 hf hx hc
    exact h (x : Int) c' (by omega) (by have := (cst_pos hc).2; have := hf.1; omega) rfl (by rw [Int.toNat_natCast]; exact hg) hl
  · refine .inr ⟨hv, ⟨x.toNat, (hf.2.1 _ _ h3).1, by rw [Int.toNat_of_nonneg h1]; exact h4⟩, fun y c hc hl => ?_⟩
    obtain ⟨c', hg, hle⟩ := far_all h64 hf hx hc
    have := hm (y : Int) c' (by omega) (by have := (cst_pos hc).2; have := hf.1; omega) rfl (by rw [Int.toNat_natCast]; exact hg) hl
    omega
-- Who joins on a board of Hex, as a way from side to side. HAdj HCon HJoin one_joins nearV nearTo nearOk nearOne nearDirs (for 79)
/-- Player p joins (1: row 0 to the last row, 2: column 0 to the last column). -/
def ownC (n : Nat) (l : List Int) (p : Int) (r c : Nat) : Bool := rd l ((r * n + c : Nat) : Int) == p
def JoinP (n : Nat) (l : List Int) (p : Int) : Prop :=
  if p = 1 then ∃ c r c', HCon n (ownC n l p) true 0 c r c' ∧ r + 1 = n else ∃ r r' c', HCon n (ownC n l p) true r 0 r' c' ∧ c' + 1 = n
theorem hcon_map {n : Nat} {g g' : Nat → Nat → Bool} {k k' : Bool} (h : ∀ a b, a < n → b < n → g a b = k → g' a b = k') {a b a' b' : Nat} (hc : HCon n g k a b a' b') : HCon n g' k' a b a' b' := by
  induction hc with
  | refl h1 h2 h3 => exact .refl h1 h2 (h _ _ h1 h2 h3)
  | step _ ha h1 h2 h3 ih => exact .step ih ha h1 h2 (h _ _ h1 h2 h3)
theorem join_map {n : Nat} {l l' : List Int} {p : Int} (h : ∀ i, i < n * n → rd l (i : Int) = p → rd l' (i : Int) = p) (hj : JoinP n l p) : JoinP n l' p := by
  have hm : ∀ a b, a < n → b < n → ownC n l p a b = true → ownC n l' p a b = true := fun a b ha hb hh => by
    unfold ownC at hh ⊢
    have hi : a * n + b < n * n := by
      have h1 : (a + 1) * n ≤ n * n := Nat.mul_le_mul_right n (by omega)
      rw [Nat.succ_mul] at h1
      omega
    exact beq_iff_eq.2 (h _ hi (beq_iff_eq.1 hh))
  unfold JoinP at hj ⊢
  split at hj
  · rename_i hp
    rw [if_pos hp]
    obtain ⟨c, r, c', h1, h2⟩ := hj
    exact ⟨c, r, c', hcon_map hm h1, h2⟩
  · rename_i hp
    rw [if_neg hp]
    obtain ⟨c, r, c', h1, h2⟩ := hj
    exact ⟨c, r, c', hcon_map hm h1, h2⟩
/-- The board's cells, told by their rows and columns. -/
theorem cell_split {n i : Nat} (h : i < n * n) : i / n < n ∧ i % n < n ∧ i / n * n + i % n = i := by
  have hn : 0 < n := by
    rcases Nat.eq_zero_or_pos n with h0 | h0
    · subst h0; simp at h
    · exact h0
  exact ⟨Nat.div_lt_of_lt_mul h, Nat.mod_lt _ hn, by rw [Nat.mul_comm]; exact Nat.div_add_mod i n⟩
def FullB (n : Nat) (l : List Int) : Prop := ∀ i, i < n * n → rd l (i : Int) = 1 ∨ rd l (i : Int) = 2
theorem full_join {n : Nat} {l : List Int} (hf : FullB n l) : (JoinP n l 1 ↔ HJoin n (ownC n l 1) true) ∧ (JoinP n l 2 ↔ HJoin n (ownC n l 1) false) := by
  have hi : ∀ a b, a < n → b < n → a * n + b < n * n := fun a b ha hb => by
    have h1 : (a + 1) * n ≤ n * n := Nat.mul_le_mul_right n (by omega)
    rw [Nat.succ_mul] at h1
    omega
  have h12 : ∀ a b, a < n → b < n → (ownC n l 2 a b = true ↔ ownC n l 1 a b = false) := fun a b ha hb => by
    unfold ownC
    rcases hf _ (hi a b ha hb) with h | h <;> rw [h] <;> simp
  constructor
  · unfold JoinP
    rw [if_pos rfl]
    exact Iff.rfl
  · unfold JoinP
    rw [if_neg (by omega)]
    constructor
    · rintro ⟨r, r', c', h1, h2⟩
      exact ⟨r, r', c', hcon_map (fun a b ha hb h => (h12 a b ha hb).1 h) h1, h2⟩
    · rintro ⟨r, r', c', h1, h2⟩
      exact ⟨r, r', c', hcon_map (fun a b ha hb h => (h12 a b ha hb).2 h) h1, h2⟩
/-- On a full board just one player joins. -/
theorem full_one {n : Nat} (hn : 1 ≤ n) {l : List Int} (hf : FullB n l) : (JoinP n l 1 ∨ JoinP n l 2) ∧ ¬ (JoinP n l 1 ∧ JoinP n l 2) := by
  obtain ⟨e1, e2⟩ := full_join hf
  obtain ⟨k, h1, h2⟩ := one_joins hn (ownC n l 1)
  rw [e1, e2]
  cases k with
  | true => exact ⟨.inl h1, fun h => h2 h.2⟩
  | false => exact ⟨.inr h1, fun h => h2 h.1⟩
theorem near_val : ∀ (n : Fin 9) (r c : Fin 8), ∀ e ∈ nearDirs, r.val < n.val → c.val < n.val → nearOk n.val r.val c.val e = decide (0 ≤ (r.val : Int) + e.1 ∧ (r.val : Int) + e.1 < n.val ∧ 0 ≤ (c.val : Int) + e.2 ∧ (c.val : Int) + e.2 < n.val) ∧ nearOne n.val r.val c.val e = ((r.val : Int) + e.1) * n.val + ((c.val : Int) + e.2) := by
  decide +kernel
theorem near_mem {n r c r' c' : Nat} (h8 : n ≤ 8) (hr : r < n) (hc : c < n) (hr' : r' < n) (hc' : c' < n) : ((r' * n + c' : Nat) : Int) ∈ nearV n ((r * n + c : Nat) : Int) ↔ HAdj r c r' c' := by
  have hv := near_val ⟨n, by omega⟩ ⟨r, by omega⟩ ⟨c, by omega⟩
  have hd : wrap64 (Int.tdiv ((r * n + c : Nat) : Int) (n : Int)) = (r : Int) := by
    have e : Int.tdiv ((r * n + c : Nat) : Int) (n : Int) = ((r * n + c) / n : Nat) := rfl
    rw [e, Nat.mul_comm, Nat.mul_add_div (by omega), Nat.div_eq_of_lt hc, Nat.add_zero]
    unfold wrap64
    omega
  have hm : Int.tmod ((r * n + c : Nat) : Int) (n : Int) = (c : Int) := by
    have e : Int.tmod ((r * n + c : Nat) : Int) (n : Int) = ((r * n + c) % n : Nat) := rfl
    rw [e, Nat.mul_comm, Nat.mul_add_mod, Nat.mod_eq_of_lt hc]
  unfold nearV nearTo
  rw [hd, hm]
  clear hd hm
  simp only [List.mem_map, List.mem_filter]
  have key : ∀ e ∈ nearDirs, (nearOk n r c e = true ∧ nearOne n r c e = ((r' * n + c' : Nat) : Int)) ↔ ((r' : Int) = r + e.1 ∧ (c' : Int) = c + e.2) := fun e he => by
    obtain ⟨h1, h2⟩ := hv e he hr hc
    simp only at h1 h2
    rw [h1, h2, decide_eq_true_iff]
    constructor
    · rintro ⟨⟨a1, a2, a3, a4⟩, a5⟩
      obtain ⟨x, hx⟩ : ∃ x : Nat, (r : Int) + e.1 = x := ⟨((r : Int) + e.1).toNat, by omega⟩
      obtain ⟨y, hy⟩ : ∃ y : Nat, (c : Int) + e.2 = y := ⟨((c : Int) + e.2).toNat, by omega⟩
      rw [hx, hy] at a5
      rw [hx, hy]
      have a6 : x * n + y = r' * n + c' := by
        have : ((x * n + y : Nat) : Int) = ((r' * n + c' : Nat) : Int) := by rw [← a5, Int.natCast_add, Int.natCast_mul]
        omega
      have hy' : y < n := by omega
      have e1 : (x * n + y) / n = x := by rw [Nat.mul_comm, Nat.mul_add_div (by omega), Nat.div_eq_of_lt hy', Nat.add_zero]
      have e2 : (r' * n + c') / n = r' := by rw [Nat.mul_comm, Nat.mul_add_div (by omega), Nat.div_eq_of_lt hc', Nat.add_zero]
      have e3 : x = r' := by rw [← e1, ← e2, a6]
      subst e3
      omega
    · rintro ⟨a1, a2⟩
      rw [← a1, ← a2]
      refine ⟨by omega, ?_⟩
      rw [Int.natCast_add, Int.natCast_mul]
  constructor
  · rintro ⟨e, ⟨he, ho⟩, hq⟩
    have := (key e he).1 ⟨ho, hq⟩
    unfold nearDirs at he
    simp only [List.mem_cons, List.not_mem_nil, or_false] at he
    unfold HAdj
    rcases he with rfl | rfl | rfl | rfl | rfl | rfl <;> simp only at this <;> omega
  · intro h
    have hx : ∃ e ∈ nearDirs, (r' : Int) = r + e.1 ∧ (c' : Int) = c + e.2 := by
      unfold HAdj at h
      rcases h with h | h | h | h | h | h
      · exact ⟨(1, 0), by decide, by simp only; omega, by simp only; omega⟩
      · exact ⟨(-1, 0), by decide, by simp only; omega, by simp only; omega⟩
      · exact ⟨(0, 1), by decide, by simp only; omega, by simp only; omega⟩
      · exact ⟨(0, -1), by decide, by simp only; omega, by simp only; omega⟩
      · exact ⟨(-1, 1), by decide, by simp only; omega, by simp only; omega⟩
      · exact ⟨(1, -1), by decide, by simp only; omega, by simp only; omega⟩
    obtain ⟨e, he, hq⟩ := hx
    obtain ⟨h1, h2⟩ := (key e he).2 hq
    exact ⟨e, ⟨he, h1⟩, h2⟩
-- No empty cell is needed just where the player joins. Cst LeastC costV openV lineV JoinP HCon HAdj ownC near_mem cell_split FarOk far_start farLoop_end best_least NearIn nearV_ok isHexV_cells hex_small needBest farLoop farInit (for 79 70)
theorem line_val1 {n x : Nat} (hx : x < n * n) (h8 : n ≤ 8) (p : Int) : lineV (n : Int) p (x : Int) = if p = 1 then ((x / n : Nat) : Int) else ((x % n : Nat) : Int) := by
  unfold lineV
  have e : Int.tdiv (x : Int) (n : Int) = ((x / n : Nat) : Int) := rfl
  have e2 : Int.tmod (x : Int) (n : Int) = ((x % n : Nat) : Int) := rfl
  rw [e, e2]
  have hd := (cell_split hx).1
  by_cases hp : p = 1
  · rw [if_pos hp, if_pos hp]
    clear e e2
    generalize x / n = q at hd ⊢
    unfold wrap64
    omega
  · rw [if_neg hp, if_neg hp]
theorem cell_val {n r c : Nat} (hr : r < n) (hc : c < n) : (r * n + c) / n = r ∧ (r * n + c) % n = c ∧ r * n + c < n * n := by
  refine ⟨by rw [Nat.mul_comm, Nat.mul_add_div (by omega), Nat.div_eq_of_lt hc, Nat.add_zero], by rw [Nat.mul_comm, Nat.mul_add_mod, Nat.mod_eq_of_lt hc], ?_⟩
  have h1 : (r + 1) * n ≤ n * n := Nat.mul_le_mul_right n (by omega)
  rw [Nat.succ_mul] at h1
  omega
theorem cost_zero {l : List Int} {p : Int} {y : Int} (hp : p ≠ 0) (ho : openV l p y = true) (hc : costV l y = 0) : rd l y = p := by
  unfold costV at hc
  unfold openV at ho
  split at hc
  · cases hc
  · rename_i h
    simp only [Bool.or_eq_true, beq_iff_eq] at ho
    rcases ho with h2 | h2
    · exact absurd h2 h
    · exact h2
theorem own_cost {l : List Int} {p : Int} {y : Int} (hp : p ≠ 0) (h : rd l y = p) : openV l p y = true ∧ costV l y = 0 := by
  unfold openV costV
  rw [h, if_neg hp]
  simp
theorem cst_con {n : Nat} (h8 : n ≤ 8) {l : List Int} (hl : l.length = n * n) {p : Int} (hp : p ≠ 0) {x : Nat} {c : Int} (h : Cst (n : Int) l p x c) : c = 0 → ∃ r0 c0, (if p = 1 then r0 = 0 else c0 = 0) ∧ HCon n (ownC n l p) true r0 c0 (x / n) (x % n) := by
  have own : ∀ y : Nat, y < n * n → rd l (y : Int) = p → ownC n l p (y / n) (y % n) = true := fun y hy h => by
    unfold ownC
    rw [(cell_split hy).2.2, h]
    exact beq_self_eq_true p
  induction h with
  | start x hx hz ho =>
    intro hc
    have hx' : x < n * n := by omega
    have ho2 := own x hx' (cost_zero hp ho hc)
    obtain ⟨h1, h2, _⟩ := cell_split hx'
    rw [line_val1 hx' h8] at hz
    refine ⟨x / n, x % n, ?_, .refl h1 h2 ho2⟩
    by_cases hp1 : p = 1
    · rw [if_pos hp1] at hz ⊢; omega
    · rw [if_neg hp1] at hz ⊢; omega
  | @step x y c hcs hn hy ho ih =>
    intro hc
    have hcp := (cst_pos hcs).1
    have hyc := (costV_small l (y : Int)).1
    obtain ⟨r0, c0, h0, hcon⟩ := ih (by omega)
    have hx' : x < n * n := by have := (cst_pos hcs).2; omega
    have hy' : y < n * n := by omega
    obtain ⟨a1, a2, a3⟩ := cell_split hx'
    obtain ⟨b1, b2, b3⟩ := cell_split hy'
    have ha := near_mem (n := n) h8 a1 a2 b1 b2
    rw [a3, b3] at ha
    exact ⟨r0, c0, h0, .step hcon (ha.1 hn) b1 b2 (own y hy' (cost_zero hp ho (by omega)))⟩
theorem con_cst {n : Nat} (h8 : n ≤ 8) {l : List Int} (hl : l.length = n * n) {p : Int} (hp : p ≠ 0) {a b r c : Nat} (h0 : if p = 1 then a = 0 else b = 0) (h : HCon n (ownC n l p) true a b r c) : Cst (n : Int) l p (r * n + c) 0 := by
  have own : ∀ r c, ownC n l p r c = true → rd l ((r * n + c : Nat) : Int) = p := fun r c h => by
    unfold ownC at h
    exact beq_iff_eq.1 h
  induction h with
  | refl h1 h2 h3 =>
    obtain ⟨v1, v2, v3⟩ := cell_val h1 h2
    obtain ⟨o1, o2⟩ := own_cost hp (own _ _ h3)
    have := Cst.start (s := (n : Int)) (p := p) (l := l) (a * n + b) (by omega) (by
      rw [line_val1 v3 h8, v1, v2]
      by_cases hp1 : p = 1
      · rw [if_pos hp1] at h0 ⊢; omega
      · rw [if_neg hp1] at h0 ⊢; omega) o1
    rwa [o2] at this
  | @step r1 c1 r2 c2 hc ha h1 h2 h3 ih =>
    obtain ⟨v1, v2, v3⟩ := cell_val h1 h2
    obtain ⟨o1, o2⟩ := own_cost hp (own _ _ h3)
    have hl2 := hc.last
    have := Cst.step ih ((near_mem h8 hl2.1 hl2.2.1 h1 h2).2 ha) (by omega) o1
    rwa [o2] at this
theorem join_least {n : Nat} (h1 : 1 ≤ n) (h8 : n ≤ 8) {l : List Int} (hl : l.length = n * n) {p : Int} (hp : p ≠ 0) (hj : JoinP n l p) : LeastC (n : Int) l p 0 := by
  have hex : ∃ x : Nat, Cst (n : Int) l p x 0 ∧ lineV (n : Int) p (x : Int) = n - 1 := by
    unfold JoinP at hj
    by_cases hp1 : p = 1
    · rw [if_pos hp1] at hj
      obtain ⟨c, r, c', hcon, hr⟩ := hj
      have hl2 := hcon.last
      obtain ⟨v1, v2, v3⟩ := cell_val hl2.1 hl2.2.1
      exact ⟨r * n + c', con_cst h8 hl hp (by rw [if_pos hp1]) hcon, by rw [line_val1 v3 h8, if_pos hp1, v1]; omega⟩
    · rw [if_neg hp1] at hj
      obtain ⟨r, r', c', hcon, hr⟩ := hj
      have hl2 := hcon.last
      obtain ⟨v1, v2, v3⟩ := cell_val hl2.1 hl2.2.1
      exact ⟨r' * n + c', con_cst h8 hl hp (by rw [if_neg hp1]) hcon, by rw [line_val1 v3 h8, if_neg hp1, v2]; omega⟩
  exact .inr ⟨Int.le_refl _, hex, fun y c hy _ => (cst_pos hy).1⟩
theorem least_join {n : Nat} (h1 : 1 ≤ n) (h8 : n ≤ 8) {l : List Int} (hl : l.length = n * n) {p v : Int} (hp : p ≠ 0) (hv : LeastC (n : Int) l p v) : v = 0 ↔ JoinP n l p := by
  constructor
  · rintro rfl
    rcases hv with ⟨h, _⟩ | ⟨_, ⟨x, hx, hlx⟩, _⟩
    · cases h
    · obtain ⟨r0, c0, h0, hcon⟩ := cst_con h8 hl hp hx rfl
      have hx' : x < n * n := by have := (cst_pos hx).2; omega
      rw [line_val1 hx' h8] at hlx
      unfold JoinP
      by_cases hp1 : p = 1
      · rw [if_pos hp1] at h0 hlx ⊢
        subst h0
        exact ⟨c0, _, _, hcon, by omega⟩
      · rw [if_neg hp1] at h0 hlx ⊢
        subst h0
        exact ⟨r0, _, _, hcon, by omega⟩
  · exact fun hj => hv.unique (join_least h1 h8 hl hp hj)
-- The reference's search for a joined side, plain. Cst LeastC costV openV lineV JoinP near_mem line_val1 cost_zero own_cost least_join cst_pos (for 79)
def trueN : List Bool → Nat
  | [] => 0
  | true :: r => trueN r + 1
  | false :: r => trueN r
theorem trueN_le : ∀ l : List Bool, trueN l ≤ l.length
  | [] => Nat.le_refl _
  | true :: r => by have := trueN_le r; simp only [trueN, List.length_cons]; omega
  | false :: r => by have := trueN_le r; simp only [trueN, List.length_cons]; omega
theorem trueN_set : ∀ (l : List Bool) (i : Nat), i < l.length → l.getD i false = false → trueN (l.set i true) = trueN l + 1
  | [], i, h, _ => by simp at h
  | b :: r, 0, _, h => by
    have : b = false := by simpa [List.getD_eq_getElem?_getD] using h
    subst this
    simp [trueN]
  | b :: r, i + 1, h, h2 => by
    have e : (b :: r).getD (i + 1) false = r.getD i false := by simp [List.getD_eq_getElem?_getD]
    rw [e] at h2
    have := trueN_set r i (by simpa using h) h2
    cases b <;> simp only [List.set_cons_succ, trueN] <;> omega
theorem getDb_same (l : List Bool) (i : Nat) (h : i < l.length) : (l.set i true).getD i false = true := by
  rw [List.getD_eq_getElem?_getD, List.getElem?_set_self (by simpa using h)]; rfl
theorem getDb_ne (l : List Bool) (i j : Nat) (h : i ≠ j) : (l.set i true).getD j false = l.getD j false := by
  rw [List.getD_eq_getElem?_getD, List.getD_eq_getElem?_getD, List.getElem?_set_ne h]
theorem trueN_rep : ∀ n, trueN (List.replicate n false) = 0
  | 0 => rfl
  | n + 1 => trueN_rep n
/-- What is met is in the queue, and reached. -/
def BInv (n : Nat) (l : List Int) (p : Int) (met : List Bool) (q : List Int) : Prop :=
  met.length = n * n ∧ q.length = trueN met ∧ (∀ x ∈ q, ∃ i : Nat, x = (i : Int) ∧ i < n * n ∧ Cst (n : Int) l p i 0) ∧ ∀ i : Nat, met.getD i false = true → (i : Int) ∈ q
theorem BInv.len {n : Nat} {l : List Int} {p : Int} {met : List Bool} {q : List Int} (h : BInv n l p met q) : q.length ≤ n * n := by
  rw [h.2.1, ← h.1]; exact trueN_le _
theorem BInv.empty (n : Nat) (l : List Int) (p : Int) : BInv n l p (List.replicate (n * n) false) [] := by
  refine ⟨by simp, by rw [trueN_rep]; rfl, fun x hx => absurd hx (by simp), fun i hi => ?_⟩
  rw [List.getD_eq_getElem?_getD, List.getElem?_replicate] at hi
  split at hi <;> simp at hi
theorem BInv.put {n : Nat} {l : List Int} {p : Int} {met : List Bool} {q : List Int} (h : BInv n l p met q) {y : Nat} (hy : y < n * n) (hm : met.getD y false = false) (hc : Cst (n : Int) l p y 0) : BInv n l p (met.set y true) (q ++ [(y : Int)]) := by
  obtain ⟨h1, h2, h3, h4⟩ := h
  refine ⟨by rw [List.length_set]; exact h1, by rw [List.length_append, h2, trueN_set _ _ (by omega) hm]; rfl, fun x hx => ?_, fun i hi => ?_⟩
  · rcases List.mem_append.1 hx with hx | hx
    · exact h3 x hx
    · rw [List.mem_singleton] at hx
      exact ⟨y, hx, hy, hc⟩
  · by_cases e : y = i
    · subst e; exact List.mem_append_right _ (List.mem_singleton.2 rfl)
    · rw [getDb_ne _ _ _ e] at hi
      exact List.mem_append_left _ (h4 i hi)
/-- A round over the neighbours. -/
def bfsNear (l : List Int) (p : Int) : List Int → List Bool → List Int → List Bool × List Int
  | [], met, q => (met, q)
  | z :: r, met, q => if met.getD z.toNat false = false ∧ rd l z = p then bfsNear l p r (met.set z.toNat true) (q ++ [z]) else bfsNear l p r met q
theorem bfsNear_ok {n : Nat} {l : List Int} (hl : l.length = n * n) {p : Int} (hp : p ≠ 0) {x : Nat} (hx : Cst (n : Int) l p x 0) : ∀ (r : List Int) (met : List Bool) (q : List Int), (∀ z ∈ r, z ∈ nearV (n : Int) (x : Int) ∧ ∃ y : Nat, z = (y : Int) ∧ y < n * n) → BInv n l p met q →
    BInv n l p (bfsNear l p r met q).1 (bfsNear l p r met q).2 ∧ (∃ t, (bfsNear l p r met q).2 = q ++ t) ∧ (∀ i, met.getD i false = true → (bfsNear l p r met q).1.getD i false = true) ∧ ∀ z ∈ r, rd l z = p → (bfsNear l p r met q).1.getD z.toNat false = true
  | [], met, q, _, h => ⟨h, ⟨[], by simp [bfsNear]⟩, fun i hi => hi, fun z hz => absurd hz (by simp)⟩
  | z :: r, met, q, hr, h => by
    obtain ⟨hzn, y, rfl, hy⟩ := hr z (List.mem_cons_self ..)
    have hr2 : ∀ z ∈ r, z ∈ nearV (n : Int) (x : Int) ∧ ∃ y : Nat, z = (y : Int) ∧ y < n * n := fun z hz => hr z (List.mem_cons_of_mem _ hz)
    unfold bfsNear
    rw [Int.toNat_natCast]
    by_cases hc : met.getD y false = false ∧ rd l (y : Int) = p
    · rw [if_pos hc]
      obtain ⟨o1, o2⟩ := own_cost hp hc.2
      have hcy := Cst.step hx hzn (by omega) o1
      rw [o2] at hcy
      obtain ⟨a, ⟨t, b⟩, c, d⟩ := bfsNear_ok hl hp hx r _ _ hr2 (h.put hy hc.1 hcy)
      refine ⟨a, ⟨(y : Int) :: t, by rw [b]; simp⟩, fun i hi => c i ?_, fun w hw hwp => ?_⟩
      · by_cases e : y = i
        · subst e; exact getDb_same _ _ (by rw [h.1]; exact hy)
        · rw [getDb_ne _ _ _ e]; exact hi
      · rcases List.mem_cons.1 hw with rfl | hw
        · rw [Int.toNat_natCast]
          exact c y (getDb_same _ _ (by rw [h.1]; exact hy))
        · exact d w hw hwp
    · rw [if_neg hc]
      obtain ⟨a, b, c, d⟩ := bfsNear_ok hl hp hx r met q hr2 h
      refine ⟨a, b, c, fun w hw hwp => ?_⟩
      rcases List.mem_cons.1 hw with rfl | hw
      · rw [Int.toNat_natCast]
        refine c y ?_
        cases hm : met.getD y false with
        | true => rfl
        | false => exact absurd ⟨hm, hwp⟩ hc
      · exact d w hw hwp
/-- What has been looked at. -/
def BDone (n : Nat) (l : List Int) (p : Int) (met : List Bool) (q : List Int) (at_ : Nat) : Prop :=
  at_ ≤ q.length ∧ ∀ j (hj : j < q.length), j < at_ → lineV (n : Int) p q[j] ≠ (n : Int) - 1 ∧ ∀ z ∈ nearV (n : Int) q[j], rd l z = p → met.getD z.toNat false = true
theorem bfs_none {n : Nat} (h1 : 1 ≤ n) (h8 : n ≤ 8) {l : List Int} (hl : l.length = n * n) {p : Int} (hp : p ≠ 0) {met : List Bool} {q : List Int} (hb : BInv n l p met q) (hd : BDone n l p met q q.length) (hs : ∀ x : Nat, x < n * n → lineV (n : Int) p (x : Int) = 0 → rd l (x : Int) = p → met.getD x false = true) : ¬ JoinP n l p := by
  have all : ∀ (x : Nat) (c : Int), Cst (n : Int) l p x c → c = 0 → met.getD x false = true := fun x c h => by
    induction h with
    | start x hx hz ho => exact fun hc => hs x (by omega) hz (cost_zero hp ho hc)
    | @step x y c hcs hn hy ho ih =>
      intro hc
      have := (cst_pos hcs).1
      have := (costV_small l (y : Int)).1
      have hm := hb.2.2.2 x (ih (by omega))
      obtain ⟨j, hj, e⟩ := List.mem_iff_getElem.1 hm
      have := (hd.2 j hj hj).2 (y : Int) (by rw [e]; exact hn) (cost_zero hp ho (by omega))
      rwa [Int.toNat_natCast] at this
  intro hj
  rcases join_least h1 h8 hl hp hj with ⟨h, _⟩ | ⟨_, ⟨x, hx, hlx⟩, _⟩
  · cases h
  · have hm := hb.2.2.2 x (all x 0 hx rfl)
    obtain ⟨j, hj, e⟩ := List.mem_iff_getElem.1 hm
    have := (hd.2 j hj hj).1
    rw [e] at this
    exact this hlx
theorem bfs_some {n : Nat} (h1 : 1 ≤ n) (h8 : n ≤ 8) {l : List Int} (hl : l.length = n * n) {p : Int} (hp : p ≠ 0) {met : List Bool} {q : List Int} (hb : BInv n l p met q) {x : Int} (hx : x ∈ q) (hlx : lineV (n : Int) p x = (n : Int) - 1) : JoinP n l p := by
  obtain ⟨i, rfl, _, hc⟩ := hb.2.2.1 x hx
  refine (least_join h1 h8 hl hp (v := 0) (.inr ⟨Int.le_refl _, ⟨i, hc, hlx⟩, fun y c hy _ => (cst_pos hy).1⟩)).1 rfl

end Go.Proofs.YtbmiojnkfgcfoaaDoor.F
