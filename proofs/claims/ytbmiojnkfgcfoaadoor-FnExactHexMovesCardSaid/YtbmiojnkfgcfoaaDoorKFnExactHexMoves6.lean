-- written by the session's program xp.py over the kit's print program, and by hand; texts joined by pack.py
import Derived.Test.YtbmiojnkfgcfoaaDoorKFnExactHexMoves5
namespace Go.Proofs.YtbmiojnkfgcfoaaDoor.F
open Go.RowKit Go.Proofs.YtbmiojnkfgcfoaaDoorW.PrintWords Go.Proofs.YtbmiojnkfgcfoaaDoorW.PrintLast Go.Proofs.YtbmiojnkfgcfoaaDoorW.PrintMore
attribute [local go_sem] max2_int min2_int max_two min_two max_three min_three max_four min_four   -- for this text's walks alone
set_option linter.unusedVariables false
set_option linter.unusedSimpArgs false

-- Who joins on a board of Hex, as a way from side to side. HAdj HCon HJoin one_joins nearV nearTo nearOk nearOne nearDirs (for 79)
/-- Player p joins (1: row 0 to the last row, 2: column 0 to the last column). -/
def ownC (n : Nat) (l : List Int) (p : Int) (r c : Nat) : Bool := rd l ((r * n + c : Nat) : Int) == p
def JoinP (n : Nat) (l : List Int) (p : Int) : Prop :=
  if p = 1 then ∃ c r c', HCon n (ownC n l p) true 0 c r c' ∧ r + 1 = n else ∃ r r' c', HCon n (ownC n l p) true r 0 r' c' ∧ c' + 1 = n
theorem hcon_map {n : Nat} {g g' : Nat → Nat → Bool} {k k' : Bool} (h : ∀ a b, a < n → b < n → g a b = k → g' a b = k') {a b a' b' : Nat} (hc : HCon n g k a b a' b') : HCon n g' k' a b a' b' := by
  induction hc with
  | refl h1 h2 h3 => exact .refl h1 h2 (h _ _ h1 h2 h3)
  | step _ ha h1 h2 h3 ih => exact .step ih ha h1 h2 (h _ _ h1 h2 h3)
theorem join_map {n : Nat} {l l' : List Int} {p : Int} (h : ∀ i, i < n * n → rd l (i : Int) = p → rd l' (i : Int) = p) (hj : JoinP n l p) : JoinP n l' p := by
  have hm : ∀ a b, a < n → b < n → ownC n l p a b = true → ownC n l' p a b = true := fun a b ha hb hh => by
    unfold ownC at hh ⊢
    have hi : a * n + b < n * n := by
      have h1 : (a + 1) * n ≤ n * n := Nat.mul_le_mul_right n (by omega)
      rw [Nat.succ_mul] at h1
      omega
    exact beq_iff_eq.2 (h _ hi (beq_iff_eq.1 hh))
  unfold JoinP at hj ⊢
  split at hj
  · rename_i hp
    rw [if_pos hp]
    obtain ⟨c, r, c', h1, h2⟩ := hj
    exact ⟨c, r, c', hcon_map hm h1, h2⟩
  · rename_i hp
    rw [if_neg hp]
    obtain ⟨c, r, c', h1, h2⟩ := hj
    exact ⟨c, r, c', hcon_map hm h1, h2⟩
/-- The board's cells, told by their rows and columns. -/
theorem cell_split {n i : Nat} (h : i < n * n) : i / n < n ∧ i % n < n ∧ i / n * n + i % n = i := by
  have hn : 0 < n := by
    rcases Nat.eq_zero_or_pos n with h0 | h0
    · subst h0; simp at h
    · exact h0
  exact ⟨Nat.div_lt_of_lt_mul h, Nat.mod_lt _ hn, by rw [Nat.mul_comm]; exact Nat.div_add_mod i n⟩
def FullB (n : Nat) (l : List Int) : Prop := ∀ i, i < n * n → rd l (i : Int) = 1 ∨ rd l (i : Int) = 2
theorem full_join {n : Nat} {l : List Int} (hf : FullB n l) : (JoinP n l 1 ↔ HJoin n (ownC n l 1) true) ∧ (JoinP n l 2 ↔ HJoin n (ownC n l 1) false) := by
  have hi : ∀ a b, a < n → b < n → a * n + b < n * n := fun a b ha hb => by
    have h1 : (a + 1) * n ≤ n * n := Nat.mul_le_mul_right n (by omega)
    rw [Nat.succ_mul] at h1
    omega
  have h12 : ∀ a b, a < n → b < n → (ownC n l 2 a b = true ↔ ownC n l 1 a b = false) := fun a b ha hb => by
    unfold ownC
    rcases hf _ (hi a b ha hb) with h | h <;> rw [h] <;> simp
  constructor
  · unfold JoinP
    rw [if_pos rfl]
    exact Iff.rfl
  · unfold JoinP
    rw [if_neg (by omega)]
    constructor
    · rintro ⟨r, r', c', h1, h2⟩
      exact ⟨r, r', c', hcon_map (fun a b ha hb h => (h12 a b ha hb).1 h) h1, h2⟩
    · rintro ⟨r, r', c', h1, h2⟩
      exact ⟨r, r', c', hcon_map (fun a b ha hb h => (h12 a b ha hb).2 h) h1, h2⟩
/-- On a full board just one player joins. -/
theorem full_one {n : Nat} (hn : 1 ≤ n) {l : List Int} (hf : FullB n l) : (JoinP n l 1 ∨ JoinP n l 2) ∧ ¬ (JoinP n l 1 ∧ JoinP n l 2) := by
  obtain ⟨e1, e2⟩ := full_join hf
  obtain ⟨k, h1, h2⟩ := one_joins hn (ownC n l 1)
  rw [e1, e2]
  cases k with
  | true => exact ⟨.inl h1, fun h => h2 h.2⟩
  | false => exact ⟨.inr h1, fun h => h2 h.1⟩
theorem near_val : ∀ (n : Fin 9) (r c : Fin 8), ∀ e ∈ nearDirs, r.val < n.val → c.val < n.val → nearOk n.val r.val c.val e = decide (0 ≤ (r.val : Int) + e.1 ∧ (r.val : Int) + e.1 < n.val ∧ 0 ≤ (c.val : Int) + e.2 ∧ (c.val : Int) + e.2 < n.val) ∧ nearOne n.val r.val c.val e = ((r.val : Int) + e.1) * n.val + ((c.val : Int) + e.2) := by
  decide +kernel
theorem near_mem {n r c r' c' : Nat} (h8 : n ≤ 8) (hr : r < n) (hc : c < n) (hr' : r' < n) (hc' : c' < n) : ((r' * n + c' : Nat) : Int) ∈ nearV n ((r * n + c : Nat) : Int) ↔ HAdj r c r' c' := by
  have hv := near_val ⟨n, by omega⟩ ⟨r, by omega⟩ ⟨c, by omega⟩
  have hd : wrap64 (Int.tdiv ((r * n + c : Nat) : Int) (n : Int)) = (r : Int) := by
    have e : Int.tdiv ((r * n + c : Nat) : Int) (n : Int) = ((r * n + c) / n : Nat) := rfl
    rw [e, Nat.mul_comm, Nat.mul_add_div (by omega), Nat.div_eq_of_lt hc, Nat.add_zero]
    unfold wrap64
    omega
  have hm : Int.tmod ((r * n + c : Nat) : Int) (n : Int) = (c : Int) := by
    have e : Int.tmod ((r * n + c : Nat) : Int) (n : Int) = ((r * n + c) % n : Nat) := rfl
    rw [e, Nat.mul_comm, Nat.mul_add_mod, Nat.mod_eq_of_lt hc]
  unfold nearV nearTo
  rw [hd, hm]
  clear hd hm
  simp only [List.mem_map, List.mem_filter]
  have key : ∀ e ∈ nearDirs, (nearOk n r c e = true ∧ nearOne n r c e = ((r' * n + c' : Nat) : Int)) ↔ ((r' : Int) = r + e.1 ∧ (c' : Int) = c + e.2) := fun e he => by
    obtain ⟨h1, h2⟩ := hv e he hr hc
    simp only at h1 h2
    rw [h1, h2, decide_eq_true_iff]
    constructor
    · rintro ⟨⟨a1, a2, a3, a4⟩, a5⟩
      obtain ⟨x, hx⟩ : ∃ x : Nat, (r : Int) + e.1 = x := ⟨((r : Int) + e.1).toNat, by omega⟩
      obtain ⟨y, hy⟩ : ∃ y : Nat, (c : Int) + e.2 = y := ⟨((c : Int) + e.2).toNat, by omega⟩
      rw [hx, hy] at a5
      rw [hx, hy]
      have a6 : x * n + y = r' * n + c' := by
        have : ((x * n + y : Nat) : Int) = ((r' * n + c' : Nat) : Int) := by rw [← a5, Int.natCast_add, Int.natCast_mul]
        omega
      have hy' : y < n := by omega
      have e1 : (x * n + y) / n = x := by rw [Nat.mul_comm, Nat.mul_add_div (by omega), Nat.div_eq_of_lt hy', Nat.add_zero]
      have e2 : (r' * n + c') / n = r' := by rw [Nat.mul_comm, Nat.mul_add_div (by omega), Nat.div_eq_of_lt hc', Nat.add_zero]
      have e3 : x = r' := by rw [← e1, ← e2, a6]
      subst e3
      omega
    · rintro ⟨a1, a2⟩
      rw [← a1, ← a2]
      refine ⟨by omega, ?_⟩
      rw [Int.natCast_add, Int.natCast_mul]
  constructor
  · rintro ⟨e, ⟨he, ho⟩, hq⟩
    have := (key e he).1 ⟨ho, hq⟩
    unfold nearDirs at he
    simp only [List.mem_cons, List.not_mem_nil, or_false] at he
    unfold HAdj
    rcases he with rfl | rfl | rfl | rfl | rfl | rfl <;> simp only at this <;> omega
  · intro h
    have hx : ∃ e ∈ nearDirs, (r' : Int) = r + e.1 ∧ (c' : Int) = c + e.2 := by
      unfold HAdj at h
      rcases h with h | h | h | h | h | h
      · exact ⟨(1, 0), by decide, by simp only; omega, by simp only; omega⟩
      · exact ⟨(-1, 0), by decide, by simp only; omega, by simp only; omega⟩
      · exact ⟨(0, 1), by decide, by simp only; omega, by simp only; omega⟩
      · exact ⟨(0, -1), by decide, by simp only; omega, by simp only; omega⟩
      · exact ⟨(-1, 1), by decide, by simp only; omega, by simp only; omega⟩
      · exact ⟨(1, -1), by decide, by simp only; omega, by simp only; omega⟩
    obtain ⟨e, he, hq⟩ := hx
    obtain ⟨h1, h2⟩ := (key e he).2 hq
    exact ⟨e, ⟨he, h1⟩, h2⟩
-- No empty cell is needed just where the player joins. Cst LeastC costV openV lineV JoinP HCon HAdj ownC near_mem cell_split FarOk far_start farLoop_end best_least NearIn nearV_ok isHexV_cells hex_small needBest farLoop farInit (for 79 70)
theorem line_val1 {n x : Nat} (hx : x < n * n) (h8 : n ≤ 8) (p : Int) : lineV (n : Int) p (x : Int) = if p = 1 then ((x / n : Nat) : Int) else ((x % n : Nat) : Int) := by
  unfold lineV
  have e : Int.tdiv (x : Int) (n : Int) = ((x / n : Nat) : Int) := rfl
  have e2 : Int.tmod (x : Int) (n : Int) = ((x % n : Nat) : Int) := rfl
  rw [e, e2]
  have hd := (cell_split hx).1
  by_cases hp : p = 1
  · rw [if_pos hp, if_pos hp]
    clear e e2
    generalize x / n = q at hd ⊢
    unfold wrap64
    omega
  · rw [if_neg hp, if_neg hp]
theorem cell_val {n r c : Nat} (hr : r < n) (hc : c < n) : (r * n + c) / n = r ∧ (r * n + c) % n = c ∧ r * n + c < n * n := by
  refine ⟨by rw [Nat.mul_comm, Nat.mul_add_div (by omega), Nat.div_eq_of_lt hc, Nat.add_zero], by rw [Nat.mul_comm, Nat.mul_add_mod, Nat.mod_eq_of_lt hc], ?_⟩
  have h1 : (r + 1) * n ≤ n * n := Nat.mul_le_mul_right n (by omega)
  rw [Nat.succ_mul] at h1
  omega
theorem cost_zero {l : List Int} {p : Int} {y : Int} (hp : p ≠ 0) (ho : openV l p y = true) (hc : costV l y = 0) : rd l y = p := by
  unfold costV at hc
  unfold openV at ho
  split at hc
  · cases hc
  · rename_i h
    simp only [Bool.or_eq_true, beq_iff_eq] at ho
    rcases ho with h2 | h2
    · exact absurd h2 h
    · exact h2
theorem own_cost {l : List Int} {p : Int} {y : Int} (hp : p ≠ 0) (h : rd l y = p) : openV l p y = true ∧ costV l y = 0 := by
  unfold openV costV
  rw [h, if_neg hp]
  simp
theorem cst_con {n : Nat} (h8 : n ≤ 8) {l : List Int} (hl : l.length = n * n) {p : Int} (hp : p ≠ 0) {x : Nat} {c : Int} (h : Cst (n : Int) l p x c) : c = 0 → ∃ r0 c0, (if p = 1 then r0 = 0 else c0 = 0) ∧ HCon n (ownC n l p) true r0 c0 (x / n) (x % n) := by
  have own : ∀ y : Nat, y < n * n → rd l (y : Int) = p → ownC n l p (y / n) (y % n) = true := fun y hy h => by
    unfold ownC
    rw [(cell_split hy).2.2, h]
    exact beq_self_eq_true p
  induction h with
  | start x hx hz ho =>
    intro hc
    have hx' : x < n * n := by omega
    have ho2 := own x hx' (cost_zero hp ho hc)
    obtain ⟨h1, h2, _⟩ := cell_split hx'
    rw [line_val1 hx' h8] at hz
    refine ⟨x / n, x % n, ?_, .refl h1 h2 ho2⟩
    by_cases hp1 : p = 1
    · rw [if_pos hp1] at hz ⊢; omega
    · rw [if_neg hp1] at hz ⊢; omega
  | @step x y c hcs hn hy ho ih =>
    intro hc
    have hcp := (cst_pos hcs).1
    have hyc := (costV_small l (y : Int)).1
    obtain ⟨r0, c0, h0, hcon⟩ := ih (by omega)
    have hx' : x < n * n := by have := (cst_pos hcs).2; omega
    have hy' : y < n * n := by omega
    obtain ⟨a1, a2, a3⟩ := cell_split hx'
    obtain ⟨b1, b2, b3⟩ := cell_split hy'
    have ha := near_mem (n := n) h8 a1 a2 b1 b2
    rw [a3, b3] at ha
    exact ⟨r0, c0, h0, .step hcon (ha.1 hn) b1 b2 (own y hy' (cost_zero hp ho (by omega)))⟩
theorem con_cst {n : Nat} (h8 : n ≤ 8) {l : List Int} (hl : l.length = n * n) {p : Int} (hp : p ≠ 0) {a b r c : Nat} (h0 : if p = 1 then a = 0 else b = 0) (h : HCon n (ownC n l p) true a b r c) : Cst (n : Int) l p (r * n + c) 0 := by
  have own : ∀ r c, ownC n l p r c = true → rd l ((r * n + c : Nat) : Int) = p := fun r c h => by
    unfold ownC at h
    exact beq_iff_eq.1 h
  induction h with
  | refl h1 h2 h3 =>
    obtain ⟨v1, v2, v3⟩ := cell_val h1 h2
    obtain ⟨o1, o2⟩ := own_cost hp (own _ _ h3)
    have := Cst.start (s := (n : Int)) (p := p) (l := l) (a * n + b) (by omega) (by
      rw [line_val1 v3 h8, v1, v2]
      by_cases hp1 : p = 1
      · rw [if_pos hp1] at h0 ⊢; omega
      · rw [if_neg hp1] at h0 ⊢; omega) o1
    rwa [o2] at this
  | @step r1 c1 r2 c2 hc ha h1 h2 h3 ih =>
    obtain ⟨v1, v2, v3⟩ := cell_val h1 h2
    obtain ⟨o1, o2⟩ := own_cost hp (own _ _ h3)
    have hl2 := hc.last
    have := Cst.step ih ((near_mem h8 hl2.1 hl2.2.1 h1 h2).2 ha) (by omega) o1
    rwa [o2] at this
theorem join_least {n : Nat} (h1 : 1 ≤ n) (h8 : n ≤ 8) {l : List Int} (hl : l.length = n * n) {p : Int} (hp : p ≠ 0) (hj : JoinP n l p) : LeastC (n : Int) l p 0 := by
  have hex : ∃ x : Nat, Cst (n : Int) l p x 0 ∧ lineV (n : Int) p (x : Int) = n - 1 := by
    unfold JoinP at hj
    by_cases hp1 : p = 1
    · rw [if_pos hp1] at hj
      obtain ⟨c, r, c', hcon, hr⟩ := hj
      have hl2 := hcon.last
      obtain ⟨v1, v2, v3⟩ := cell_val hl2.1 hl2.2.1
      exact ⟨r * n + c', con_cst h8 hl hp (by rw [if_pos hp1]) hcon, by rw [line_val1 v3 h8, if_pos hp1, v1]; omega⟩
    · rw [if_neg hp1] at hj
      obtain ⟨r, r', c', hcon, hr⟩ := hj
      have hl2 := hcon.last
      obtain ⟨v1, v2, v3⟩ := cell_val hl2.1 hl2.2.1
      exact ⟨r' * n + c', con_cst h8 hl hp (by rw [if_neg hp1]) hcon, by rw [line_val1 v3 h8, if_neg hp1, v2]; omega⟩
  exact .inr ⟨Int.le_refl _, hex, fun y c hy _ => (cst_pos hy).1⟩
theorem least_join {n : Nat} (h1 : 1 ≤ n) (h8 : n ≤ 8) {l : List Int} (hl : l.length = n * n) {p v : Int} (hp : p ≠ 0) (hv : LeastC (n : Int) l p v) : v = 0 ↔ JoinP n l p := by
  constructor
  · rintro rfl
    rcases hv with ⟨h, _⟩ | ⟨_, ⟨x, hx, hlx⟩, _⟩
    · cases h
    · obtain ⟨r0, c0, h0, hcon⟩ := cst_con h8 hl hp hx rfl
      have hx' : x < n * n := by have := (cst_pos hx).2; omega
      rw [line_val1 hx' h8] at hlx
      unfold JoinP
      by_cases hp1 : p = 1
      · rw [if_pos hp1] at h0 hlx ⊢
        subst h0
        exact ⟨c0, _, _, hcon, by omega⟩
      · rw [if_neg hp1] at h0 hlx ⊢
        subst h0
        exact ⟨r0, _, _, hcon, by omega⟩
  · exact fun hj => hv.unique (join_least h1 h8 hl hp hj)
-- The reference's search for a joined side, plain. Cst LeastC costV openV lineV JoinP near_mem line_val1 cost_zero own_cost least_join cst_pos (for 79)
def trueN : List Bool → Nat
  | [] => 0
  | true :: r => trueN r + 1
  | false :: r => trueN r
theorem trueN_le : ∀ l : List Bool, trueN l ≤ l.length
  | [] => Nat.le_refl _
  | true :: r => by have := trueN_le r; simp only [trueN, List.length_cons]; omega
  | false :: r => by have := trueN_le r; simp only [trueN, List.length_cons]; omega
theorem trueN_set : ∀ (l : List Bool) (i : Nat), i < l.length → l.getD i false = false → trueN (l.set i true) = trueN l + 1
  | [], i, h, _ => by simp at h
  | b :: r, 0, _, h => by
    have : b = false := by simpa [List.getD_eq_getElem?_getD] using h
    subst this
    simp [trueN]
  | b :: r, i + 1, h, h2 => by
    have e : (b :: r).getD (i + 1) false = r.getD i false := by simp [List.getD_eq_getElem?_getD]
    rw [e] at h2
    have := trueN_set r i (by simpa using h) h2
    cases b <;> simp only [List.set_cons_succ, trueN] <;> omega
theorem getDb_same (l : List Bool) (i : Nat) (h : i < l.length) : (l.set i true).getD i false = true := by
  rw [List.getD_eq_getElem?_getD, List.getElem?_set_self (by simpa using h)]; rfl
theorem getDb_ne (l : List Bool) (i j : Nat) (h : i ≠ j) : (l.set i true).getD j false = l.getD j false := by
  rw [List.getD_eq_getElem?_getD, List.getD_eq_getElem?_getD, List.getElem?_set_ne h]
theorem trueN_rep : ∀ n, trueN (List.replicate n false) = 0
  | 0 => rfl
  | n + 1 => trueN_rep n
/-- What is met is in the queue, and reached. -/
def BInv (n : Nat) (l : List Int) (p : Int) (met : List Bool) (q : List Int) : Prop :=
  met.length = n * n ∧ q.length = trueN met ∧ (∀ x ∈ q, ∃ i : Nat, x = (i : Int) ∧ i < n * n ∧ Cst (n : Int) l p i 0) ∧ ∀ i : Nat, met.getD i false = true → (i : Int) ∈ q
theorem BInv.len {n : Nat} {l : List Int} {p : Int} {met : List Bool} {q : List Int} (h : BInv n l p met q) : q.length ≤ n * n := by
  rw [h.2.1, ← h.1]; exact trueN_le _
theorem BInv.empty (n : Nat) (l : List Int) (p : Int) : BInv n l p (List.replicate (n * n) false) [] := by
  refine ⟨by simp, by rw [trueN_rep]; rfl, fun x hx => absurd hx (by simp), fun i hi => ?_⟩
  rw [List.getD_eq_getElem?_getD, List.getElem?_replicate] at hi
  split at hi <;> simp at hi
theorem BInv.put {n : Nat} {l : List Int} {p : Int} {met : List Bool} {q : List Int} (h : BInv n l p met q) {y : Nat} (hy : y < n * n) (hm : met.getD y false = false) (hc : Cst (n : Int) l p y 0) : BInv n l p (met.set y true) (q ++ [(y : Int)]) := by
  obtain ⟨h1, h2, h3, h4⟩ := h
  refine ⟨by rw [List.length_set]; exact h1, by rw [List.length_append, h2, trueN_set _ _ (by omega) hm]; rfl, fun x hx => ?_, fun i hi => ?_⟩
  · rcases List.mem_append.1 hx with hx | hx
    · exact h3 x hx
    · rw [List.mem_singleton] at hx
      exact ⟨y, hx, hy, hc⟩
  · by_cases e : y = i
    · subst e; exact List.mem_append_right _ (List.mem_singleton.2 rfl)
    · rw [getDb_ne _ _ _ e] at hi
      exact List.mem_append_left _ (h4 i hi)
/-- A round over the neighbours. -/
def bfsNear (l : List Int) (p : Int) : List Int → List Bool → List Int → List Bool × List Int
  | [], met, q => (met, q)
  | z :: r, met, q => if met.getD z.toNat false = false ∧ rd l z = p then bfsNear l p r (met.set z.toNat true) (q ++ [z]) else bfsNear l p r met q
theorem bfsNear_ok {n : Nat} {l : List Int} (hl : l.length = n * n) {p : Int} (hp : p ≠ 0) {x : Nat} (hx : Cst (n : Int) l p x 0) : ∀ (r : List Int) (met : List Bool) (q : List Int), (∀ z ∈ r, z ∈ nearV (n : Int) (x : Int) ∧ ∃ y : Nat, z = (y : Int) ∧ y < n * n) → BInv n l p met q →
    BInv n l p (bfsNear l p r met q).1 (bfsNear l p r met q).2 ∧ (∃ t, (bfsNear l p r met q).2 = q ++ t) ∧ (∀ i, met.getD i false = true → (bfsNear l p r met q).1.getD i false = true) ∧ ∀ z ∈ r, rd l z = p → (bfsNear l p r met q).1.getD z.toNat false = true
  | [], met, q, _, h => ⟨h, ⟨[], by simp [bfsNear]⟩, fun i hi => hi, fun z hz => absurd hz (by simp)⟩
  | z :: r, met, q, hr, h => by
    obtain ⟨hzn, y, rfl, hy⟩ := hr z (List.mem_cons_self ..)
    have hr2 : ∀ z ∈ r, z ∈ nearV (n : Int) (x : Int) ∧ ∃ y : Nat, z = (y : Int) ∧ y < n * n := fun z hz => hr z (List.mem_cons_of_mem _ hz)
    unfold bfsNear
    rw [Int.toNat_natCast]
    by_cases hc : met.getD y false = false ∧ rd l (y : Int) = p
    · rw [if_pos hc]
      obtain ⟨o1, o2⟩ := own_cost hp hc.2
      have hcy := Cst.step hx hzn (by omega) o1
      rw [o2] at hcy
      obtain ⟨a, ⟨t, b⟩, c, d⟩ := bfsNear_ok hl hp hx r _ _ hr2 (h.put hy hc.1 hcy)
      refine ⟨a, ⟨(y : Int) :: t, by rw [b]; simp⟩, fun i hi => c i ?_, fun w hw hwp => ?_⟩
      · by_cases e : y = i
        · subst e; exact getDb_same _ _ (by rw [h.1]; exact hy)
        · rw [getDb_ne _ _ _ e]; exact hi
      · rcases List.mem_cons.1 hw with rfl | hw
        · rw [Int.toNat_natCast]
          exact c y (getDb_same _ _ (by rw [h.1]; exact hy))
        · exact d w hw hwp
    · rw [if_neg hc]
      obtain ⟨a, b, c, d⟩ := bfsNear_ok hl hp hx r met q hr2 h
      refine ⟨a, b, c, fun w hw hwp => ?_⟩
      rcases List.mem_cons.1 hw with rfl | hw
      · rw [Int.toNat_natCast]
        refine c y ?_
        cases hm : met.getD y false with
        | true => rfl
        | false => exact absurd ⟨hm, hwp⟩ hc
      · exact d w hw hwp
/-- What has been looked at. -/
def BDone (n : Nat) (l : List Int) (p : Int) (met : List Bool) (q : List Int) (at_ : Nat) : Prop :=
  at_ ≤ q.length ∧ ∀ j (hj : j < q.length), j < at_ → lineV (n : Int) p q[j] ≠ (n : Int) - 1 ∧ ∀ z ∈ nearV (n : Int) q[j], rd l z = p → met.getD z.toNat false = true
theorem bfs_none {n : Nat} (h1 : 1 ≤ n) (h8 : n ≤ 8) {l : List Int} (hl : l.length = n * n) {p : Int} (hp : p ≠ 0) {met : List Bool} {q : List Int} (hb : BInv n l p met q) (hd : BDone n l p met q q.length) (hs : ∀ x : Nat, x < n * n → lineV (n : Int) p (x : Int) = 0 → rd l (x : Int) = p → met.getD x false = true) : ¬ JoinP n l p := by
  have all : ∀ (x : Nat) (c : Int), Cst (n : Int) l p x c → c = 0 → met.getD x false = true := fun x c h => by
    induction h with
    | start x hx hz ho => exact fun hc => hs x (by omega) hz (cost_zero hp ho hc)
    | @step x y c hcs hn hy ho ih =>
      intro hc
      have := (cst_pos hcs).1
      have := (costV_small l (y : Int)).1
      have hm := hb.2.2.2 x (ih (by omega))
      obtain ⟨j, hj, e⟩ := List.mem_iff_getElem.1 hm
      have := (hd.2 j hj hj).2 (y : Int) (by rw [e]; exact hn) (cost_zero hp ho (by omega))
      rwa [Int.toNat_natCast] at this
  intro hj
  rcases join_least h1 h8 hl hp hj with ⟨h, _⟩ | ⟨_, ⟨x, hx, hlx⟩, _⟩
  · cases h
  · have hm := hb.2.2.2 x (all x 0 hx rfl)
    obtain ⟨j, hj, e⟩ := List.mem_iff_getElem.1 hm
    have := (hd.2 j hj hj).1
    rw [e] at this
    exact this hlx
theorem bfs_some {n : Nat} (h1 : 1 ≤ n) (h8 : n ≤ 8) {l : List Int} (hl : l.length = n * n) {p : Int} (hp : p ≠ 0) {met : List Bool} {q : List Int} (hb : BInv n l p met q) {x : Int} (hx : x ∈ q) (hlx : lineV (n : Int) p x = (n : Int) - 1) : JoinP n l p := by
  obtain ⟨i, rfl, _, hc⟩ := hb.2.2.1 x hx
  refine (least_join h1 h8 hl hp (v := 0) (.inr ⟨Int.le_refl _, ⟨i, hc, hlx⟩, fun y c hy _ => (cst_pos hy).1⟩)).1 rfl
-- Who joins, on both sides. LeastC JoinP Cst least_join best_least farLoop_end far_start FarOk NearIn BInv BDone bfsNear bfsNear_ok bfs_none bfs_some isHexV_cells hex_small nearV_ok near_mem line_val1 specNear_ev rd_get own_cost getDb_same getDb_ne cell_val (for 70 49 71 50)
theorem wrap_numJ {n : Nat} (h : n < 9223372036854775808) : wrap64 (n : Int) = (n : Int) := by unfold wrap64; omega
theorem hex_natJ {p : Int} {l : List Int} (h : isHexV p l = true) : ∃ n : Nat, p = n ∧ 1 ≤ n ∧ n ≤ 8 ∧ l.length = n * n := by
  obtain ⟨h1, h8, hl, _⟩ := isHexV_cells h
  refine ⟨p.toNat, by omega, by omega, by omega, ?_⟩
  have e : p = ((p.toNat : Nat) : Int) := by omega
  rw [e] at hl
  rw [← Int.natCast_mul] at hl
  exact Int.ofNat.inj hl
theorem wrap_subJ {n : Nat} (h1 : 1 ≤ n) (h8 : n ≤ 8) : wrap64 ((n : Int) - 1) = (n : Int) - 1 := by unfold wrap64; omega
theorem near_all {n : Nat} {l : List Int} (h1 : 1 ≤ n) (h8 : n ≤ 8) (hl : l.length = n * n) : NearIn (n : Int) l := fun x hx z hz => by
  have := (nearV_ok h1 h8 (show x < n * n by omega)).2 z hz
  exact ⟨z.toNat, by omega, by omega⟩
theorem need_ev {n : Nat} {l : List Int} (hv : isHexV (n : Int) l = true) (h1 : 1 ≤ n) (h8 : n ≤ 8) (hl : l.length = n * n) (p : Int) : ∃ v, LeastC (n : Int) l p v ∧ -1 ≤ v ∧ v ≤ 64 ∧ Ev (fun k => impl_Hex_need.f k n l p) v := by
  have h64 : l.length ≤ 64 := by rw [hl]; exact Nat.mul_le_mul h8 h8
  obtain ⟨far, hf, hx, he⟩ := farLoop_end (s := (n : Int)) (l := l) (p := p) h64 (near_all h1 h8 hl) _ _ (Nat.le_refl _) far_start
  have hle : cntF far ≤ l.length := by rw [← hf.1]; exact List.length_filter_le _ _
  have hpos : ∀ o ∈ far, ∀ c, o = some c → 0 ≤ c ∧ c ≤ 4611686018427387904 := fun o ho c hc => by
    obtain ⟨i, hi, rfl⟩ := List.mem_iff_getElem.1 ho
    have := hf.2.1 i c (by rw [List.getD_eq_getElem?_getD, List.getElem?_eq_getElem hi]; exact hc)
    exact ⟨(cst_pos this.1).1, by omega⟩
  have hb := best_least h64 hf hx
  refine ⟨_, hb, ?_, ?_, ?_⟩
  · rcases hb with ⟨h, _⟩ | ⟨h, _⟩ <;> omega
  · rcases hb with ⟨h, _⟩ | ⟨h, ⟨x, hc, hlx⟩, hm⟩
    · omega
    · obtain ⟨c', hg, hc'⟩ := far_all h64 hf hx hc
      have := hm x c' (hf.2.1 x c' hg).1 hlx
      have := (hf.2.1 x c' hg).2
      omega
  · unfold impl_Hex_need.f
    refine Ev.congr (fun k => by rw [if_pos hv]) (Ev.bind he (Ev.congr (f := fun _ => some (needBest (n : Int) p far 0 (-1))) (fun k => by rw [if_pos hpos]) (Ev.now _)))
/-- j is who joins (0: none). -/
def IsJ (n : Nat) (l : List Int) (j : Int) : Prop := (j = 1 ∧ JoinP n l 1) ∨ (j = 2 ∧ ¬ JoinP n l 1 ∧ JoinP n l 2) ∨ (j = 0 ∧ ¬ JoinP n l 1 ∧ ¬ JoinP n l 2)
theorem IsJ.unique {n : Nat} {l : List Int} {j j' : Int} (h : IsJ n l j) (h' : IsJ n l j') : j = j' := by
  rcases h with ⟨rfl, h⟩ | ⟨rfl, h, g⟩ | ⟨rfl, h, g⟩ <;> rcases h' with ⟨rfl, h'⟩ | ⟨rfl, h', g'⟩ | ⟨rfl, h', g'⟩ <;> first | rfl | exact absurd h h' | exact absurd h' h | exact absurd g g' | exact absurd g' g
theorem implJoiner_ev {n : Nat} {l : List Int} (hv : isHexV (n : Int) l = true) (h1 : 1 ≤ n) (h8 : n ≤ 8) (hl : l.length = n * n) : ∃ j, IsJ n l j ∧ Ev (fun k => impl_Hex_joiner.f k n l) j := by
  obtain ⟨v1, c1, _, _, e1⟩ := need_ev hv h1 h8 hl 1
  obtain ⟨v2, c2, _, _, e2⟩ := need_ev hv h1 h8 hl 2
  have j1 := least_join h1 h8 hl (by decide) c1
  have j2 := least_join h1 h8 hl (by decide) c2
  unfold impl_Hex_joiner.f
  have w1 : wrap64 (0 + 1) = 1 := by unfold wrap64; omega
  have w2 : wrap64 (1 + 1) = 2 := by unfold wrap64; omega
  have r0 : rd [1, 2] 0 = 1 := rfl
  have r1 : rd [1, 2] 1 = 2 := rfl
  have first : ∀ v, Ev (fun k => impl_Hex_joiner.l0 k [1, 2] 2 1 n l) v → v1 ≠ 0 → Ev (fun k => impl_Hex_joiner.l0 k [1, 2] 2 0 n l) v := fun v hv hne => by
    refine Ev.step (f := fun k => (impl_Hex_need.f k n l 1).bind fun t => if t = 0 then some 1 else impl_Hex_joiner.l0 k [1, 2] 2 1 n l) (fun k => ?_) (Ev.bind e1 (Ev.congr (fun k => by rw [if_neg hne]) hv))
    simp only [impl_Hex_joiner.l0]
    rw [if_pos (by decide), if_pos (by decide), if_pos (by decide), r0, w1]
  by_cases z1 : v1 = 0
  · refine ⟨1, .inl ⟨rfl, j1.1 z1⟩, ?_⟩
    show Ev (fun k => impl_Hex_joiner.l0 k [1, 2] 2 0 n l) 1
    refine Ev.step (f := fun k => (impl_Hex_need.f k n l 1).bind fun t => if t = 0 then some 1 else impl_Hex_joiner.l0 k [1, 2] 2 1 n l) (fun k => ?_) (Ev.bind e1 (Ev.congr (f := fun _ => some 1) (fun k => by rw [if_pos z1]) (Ev.now _)))
    simp only [impl_Hex_joiner.l0]
    rw [if_pos (by decide), if_pos (by decide), if_pos (by decide), r0, w1]
  · have n1 : ¬ JoinP n l 1 := fun h => z1 (j1.2 h)
    by_cases z2 : v2 = 0
    · refine ⟨2, .inr (.inl ⟨rfl, n1, j2.1 z2⟩), first 2 ?_ z1⟩
      refine Ev.step (f := fun k => (impl_Hex_need.f k n l 2).bind fun t => if t = 0 then some 2 else impl_Hex_joiner.l0 k [1, 2] 2 2 n l) (fun k => ?_) (Ev.bind e2 (Ev.congr (f := fun _ => some 2) (fun k => by rw [if_pos z2]) (Ev.now _)))
      simp only [impl_Hex_joiner.l0]
      rw [if_pos (by decide), if_pos (by decide), if_pos (by decide), r1, w2]
    · refine ⟨0, .inr (.inr ⟨rfl, n1, fun h => z2 (j2.2 h)⟩), first 0 ?_ z1⟩
      refine Ev.step (f := fun k => (impl_Hex_need.f k n l 2).bind fun t => if t = 0 then some 2 else impl_Hex_joiner.l0 k [1, 2] 2 2 n l) (fun k => ?_) (Ev.bind e2 (Ev.congr (fun k => by rw [if_neg z2]) (Ev.step (f := fun _ => some 0) (fun k => ?_) (Ev.now _))))
      · simp only [impl_Hex_joiner.l0]
        rw [if_pos (by decide), if_pos (by decide), if_pos (by decide), r1, w2]
      · simp only [impl_Hex_joiner.l0]
        rw [if_neg (by decide)]
theorem joins_l2 {n : Nat} {l : List Int} {N : Nat} (hN : n * n = N) (hl : l.length = N) {p : Int} {a : Int} (ys : List Int) (hy : ∀ z ∈ ys, ∃ y : Nat, z = (y : Int) ∧ y < N) (hys : ys.length ≤ 100) (v : Bool) : ∀ (d j : Nat) (met : List Bool) (q : List Int), j + d = ys.length → met.length = N → q.length + d ≤ 1000 →
    Ev (fun k => spec_l06Joins.l1 k n l p (bfsNear l p (ys.drop j) met q).1 (bfsNear l p (ys.drop j) met q).2 (wrap64 (a + 1))) v → Ev (fun k => spec_l06Joins.l2 k n l p met q a ys j) v := by
  intro d
  induction d with
  | zero =>
    intro j met q hj hm hq h
    rw [List.drop_eq_nil_of_le (by omega)] at h
    refine Ev.step (fun k => ?_) h
    simp only [spec_l06Joins.l2, bfsNear]
    rw [if_neg (by omega)]
  | succ d ih =>
    intro j met q hj hm hq h
    have hlt : j < ys.length := by omega
    rw [List.drop_eq_getElem_cons hlt] at h
    obtain ⟨y, hye, hyl⟩ := hy ys[j] (List.getElem_mem hlt)
    have hr : rd ys (j : Int) = (y : Int) := by rw [rd_get ys j hlt, hye]
    rw [hye] at h
    have W1 := Aside0.mk (show wrap64 ((j : Int) + 1) = ((j + 1 : Nat) : Int) from wrap_next hlt (by omega))
    have hrd : rdOf false met (y : Int) = met.getD y false := by unfold rdOf; rw [Int.toNat_natCast]
    unfold bfsNear at h
    rw [Int.toNat_natCast] at h
    by_cases hc : met.getD y false = false ∧ rd l (y : Int) = p
    · rw [if_pos hc] at h
      have h' := ih (j + 1) (met.set y true) (q ++ [(y : Int)]) (by omega) (by rw [List.length_set]; exact hm) (by rw [List.length_append, List.length_singleton]; omega) h
      refine Ev.step (fun k => ?_) h'
      simp only [spec_l06Joins.l2]
      rw [if_pos (by omega), if_pos (by omega), hr, if_pos (by omega), if_pos (by omega), hrd, hc.1, if_neg (by simp), if_pos (by omega), if_pos hc.2, if_pos (by omega), W1.out, Int.toNat_natCast]
    · rw [if_neg hc] at h
      have h' := ih (j + 1) met q (by omega) hm (by omega) h
      refine Ev.step (fun k => ?_) h'
      simp only [spec_l06Joins.l2]
      rw [if_pos (by omega), if_pos (by omega), hr, if_pos (by omega), if_pos (by omega), hrd, W1.out]
      cases hmy : met.getD y false with
      | true => rw [if_pos rfl]
      | false => rw [if_neg (by simp), if_pos (by omega), if_neg (fun h => hc ⟨hmy, h⟩)]
/-- What the reference's test of the last line says. -/
theorem joins_l1 {n : Nat} {l : List Int} (h1 : 1 ≤ n) (h8 : n ≤ 8) (hl : l.length = n * n) {p : Int} (hp : p = 1 ∨ p = 2) : ∀ (d a : Nat) (met : List Bool) (q : List Int), a + d = n * n → BInv n l p met q → BDone n l p met q a → (∀ x : Nat, x < n * n → lineV (n : Int) p (x : Int) = 0 → rd l (x : Int) = p → met.getD x false = true) →
    ∃ b, (b = true ↔ JoinP n l p) ∧ Ev (fun k => spec_l06Joins.l1 k n l p met q a) b := by
  have hp0 : p ≠ 0 := by omega
  have h64 : n * n ≤ 64 := Nat.mul_le_mul h8 h8
  intro d
  induction d with
  | zero =>
    intro a met q ha hb hd hs
    have hq := hb.len
    have e : a = q.length := by have := hd.1; omega
    subst e
    refine ⟨false, ⟨fun h => by simp at h, fun h => absurd h (bfs_none h1 h8 hl hp0 hb hd hs)⟩, Ev.step (f := fun _ => some false) (fun k => ?_) (Ev.now _)⟩
    simp only [spec_l06Joins.l1]
    rw [if_neg (by omega)]
  | succ d ih =>
    intro a met q ha hb hd hs
    have hq := hb.len
    by_cases hlt : a < q.length
    · obtain ⟨x, hxe, hxl, hxc⟩ := hb.2.2.1 q[a] (List.getElem_mem hlt)
      have hr : rd q (a : Int) = (x : Int) := by rw [rd_get q a hlt, hxe]
      have HWN := Aside0.mk (show wrap64 ((n : Int) - 1) = (n : Int) - 1 from wrap_subJ h1 h8)
      have HLV := Aside0.mk (show lineV (n : Int) p (x : Int) = if p = 1 then wrap64 (Int.tdiv (x : Int) (n : Int)) else Int.tmod (x : Int) (n : Int) from rfl)
      have W1 := Aside0.mk (show wrap64 ((a : Int) + 1) = ((a + 1 : Nat) : Int) from wrap_next hlt (by omega))
      have hstep : ∀ b, Ev (fun k => spec_l06Joins.j2 k n l p met q a (x : Int) (decide (lineV (n : Int) p (x : Int) = (n : Int) - 1))) b → Ev (fun k => spec_l06Joins.l1 k n l p met q a) b := fun b h => by
        refine Ev.step (fun k => ?_) h
        simp only [spec_l06Joins.l1]
        rw [if_pos (by omega), if_pos (by omega), hr, HWN.out, HLV.out]
        rcases hp with rfl | rfl
        · rw [if_pos rfl, if_neg (by omega), if_pos rfl]
          by_cases hz : wrap64 (Int.tdiv (x : Int) (n : Int)) = (n : Int) - 1
          · rw [if_pos hz, decide_eq_true hz]
          · rw [if_neg hz, if_neg (by omega), decide_eq_false hz]
        · rw [if_neg (by omega), if_pos rfl, if_neg (by omega), if_neg (by omega)]
          rfl
      by_cases hlast : lineV (n : Int) p (x : Int) = (n : Int) - 1
      · refine ⟨true, ⟨fun _ => bfs_some h1 h8 hl hp0 hb (List.getElem_mem hlt) (by rw [hxe]; exact hlast), fun _ => rfl⟩, hstep true ?_⟩
        refine Ev.step (f := fun _ => some true) (fun k => ?_) (Ev.now _)
        simp only [spec_l06Joins.j2]
        rw [decide_eq_true hlast, if_pos rfl]
      · have hnear := near_all h1 h8 hl x (by omega)
        have hnear2 : ∀ z ∈ nearV (n : Int) (x : Int), ∃ y : Nat, z = (y : Int) ∧ y < n * n := fun z hz => by
          obtain ⟨y, e, hy⟩ := hnear z hz
          exact ⟨y, e, by omega⟩
        obtain ⟨B, ⟨t, hq2⟩, hmono, hall⟩ := bfsNear_ok hl hp0 hxc (nearV (n : Int) (x : Int)) met q (fun z hz => ⟨hz, hnear2 z hz⟩) hb
        have hd2 : BDone n l p (bfsNear l p (nearV (n : Int) (x : Int)) met q).1 (bfsNear l p (nearV (n : Int) (x : Int)) met q).2 (a + 1) := by
          refine ⟨by rw [hq2, List.length_append]; omega, fun j hj hja => ?_⟩
          have hje : (bfsNear l p (nearV (n : Int) (x : Int)) met q).2[j] = q[j]'(by omega) := by
            have : (bfsNear l p (nearV (n : Int) (x : Int)) met q).2[j]? = (q ++ t)[j]? := by rw [hq2]
            rw [List.getElem?_eq_getElem hj, List.getElem?_append_left (by omega), List.getElem?_eq_getElem (by omega)] at this
            exact Option.some.inj this
          rw [hje]
          by_cases e : j = a
          · subst e
            rw [hxe]
            exact ⟨hlast, hall⟩
          · obtain ⟨g1, g2⟩ := hd.2 j (by omega) (by omega)
            exact ⟨g1, fun z hz hzp => hmono _ (g2 z hz hzp)⟩
        obtain ⟨b, hb1, hb2⟩ := ih (a + 1) _ _ (by omega) B hd2 (fun y h1 h2 h3 => hmono y (hs y h1 h2 h3))
        refine ⟨b, hb1, hstep b ?_⟩
        have hne : Ev (fun k => spec_l06Near.f k (n : Int) (x : Int)) (nearV (n : Int) (x : Int)) := specNear_ev h1 h8 hxl
        have hlen : (nearV (n : Int) (x : Int)).length ≤ 6 := nearTo_le _ _ _ _
        have h2 := joins_l2 (a := (a : Int)) rfl hl (nearV (n : Int) (x : Int)) hnear2 (by omega) b (nearV (n : Int) (x : Int)).length 0 met q (by omega) hb.1 (by omega) (by rw [List.drop_zero, W1.out]; exact hb2)
        refine Ev.step (f := fun k => (spec_l06Near.f k n (x : Int)).bind fun t => spec_l06Joins.l2 k n l p met q a t 0) (fun k => ?_) (Ev.bind hne h2)
        simp only [spec_l06Joins.j2]
        rw [decide_eq_false hlast, if_neg (by simp)]
    · have e : a = q.length := by have := hd.1; omega
      subst e
      refine ⟨false, ⟨fun h => by simp at h, fun h => absurd h (bfs_none h1 h8 hl hp0 hb hd hs)⟩, Ev.step (f := fun _ => some false) (fun k => ?_) (Ev.now _)⟩
      simp only [spec_l06Joins.l1]
      rw [if_neg (by omega)]
def stC (n : Nat) (p : Int) (i : Nat) : Nat := if p = 2 then n * i else i
theorem joins_l0 {n : Nat} {l : List Int} (h1 : 1 ≤ n) (h8 : n ≤ 8) (hl : l.length = n * n) {p : Int} (hp : p = 1 ∨ p = 2) : ∀ (d i : Nat) (met : List Bool) (q : List Int), i + d = n → BInv n l p met q → (∀ y : Nat, met.getD y false = true → ∃ j, j < i ∧ y = stC n p j) → (∀ j, j < i → rd l ((stC n p j : Nat) : Int) = p → met.getD (stC n p j) false = true) →
    ∃ b, (b = true ↔ JoinP n l p) ∧ Ev (fun k => spec_l06Joins.l0 k n l p met q i) b := by
  have hp0 : p ≠ 0 := by omega
  have h64 : n * n ≤ 64 := Nat.mul_le_mul h8 h8
  have hst : ∀ j, j < n → stC n p j < n * n ∧ lineV (n : Int) p ((stC n p j : Nat) : Int) = 0 := fun j hj => by
    have hm : n * (j + 1) ≤ n * n := Nat.mul_le_mul_left n (by omega)
    rw [Nat.mul_succ] at hm
    unfold stC
    rcases hp with rfl | rfl
    · rw [if_neg (by omega)]
      have hj2 : j < n * n := by have : n * 1 ≤ n * n := Nat.mul_le_mul_left n h1; omega
      refine ⟨hj2, ?_⟩
      rw [line_val1 hj2 h8, if_pos rfl, Nat.div_eq_of_lt hj]
      rfl
    · rw [if_pos rfl]
      have hj2 : n * j < n * n := by omega
      refine ⟨hj2, ?_⟩
      rw [line_val1 hj2 h8, if_neg (by omega), Nat.mul_mod_right]
      rfl
  have hinj : ∀ i j, stC n p i = stC n p j → i = j := fun i j h => by
    unfold stC at h
    split at h
    · exact Nat.eq_of_mul_eq_mul_left h1 h
    · exact h
  intro d
  induction d with
  | zero =>
    intro i met q hi hb hmet hs
    have e : i = n := by omega
    subst e
    have hstart : ∀ x : Nat, x < i * i → lineV (i : Int) p (x : Int) = 0 → rd l (x : Int) = p → met.getD x false = true := fun x hx hlx hrx => by
      obtain ⟨c1, c2, c3⟩ := cell_split hx
      rw [line_val1 hx h8] at hlx
      rcases hp with rfl | rfl
      · rw [if_pos rfl] at hlx
        have e0 : x / i = 0 := by omega
        have e1 : x % i = x := by rw [e0] at c3; omega
        have := hs x (by omega)
        unfold stC at this
        rw [if_neg (by omega)] at this
        exact this hrx
      · rw [if_neg (by omega)] at hlx
        have e0 : x % i = 0 := by omega
        have := hs (x / i) c1
        unfold stC at this
        rw [if_pos rfl, show i * (x / i) = x by rw [Nat.mul_comm]; omega] at this
        exact this hrx
    obtain ⟨b, b1, b2⟩ := joins_l1 h1 h8 hl hp (i * i) 0 met q (by omega) hb ⟨Nat.zero_le _, fun j _ hj => by omega⟩ hstart
    refine ⟨b, b1, Ev.step (fun k => ?_) b2⟩
    simp only [spec_l06Joins.l0]
    rw [if_neg (by omega)]
    rfl
  | succ d ih =>
    intro i met q hi hb hmet hs
    have hin : i < n := by omega
    obtain ⟨s1, s2⟩ := hst i hin
    have W1 := Aside0.mk (show wrap64 ((i : Int) + 1) = ((i + 1 : Nat) : Int) from wrap_next hin (by omega))
    have hq := hb.len
    by_cases hr : rd l ((stC n p i : Nat) : Int) = p
    · have hnm : met.getD (stC n p i) false = false := by
        cases hm : met.getD (stC n p i) false with
        | false => rfl
        | true =>
          obtain ⟨j, hj, e⟩ := hmet _ hm
          have := hinj _ _ e
          omega
      obtain ⟨o1, o2⟩ := own_cost hp0 hr
      have hc := Cst.start (s := (n : Int)) (p := p) (l := l) (stC n p i) (by omega) s2 o1
      rw [o2] at hc
      obtain ⟨b, b1, b2⟩ := ih (i + 1) _ _ (by omega) (hb.put s1 hnm hc) (fun y hy => by
        by_cases e : stC n p i = y
        · exact ⟨i, by omega, e.symm⟩
        · rw [getDb_ne _ _ _ e] at hy
          obtain ⟨j, hj, e2⟩ := hmet y hy
          exact ⟨j, by omega, e2⟩) (fun j hj hrj => by
        by_cases e : stC n p i = stC n p j
        · rw [← e]; exact getDb_same _ _ (by rw [hb.1]; exact s1)
        · rw [getDb_ne _ _ _ e]
          exact hs j (by
            by_cases h : j = i
            · subst h; exact absurd rfl e
            · omega) hrj)
      refine ⟨b, b1, Ev.step (fun k => ?_) b2⟩
      simp only [spec_l06Joins.l0]
      have hml : met.length = n * n := hb.1
      rcases hp with rfl | rfl
      · have hsi : stC n 1 i = i := by unfold stC; rw [if_neg (by omega)]
        rw [hsi] at hr s1 ⊢
        rw [if_pos (by omega), if_neg (by omega), if_pos (by omega), if_pos (by omega), if_pos hr, if_pos (by omega), if_pos (by omega), W1.out, Int.toNat_natCast]
      · have hsi : stC n 2 i = n * i := by unfold stC; rw [if_pos rfl]
        rw [hsi] at hr s1 ⊢
        have HW := Aside0.mk (show wrap64 ((n : Int) * (i : Int)) = ((n * i : Nat) : Int) from by
          rw [← Int.natCast_mul]
          exact wrap_numJ (by omega))
        rw [if_pos (by omega), if_pos rfl, HW.out, if_pos (by omega), if_pos (by omega), if_pos hr, if_pos (by omega), if_pos (by omega), W1.out, Int.toNat_natCast]
    · obtain ⟨b, b1, b2⟩ := ih (i + 1) met q (by omega) hb (fun y hy => by
        obtain ⟨j, hj, e2⟩ := hmet y hy
        exact ⟨j, by omega, e2⟩) (fun j hj hrj => by
        by_cases h : j = i
        · subst h; exact absurd hrj hr
        · exact hs j (by omega) hrj)
      refine ⟨b, b1, Ev.step (fun k => ?_) b2⟩
      simp only [spec_l06Joins.l0]
      rcases hp with rfl | rfl
      · have hsi : stC n 1 i = i := by unfold stC; rw [if_neg (by omega)]
        rw [hsi] at hr s1
        rw [if_pos (by omega), if_neg (by omega), if_pos (by omega), if_pos (by omega), if_neg hr, W1.out]
      · have hsi : stC n 2 i = n * i := by unfold stC; rw [if_pos rfl]
        rw [hsi] at hr s1
        have HW := Aside0.mk (show wrap64 ((n : Int) * (i : Int)) = ((n * i : Nat) : Int) from by
          rw [← Int.natCast_mul]
          exact wrap_numJ (by omega))
        rw [if_pos (by omega), if_pos rfl, HW.out, if_pos (by omega), if_pos (by omega), if_neg hr, W1.out]
theorem specJoins_ev {n : Nat} {l : List Int} (h1 : 1 ≤ n) (h8 : n ≤ 8) (hl : l.length = n * n) {p : Int} (hp : p = 1 ∨ p = 2) : ∃ b, (b = true ↔ JoinP n l p) ∧ Ev (fun k => spec_l06Joins.f k n l p) b := by
  have h64 : n * n ≤ 64 := Nat.mul_le_mul h8 h8
  obtain ⟨b, b1, b2⟩ := joins_l0 h1 h8 hl hp n 0 _ _ (by omega) (BInv.empty n l p) (fun y hy => by
    rw [List.getD_eq_getElem?_getD, List.getElem?_replicate] at hy
    split at hy <;> simp at hy) (fun j hj => by omega)
  refine ⟨b, b1, Ev.congr (fun k => ?_) b2⟩
  unfold spec_l06Joins.f
  have hw : wrap64 ((n : Int) * (n : Int)) = ((n * n : Nat) : Int) := by
    rw [← Int.natCast_mul]
    exact wrap_numJ (by omega)
  rw [hw, if_pos (by omega), Int.toNat_natCast, if_pos (by omega)]
  rfl
theorem specJoiner_ev {n : Nat} {l : List Int} (h1 : 1 ≤ n) (h8 : n ≤ 8) (hl : l.length = n * n) : ∃ j, IsJ n l j ∧ Ev (fun k => spec_l06Joiner.f k n l) j := by
  obtain ⟨b1, j1, e1⟩ := specJoins_ev h1 h8 hl (p := 1) (.inl rfl)
  obtain ⟨b2, j2, e2⟩ := specJoins_ev h1 h8 hl (p := 2) (.inr rfl)
  have w1 : wrap64 (1 + 1) = 2 := by unfold wrap64; omega
  have w2 : wrap64 (2 + 1) = 3 := by unfold wrap64; omega
  unfold spec_l06Joiner.f
  cases b1 with
  | true =>
    refine ⟨1, .inl ⟨rfl, j1.1 rfl⟩, Ev.step (f := fun k => (spec_l06Joins.f k n l 1).bind fun t => if t = true then some 1 else spec_l06Joiner.l0 k n l 2) (fun k => ?_) (Ev.bind e1 (Ev.congr (f := fun _ => some 1) (fun k => by rw [if_pos rfl]) (Ev.now _)))⟩
    simp only [spec_l06Joiner.l0]
    rw [if_pos (by decide), w1]
  | false =>
    have n1 : ¬ JoinP n l 1 := fun h => by have := j1.2 h; simp at this
    have first : ∀ v, Ev (fun k => spec_l06Joiner.l0 k n l 2) v → Ev (fun k => spec_l06Joiner.l0 k n l 1) v := fun v hv => by
      refine Ev.step (f := fun k => (spec_l06Joins.f k n l 1).bind fun t => if t = true then some 1 else spec_l06Joiner.l0 k n l 2) (fun k => ?_) (Ev.bind e1 (Ev.congr (fun k => by rw [if_neg (by simp)]) hv))
      simp only [spec_l06Joiner.l0]
      rw [if_pos (by decide), w1]
    cases b2 with
    | true =>
      refine ⟨2, .inr (.inl ⟨rfl, n1, j2.1 rfl⟩), first 2 (Ev.step (f := fun k => (spec_l06Joins.f k n l 2).bind fun t => if t = true then some 2 else spec_l06Joiner.l0 k n l 3) (fun k => ?_) (Ev.bind e2 (Ev.congr (f := fun _ => some 2) (fun k => by rw [if_pos rfl]) (Ev.now _))))⟩
      simp only [spec_l06Joiner.l0]
      rw [if_pos (by decide), w2]
    | false =>
      refine ⟨0, .inr (.inr ⟨rfl, n1, fun h => by have := j2.2 h; simp at this⟩), first 0 (Ev.step (f := fun k => (spec_l06Joins.f k n l 2).bind fun t => if t = true then some 2 else spec_l06Joiner.l0 k n l 3) (fun k => ?_) (Ev.bind e2 (Ev.congr (fun k => by rw [if_neg (by simp)]) (Ev.step (f := fun _ => some 0) (fun k => ?_) (Ev.now _)))))⟩
      · simp only [spec_l06Joiner.l0]
        rw [if_pos (by decide), w2]
      · simp only [spec_l06Joiner.l0]
        rw [if_neg (by decide)]
/-- Who joins, as a function: what both sides say. -/
theorem joiner_fun : ∃ J : Nat → List Int → Int, ∀ (n : Nat) (l : List Int), isHexV (n : Int) l = true → IsJ n l (J n l) ∧ Ev (fun k => impl_Hex_joiner.f k n l) (J n l) ∧ Ev (fun k => spec_l06Joiner.f k n l) (J n l) := by
  have h : ∀ (n : Nat) (l : List Int), ∃ j : Int, isHexV (n : Int) l = true → IsJ n l j ∧ Ev (fun k => impl_Hex_joiner.f k n l) j ∧ Ev (fun k => spec_l06Joiner.f k n l) j := fun n l => by
    by_cases hv : isHexV (n : Int) l = true
    · obtain ⟨m, e, h1, h8, hl⟩ := hex_natJ hv
      have e : n = m := by omega
      subst e
      obtain ⟨j, a, b⟩ := implJoiner_ev hv h1 h8 hl
      obtain ⟨j', a', b'⟩ := specJoiner_ev (l := l) h1 h8 hl
      have := a.unique a'
      subst this
      exact ⟨j, fun _ => ⟨a, b, b'⟩⟩
    · exact ⟨0, fun h => absurd h hv⟩
  exact ⟨fun n l => Classical.choose (h n l), fun n l hv => Classical.choose_spec (h n l) hv⟩
-- The winner of a position of Hex, plain. IsJ JoinP join_map full_one FullB emptyL chosen_pair board_child mover_cases moverV isHexV_cells hex_natJ rd_get hexWinF hexEnd hexAny joiner_fun
/-- The winner of a position with d empty cells, from who joins on full boards. -/
def winJ (J : List Int → Int) : Nat → List Int → Int
  | 0, l => J l
  | d + 1, l => if ((emptyL l).any fun x => winJ J d (l.set x.toNat (moverV l)) == moverV l) = true then moverV l else 3 - moverV l
theorem rd_set {l : List Int} {i : Nat} {v : Int} {j : Nat} (hi : i < l.length) : rd (l.set i v) (j : Int) = if i = j then v else rd l (j : Int) := by
  unfold rd
  rw [Int.toNat_natCast, List.getD_eq_getElem?_getD, List.getD_eq_getElem?_getD]
  by_cases h : i = j
  · subst h
    rw [if_pos rfl, List.getElem?_set_self hi]; rfl
  · rw [if_neg h, List.getElem?_set_ne h]
theorem mem_chosenJ {p : Int → Bool} : ∀ {n : Nat} (x : Int), 0 ≤ x → x < (n : Int) → p x = true → x ∈ chosenTo p n
  | 0, x, h0, h1, _ => by omega
  | n + 1, x, h0, h1, h2 => by
    have hs : chosenTo p (n + 1) = if p n then chosenTo p n ++ [(n : Int)] else chosenTo p n := rfl
    rw [hs]
    by_cases e : x = (n : Int)
    · subst e
      rw [if_pos h2]
      exact List.mem_append_right _ (List.mem_singleton.2 rfl)
    · have := mem_chosenJ (n := n) x h0 (by omega) h2
      split
      · exact List.mem_append_left _ this
      · exact this
theorem empty_full {n : Nat} {l : List Int} (hl : l.length = n * n) (hx : ∀ x ∈ l, x = 0 ∨ x = 1 ∨ x = 2) (he : emptyL l = []) : FullB n l := fun i hi => by
  have hm : rd l (i : Int) ∈ l := by
    rw [rd_get l i (by omega)]
    exact List.getElem_mem _
  rcases hx _ hm with h | h
  · exfalso
    have : (i : Int) ∈ emptyL l := by
      have := mem_chosenJ (p := fun c => rd l c == 0) (n := l.length) (i : Int) (by omega) (by omega) (by rw [h]; rfl)
      exact this
    rw [he] at this
    simp at this
  · exact h
theorem child_join {n : Nat} {l : List Int} (hl : l.length = n * n) {x : Int} (hx : x ∈ emptyL l) {p m : Int} (hp : p ≠ 0) (h : JoinP n l p) : JoinP n (l.set x.toNat m) p := by
  obtain ⟨h0, h1, h2⟩ := (chosen_pair (fun c => rd l c == 0) l.length).2 x hx
  refine join_map (fun i hi he => ?_) h
  rw [rd_set (by omega)]
  by_cases e : x.toNat = i
  · exfalso
    have h2 : rd l x = 0 := beq_iff_eq.1 h2
    have : x = (i : Int) := by omega
    rw [this, he] at h2
    exact hp h2
  · rw [if_neg e]; exact he
/-- Who has joined stays the winner. -/
theorem winJ_joined {n : Nat} (J : List Int → Int) (hJ : ∀ l, isHexV (n : Int) l = true → IsJ n l (J l)) {p : Int} (hp : p = 1 ∨ p = 2) : ∀ (d : Nat) (l : List Int), isHexV (n : Int) l = true → moverV l ≠ 0 → (emptyL l).length = d → JoinP n l p → winJ J d l = p := by
  intro d
  induction d with
  | zero =>
    intro l hv hm hd hj
    obtain ⟨m, e, h1, h8, hl⟩ := hex_natJ hv
    have e : n = m := by omega
    subst e
    have hfull := full_one h1 (empty_full hl (isHexV_cells hv).2.2.2 (List.eq_nil_of_length_eq_zero hd))
    show J l = p
    rcases hJ l hv with ⟨e, h⟩ | ⟨e, h, g⟩ | ⟨e, h, g⟩
    · rcases hp with rfl | rfl
      · exact e
      · exact absurd ⟨h, hj⟩ hfull.2
    · rcases hp with rfl | rfl
      · exact absurd hj h
      · exact e
    · rcases hp with rfl | rfl
      · exact absurd hj h
      · exact absurd hj g
  | succ d ih =>
    intro l hv hm hd hj
    obtain ⟨k, e, h1, h8, hl⟩ := hex_natJ hv
    have e : n = k := by omega
    subst e
    have hch : ∀ x ∈ emptyL l, winJ J d (l.set x.toNat (moverV l)) = p := fun x hx => by
      obtain ⟨a, b, c⟩ := board_child hv hm hx
      exact ih _ a (by rw [b]; rcases mover_cases hm with ⟨h, _⟩ | ⟨h, _⟩ <;> rw [h] <;> decide) (by omega) (child_join hl hx (by omega) hj)
    rw [winJ]
    by_cases hpm : p = moverV l
    · rw [if_pos]
      · exact hpm.symm
      · obtain ⟨x, hx⟩ : ∃ x, x ∈ emptyL l := by
          cases he : emptyL l with
          | nil => rw [he] at hd; simp at hd
          | cons x r => exact ⟨x, List.mem_cons_self ..⟩
        exact List.any_eq_true.2 ⟨x, hx, by rw [hch x hx, hpm]; exact beq_self_eq_true _⟩
    · rw [if_neg]
      · rcases mover_cases hm with ⟨h, _⟩ | ⟨h, _⟩ <;> omega
      · intro h
        obtain ⟨x, hx, h⟩ := List.any_eq_true.1 h
        rw [hch x hx] at h
        exact hpm (beq_iff_eq.1 h)
/-- The program's side. -/
theorem hexWinF_ev {n : Nat} (J : List Int → Int) (hJ : ∀ l, isHexV (n : Int) l = true → IsJ n l (J l) ∧ Ev (fun k => impl_Hex_joiner.f k n l) (J l)) : ∀ (d : Nat) (l : List Int), isHexV (n : Int) l = true → moverV l ≠ 0 → (emptyL l).length = d → Ev (fun k => hexWinF k n d l) (winJ J d l) := by
  intro d
  induction d with
  | zero =>
    intro l hv hm hd
    obtain ⟨h1, h2⟩ := hJ l hv
    have hr : 0 ≤ J l ∧ J l ≤ 2 := by
      rcases h1 with ⟨e, _⟩ | ⟨e, _⟩ | ⟨e, _⟩ <;> omega
    exact Ev.bind h2 (Ev.congr (f := fun _ => some (J l)) (fun k => by rw [if_pos hr]) (Ev.now _))
  | succ d ih =>
    intro l hv hm hd
    have hch : ∀ x ∈ emptyL l, Ev (fun k => hexWinF k n d (l.set x.toNat (moverV l))) (winJ J d (l.set x.toNat (moverV l))) := fun x hx => by
      obtain ⟨a, b, c⟩ := board_child hv hm hx
      exact ih _ a (by rw [b]; rcases mover_cases hm with ⟨h, _⟩ | ⟨h, _⟩ <;> rw [h] <;> decide) (by omega)
    have hany : ∀ r : List Int, (∀ x ∈ r, x ∈ emptyL l) → Ev (fun k => hexAny (hexWinF k n d) l (moverV l) r) (r.any fun x => winJ J d (l.set x.toNat (moverV l)) == moverV l) := by
      intro r
      induction r with
      | nil => exact fun _ => Ev.now _
      | cons x r ihr =>
        intro h
        refine Ev.bind (hch x (h x (List.mem_cons_self ..))) (Ev.bind (ihr (fun y hy => h y (List.mem_cons_of_mem _ hy))) ?_)
        exact Ev.congr (f := fun _ => some ((x :: r).any fun x => winJ J d (l.set x.toNat (moverV l)) == moverV l)) (fun k => by rw [List.any_cons]) (Ev.now _)
    exact Ev.bind (hany _ (fun x hx => hx)) (Ev.now _)
-- The reference's winner of Hex: what it keeps is so. winJ winJ_joined rd_set mem_chosenJ empty_full emptyL chosen_pair board_child mover_cases isHexV_cells hex_natJ hex_small full_one IsJ rd_get three_small three_wrap wrap_next (for 33 37)
def numOf (b : List Int) : List Int → Nat
  | [] => 0
  | e :: r => (rd b e).toNat + 3 * numOf b r
theorem numOf_lt {b : List Int} : ∀ E : List Int, (∀ e ∈ E, (rd b e).toNat ≤ 2) → numOf b E < 3 ^ E.length
  | [], _ => by simp [numOf]
  | e :: r, h => by
    have ih := numOf_lt r (fun x hx => h x (List.mem_cons_of_mem _ hx))
    have := h e (List.mem_cons_self ..)
    rw [numOf, List.length_cons, Nat.pow_succ]
    omega
theorem rd_setI {b : List Int} {x y v : Int} (hx : 0 ≤ x) (hxl : x < b.length) (hy : 0 ≤ y) : rd (b.set x.toNat v) y = if x = y then v else rd b y := by
  obtain ⟨i, rfl⟩ : ∃ i : Nat, x = (i : Int) := ⟨x.toNat, by omega⟩
  obtain ⟨j, rfl⟩ : ∃ j : Nat, y = (j : Int) := ⟨y.toNat, by omega⟩
  rw [Int.toNat_natCast, rd_set (by omega)]
  by_cases h : i = j
  · rw [if_pos h, if_pos (by omega)]
  · rw [if_neg h, if_neg (by omega)]
theorem numOf_other {b : List Int} {x v : Int} (hx : 0 ≤ x) (hxl : x < b.length) : ∀ E : List Int, (∀ e ∈ E, 0 ≤ e) → (∀ e ∈ E, x ≠ e) → numOf (b.set x.toNat v) E = numOf b E
  | [], _, _ => rfl
  | e :: r, h0, h => by
    rw [numOf, numOf, numOf_other hx hxl r (fun y hy => h0 y (List.mem_cons_of_mem _ hy)) (fun y hy => h y (List.mem_cons_of_mem _ hy)), rd_setI hx hxl (h0 e (List.mem_cons_self ..)), if_neg (h e (List.mem_cons_self ..))]
theorem numOf_set {b : List Int} {v : Int} : ∀ (E : List Int) (i : Nat) (hi : i < E.length), E.Pairwise (· < ·) → (∀ e ∈ E, 0 ≤ e ∧ e < b.length) → rd b E[i] = 0 → numOf (b.set E[i].toNat v) E = numOf b E + v.toNat * 3 ^ i
  | [], i, hi, _, _, _ => by simp at hi
  | e :: r, 0, _, hp, h0, hz => by
    have h0e := h0 e (List.mem_cons_self ..)
    have hz : rd b e = 0 := hz
    show numOf (b.set e.toNat v) (e :: r) = _
    rw [numOf, numOf, rd_setI h0e.1 h0e.2 h0e.1, if_pos rfl, hz, numOf_other h0e.1 h0e.2 r (fun y hy => (h0 y (List.mem_cons_of_mem _ hy)).1) (fun y hy => by have := (List.pairwise_cons.1 hp).1 y hy; omega)]
    simp
    omega
  | e :: r, i + 1, hi, hp, h0, hz => by
    have h0e := h0 e (List.mem_cons_self ..)
    have hi2 : i < r.length := by simpa using hi
    have hme : r[i] ∈ r := List.getElem_mem hi2
    have h0i := h0 r[i] (List.mem_cons_of_mem _ hme)
    have hlt := (List.pairwise_cons.1 hp).1 r[i] hme
    have ih := numOf_set (b := b) (v := v) r i hi2 (List.pairwise_cons.1 hp).2 (fun y hy => h0 y (List.mem_cons_of_mem _ hy)) hz
    show numOf (b.set r[i].toNat v) (e :: r) = _
    rw [numOf, numOf, ih, rd_setI h0i.1 h0i.2 h0e.1, if_neg (by omega), Nat.pow_succ, Nat.mul_add]
    have : 3 * (v.toNat * 3 ^ i) = v.toNat * (3 ^ i * 3) := by rw [Nat.mul_comm 3, Nat.mul_assoc]
    omega
theorem numOf_inj {b b' : List Int} : ∀ E : List Int, (∀ e ∈ E, 0 ≤ rd b e ∧ rd b e ≤ 2) → (∀ e ∈ E, 0 ≤ rd b' e ∧ rd b' e ≤ 2) → numOf b E = numOf b' E → ∀ e ∈ E, rd b e = rd b' e
  | [], _, _, _, e, he => absurd he (by simp)
  | a :: r, h1, h2, h, e, he => by
    rw [numOf, numOf] at h
    have ha := h1 a (List.mem_cons_self ..)
    have hb := h2 a (List.mem_cons_self ..)
    rcases List.mem_cons.1 he with rfl | he
    · omega
    · exact numOf_inj r (fun x hx => h1 x (List.mem_cons_of_mem _ hx)) (fun x hx => h2 x (List.mem_cons_of_mem _ hx)) (by omega) e he
/-- A board that goes on from the first one. -/
def InB (l0 b : List Int) : Prop := b.length = l0.length ∧ ∀ x : Nat, x < l0.length → rd l0 (x : Int) ≠ 0 → rd b (x : Int) = rd l0 (x : Int)
theorem rd_cell {b : List Int} (hx : ∀ x ∈ b, x = 0 ∨ x = 1 ∨ x = 2) (e : Int) : 0 ≤ rd b e ∧ rd b e ≤ 2 := by
  unfold rd
  rw [List.getD_eq_getElem?_getD]
  cases h : b[e.toNat]? with
  | none => simp
  | some v =>
    have := hx v (List.mem_of_getElem? h)
    simp
    omega
theorem board_inj {l0 b b' : List Int} (hb : InB l0 b) (hb' : InB l0 b') (hx : ∀ x ∈ b, x = 0 ∨ x = 1 ∨ x = 2) (hx' : ∀ x ∈ b', x = 0 ∨ x = 1 ∨ x = 2) (h : numOf b (emptyL l0) = numOf b' (emptyL l0)) : b = b' := by
  have hi := numOf_inj (emptyL l0) (fun e _ => rd_cell hx e) (fun e _ => rd_cell hx' e) h
  refine List.ext_getElem (by rw [hb.1, hb'.1]) (fun i h1 h2 => ?_)
  rw [← rd_get b i h1, ← rd_get b' i h2]
  have hil : i < l0.length := by rw [← hb.1]; exact h1
  by_cases hz : rd l0 (i : Int) = 0
  · exact hi (i : Int) (mem_chosenJ (p := fun c => rd l0 c == 0) (i : Int) (by omega) (by omega) (beq_iff_eq.2 hz))
  · rw [hb.2 i hil hz, hb'.2 i hil hz]
def Wj (J : List Int → Int) (b : List Int) : Int := winJ J (emptyL b).length b
def KnH (n : Nat) (J : List Int → Int) (l0 known : List Int) : Prop := known.length = 3 ^ (emptyL l0).length ∧ ∀ b, isHexV (n : Int) b = true → moverV b ≠ 0 → InB l0 b → rd known ((numOf b (emptyL l0) : Nat) : Int) > 0 → rd known ((numOf b (emptyL l0) : Nat) : Int) = Wj J b
theorem num_lt {n : Nat} {l0 b : List Int} (hv : isHexV (n : Int) b = true) : numOf b (emptyL l0) < 3 ^ (emptyL l0).length :=
  numOf_lt _ (fun e _ => by have := rd_cell (isHexV_cells hv).2.2.2 e; omega)
theorem KnH.put {n : Nat} {J : List Int → Int} {l0 known b : List Int} (h : KnH n J l0 known) (hv : isHexV (n : Int) b = true) (hb : InB l0 b) : KnH n J l0 (known.set (numOf b (emptyL l0)) (Wj J b)) := by
  have hlt := num_lt (l0 := l0) hv
  refine ⟨by rw [List.length_set]; exact h.1, fun b' hv' hm' hb' hp => ?_⟩
  rw [rd_set (by rw [h.1]; exact hlt)] at hp ⊢
  by_cases e : numOf b (emptyL l0) = numOf b' (emptyL l0)
  · rw [if_pos e]
    rw [board_inj hb hb' (isHexV_cells hv).2.2.2 (isHexV_cells hv').2.2.2 e]
  · rw [if_neg e] at hp ⊢
    exact h.2 b' hv' hm' hb' hp
theorem in_child {l0 b : List Int} (hb : InB l0 b) {x m : Int} (hx : x ∈ emptyL l0) : InB l0 (b.set x.toNat m) := by
  obtain ⟨h0, h1, h2⟩ := (chosen_pair (fun c => rd l0 c == 0) l0.length).2 x hx
  have h2 : rd l0 x = 0 := beq_iff_eq.1 h2
  refine ⟨by rw [List.length_set]; exact hb.1, fun y hy hz => ?_⟩
  rw [rd_setI h0 (by rw [hb.1]; exact h1) (by omega), if_neg (fun e => hz (by rw [← e]; exact h2))]
  exact hb.2 y hy hz
/-- A cell of the first board's empty ones is an empty cell now just where it reads 0. -/
theorem empty_now {l0 b : List Int} (hb : InB l0 b) (x : Int) : x ∈ emptyL b ↔ x ∈ emptyL l0 ∧ rd b x = 0 := by
  constructor
  · intro hx
    obtain ⟨h0, h1, h2⟩ := (chosen_pair (fun c => rd b c == 0) b.length).2 x hx
    have h2 : rd b x = 0 := beq_iff_eq.1 h2
    refine ⟨mem_chosenJ (p := fun c => rd l0 c == 0) x h0 (by rw [← hb.1]; exact h1) (beq_iff_eq.2 ?_), h2⟩
    by_cases hz : rd l0 x = 0
    · exact hz
    · have e : x = ((x.toNat : Nat) : Int) := by omega
      have := hb.2 x.toNat (by rw [← hb.1]; omega) (by rw [← e]; exact hz)
      rw [← e, h2] at this
      exact this.symm
  · rintro ⟨hx, h2⟩
    obtain ⟨h0, h1, _⟩ := (chosen_pair (fun c => rd l0 c == 0) l0.length).2 x hx
    exact mem_chosenJ (p := fun c => rd b c == 0) x h0 (by rw [hb.1]; exact h1) (beq_iff_eq.2 h2)
def hitTo (J : List Int → Int) (b E : List Int) (mv : Int) (i : Nat) : Prop := ∃ j, ∃ h : j < E.length, j < i ∧ rd b E[j] = 0 ∧ Wj J (b.set E[j].toNat mv) = mv
theorem Wj_step {n : Nat} {J : List Int → Int} {l0 b : List Int} (hv : isHexV (n : Int) b = true) (hm : moverV b ≠ 0) (hb : InB l0 b) {d : Nat} (hd : (emptyL b).length = d + 1) : (hitTo J b (emptyL l0) (moverV b) (emptyL l0).length → Wj J b = moverV b) ∧ (¬ hitTo J b (emptyL l0) (moverV b) (emptyL l0).length → Wj J b = 3 - moverV b) := by
  have hch : ∀ x ∈ emptyL b, winJ J d (b.set x.toNat (moverV b)) = Wj J (b.set x.toNat (moverV b)) := fun x hx => by
    have := (board_child hv hm hx).2.2
    unfold Wj
    rw [show (emptyL (b.set x.toNat (moverV b))).length = d by omega]
  have hany : ((emptyL b).any fun x => winJ J d (b.set x.toNat (moverV b)) == moverV b) = true ↔ hitTo J b (emptyL l0) (moverV b) (emptyL l0).length := by
    rw [List.any_eq_true]
    constructor
    · rintro ⟨x, hx, h⟩
      rw [hch x hx] at h
      obtain ⟨hx2, hz⟩ := (empty_now hb x).1 hx
      obtain ⟨j, hj, rfl⟩ := List.mem_iff_getElem.1 hx2
      exact ⟨j, hj, hj, hz, beq_iff_eq.1 h⟩
    · rintro ⟨j, hj, _, hz, h⟩
      have hx := (empty_now hb (emptyL l0)[j]).2 ⟨List.getElem_mem hj, hz⟩
      exact ⟨_, hx, by rw [hch _ hx]; exact beq_iff_eq.2 h⟩
  have e : Wj J b = winJ J (d + 1) b := by unfold Wj; rw [hd]
  rw [e, winJ]
  exact ⟨fun h => by rw [if_pos (hany.2 h)], fun h => by rw [if_neg (fun h2 => h (hany.1 h2))]⟩
theorem wrap_smallS {z : Int} (h0 : 0 ≤ z) (h1 : z ≤ 1000000) : wrap64 z = z := by unfold wrap64; omega
theorem wrap_numHW {mv : Int} {N p : Nat} (h0 : 0 ≤ mv) (h : N + mv.toNat * p < 19684) : wrap64 ((N : Int) + wrap64 (mv * (p : Int))) = ((N + mv.toNat * p : Nat) : Int) := by
  have e1 : mv * (p : Int) = ((mv.toNat * p : Nat) : Int) := by
    rw [Int.natCast_mul]
    congr 1
    omega
  rw [e1]
  generalize mv.toNat * p = z at h ⊢
  rw [wrap_smallS (z := (z : Int)) (by omega) (by omega), wrap_smallS (by omega) (by omega)]
  omega
theorem specHexWin_ev {n : Nat} (J : List Int → Int) (hJ : ∀ l, isHexV (n : Int) l = true → IsJ n l (J l) ∧ Ev (fun k => spec_l06Joiner.f k n l) (J l)) (hown : ∀ x : List Int, x.length ≤ 64 → spec_l01Own.f x = some x) {l0 : List Int} (hm9 : (emptyL l0).length ≤ 9) (hl0 : l0.length ≤ 64) : ∀ (d : Nat) (b known : List Int), (emptyL b).length = d → isHexV (n : Int) b = true → moverV b ≠ 0 → InB l0 b → KnH n J l0 known →
    ∃ known', KnH n J l0 known' ∧ Ev (fun k => spec_l06Winner.f k n b (emptyL l0) known ((numOf b (emptyL l0) : Nat) : Int) (moverV b)) (Wj J b, known') := by
  intro d
  induction d with
  | zero =>
    intro b known hd hv hm hb hk
    have hlt := num_lt (l0 := l0) hv
    have h3 := three_small hm9
    have hlt2 : numOf b (emptyL l0) < known.length := by rw [hk.1]; exact hlt
    obtain ⟨m, e, h1, h8, hl⟩ := hex_natJ hv
    have e : n = m := by omega
    subst e
    obtain ⟨hij, hje⟩ := hJ b hv
    have hw : Wj J b = J b := by unfold Wj; rw [hd]; rfl
    have hfull := full_one h1 (empty_full hl (isHexV_cells hv).2.2.2 (List.eq_nil_of_length_eq_zero hd))
    have hjn : J b ≠ 0 := by
      rcases hij with ⟨e, _⟩ | ⟨e, _⟩ | ⟨e, h, g⟩
      · omega
      · omega
      · rcases hfull.1 with h2 | h2
        · exact absurd h2 h
        · exact absurd h2 g
    by_cases hp : rd known ((numOf b (emptyL l0) : Nat) : Int) > 0
    · refine ⟨known, hk, Ev.step (f := fun _ => some (Wj J b, known)) (fun k => ?_) (Ev.now _)⟩
      simp only [spec_l06Winner.f]
      rw [if_pos (by omega), if_pos (by omega), if_pos hp, hk.2 b hv hm hb hp]
    · refine ⟨_, hk.put hv hb, Ev.step (f := fun k => (spec_l06Joiner.f k n b).bind fun t => if t = 0 then spec_l06Winner.l0 k n b (emptyL l0) known ((numOf b (emptyL l0) : Nat) : Int) (moverV b) (wrap64 (3 - moverV b)) 1 0 else some (t, known.set (numOf b (emptyL l0)) t)) (fun k => ?_) (Ev.bind hje (Ev.congr (f := fun _ => some (Wj J b, known.set (numOf b (emptyL l0)) (Wj J b))) (fun k => by rw [if_neg hjn, hw]) (Ev.now _)))⟩
      simp only [spec_l06Winner.f]
      rw [if_pos (by omega), if_pos (by omega), if_neg hp, Int.toNat_natCast]
  | succ d ih =>
    intro b known hd hv hm hb hk
    have hlt := num_lt (l0 := l0) hv
    have h3 := three_small hm9
    have hlt2 : numOf b (emptyL l0) < known.length := by rw [hk.1]; exact hlt
    obtain ⟨q, e, h1, h8, hl⟩ := hex_natJ hv
    have e : n = q := by omega
    subst e
    obtain ⟨hij, hje⟩ := hJ b hv
    by_cases hp : rd known ((numOf b (emptyL l0) : Nat) : Int) > 0
    · refine ⟨known, hk, Ev.step (f := fun _ => some (Wj J b, known)) (fun k => ?_) (Ev.now _)⟩
      simp only [spec_l06Winner.f]
      rw [if_pos (by omega), if_pos (by omega), if_pos hp, hk.2 b hv hm hb hp]
    have enter : ∀ r, Ev (fun k => (spec_l06Joiner.f k n b).bind fun t => if t = 0 then spec_l06Winner.l0 k n b (emptyL l0) known ((numOf b (emptyL l0) : Nat) : Int) (moverV b) (wrap64 (3 - moverV b)) 1 0 else some (t, known.set (numOf b (emptyL l0)) t)) r → Ev (fun k => spec_l06Winner.f k n b (emptyL l0) known ((numOf b (emptyL l0) : Nat) : Int) (moverV b)) r := fun r h => by
      refine Ev.step (fun k => ?_) h
      simp only [spec_l06Winner.f]
      rw [if_pos (by omega), if_pos (by omega), if_neg hp, Int.toNat_natCast]
    by_cases hj0 : J b = 0
    · obtain ⟨w1, w2⟩ := Wj_step (J := J) hv hm hb hd
      obtain ⟨hpw, hb0⟩ := chosen_pair (fun c => rd l0 c == 0) l0.length
      have hE0 : ∀ e ∈ emptyL l0, 0 ≤ e ∧ e < (b.length : Int) := fun e he => by have := hb0 e he; rw [hb.1]; exact ⟨this.1, this.2.1⟩
      have hEp : (emptyL l0).Pairwise (· < ·) := hpw
      have hbl : b.length ≤ 64 := by rw [hb.1]; exact hl0
      obtain ⟨mv, hmv⟩ : ∃ mv, moverV b = mv := ⟨_, rfl⟩
      have hmr : mv = 1 ∨ mv = 2 := by rcases mover_cases hm with ⟨h, _⟩ | ⟨h, _⟩ <;> omega
      obtain ⟨E, hE⟩ : ∃ E, emptyL l0 = E := ⟨_, rfl⟩
      obtain ⟨N, hN⟩ : ∃ N, numOf b (emptyL l0) = N := ⟨_, rfl⟩
      have key : ∀ (dd i : Nat) (kn : List Int) (out : Int), i + dd = E.length → KnH n J l0 kn → ((hitTo J b E mv i ∧ out = mv) ∨ (¬ hitTo J b E mv i ∧ out = 3 - mv)) →
          ∃ kn', KnH n J l0 kn' ∧ Ev (fun k => spec_l06Winner.l0 k n b E kn (N : Int) mv out ((3 ^ i : Nat) : Int) i) (Wj J b, kn') := by
        have fin : ∀ (i : Nat) (kn : List Int) (out : Int), KnH n J l0 kn → out = Wj J b → ∃ kn', KnH n J l0 kn' ∧ Ev (fun k => spec_l06Winner.j1 k n b E kn (N : Int) mv out ((3 ^ i : Nat) : Int) i false) (Wj J b, kn') := fun i kn out hkn ho => by
          have hlk : N < kn.length := by rw [hkn.1, ← hN]; exact hlt
          refine ⟨_, hkn.put hv hb, Ev.step (f := fun _ => some (Wj J b, kn.set (numOf b (emptyL l0)) (Wj J b))) (fun k => ?_) (Ev.now _)⟩
          simp only [spec_l06Winner.j1]
          rw [if_neg (by simp), if_pos (by omega), if_pos (by omega), ho, Int.toNat_natCast, hN]
        intro dd
        induction dd with
        | zero =>
          intro i kn out hi hkn ho
          have e : i = E.length := by omega
          subst e
          have how : out = Wj J b := by
            rw [hE, hmv] at w1 w2
            rcases ho with ⟨h, e⟩ | ⟨h, e⟩
            · rw [e, w1 h]
            · rw [e, w2 h]
          obtain ⟨kn', a1, a2⟩ := fin E.length kn out hkn how
          refine ⟨kn', a1, Ev.step (fun k => ?_) a2⟩
          simp only [spec_l06Winner.l0]
          rw [if_neg (by omega)]
        | succ dd ihd =>
          intro i kn out hi hkn ho
          have hil : i < E.length := by omega
          by_cases hom : out = mv
          · have hhit : hitTo J b E mv i := by
              rcases ho with ⟨h, _⟩ | ⟨_, e⟩
              · exact h
              · omega
            have how : out = Wj J b := by
              rw [hE, hmv] at w1
              obtain ⟨j, hj, hji, hz, hw⟩ := hhit
              rw [hom, w1 ⟨j, hj, hj, hz, hw⟩]
            obtain ⟨kn', a1, a2⟩ := fin i kn out hkn how
            refine ⟨kn', a1, Ev.step (fun k => ?_) a2⟩
            simp only [spec_l06Winner.l0]
            rw [if_pos (by omega), show (out != mv) = false by rw [hom]; simp]
          · have hno : ¬ hitTo J b E mv i ∧ out = 3 - mv := by
              rcases ho with ⟨_, e⟩ | h
              · exact absurd e hom
              · exact h
            have hgo : ∀ r, Ev (fun k => spec_l06Winner.j1 k n b E kn (N : Int) mv out ((3 ^ i : Nat) : Int) i true) r → Ev (fun k => spec_l06Winner.l0 k n b E kn (N : Int) mv out ((3 ^ i : Nat) : Int) i) r := fun r h => by
              refine Ev.step (fun k => ?_) h
              simp only [spec_l06Winner.l0]
              rw [if_pos (by omega), show (out != mv) = true by exact bne_iff_ne.2 hom]
            have hei := hE0 E[i] (by rw [hE]; exact List.getElem_mem hil)
            have hrE : rd E (i : Int) = E[i] := rd_get E i hil
            have hpow : 3 ^ i ≤ 19683 := three_small (by rw [hE] at hm9; omega)
            have W3 := Aside0.mk (three_wrap hpow)
            have W1 := Aside0.mk (show wrap64 ((i : Int) + 1) = ((i + 1 : Nat) : Int) from wrap_next hil (by rw [hE] at hm9; omega))
            have hp3 : ((3 ^ i * 3 : Nat) : Int) = ((3 ^ (i + 1) : Nat) : Int) := by rw [Nat.pow_succ]
            by_cases hz : rd b E[i] = 0
            · have hxe : E[i] ∈ emptyL b := (empty_now hb E[i]).2 ⟨by rw [hE]; exact List.getElem_mem hil, hz⟩
              obtain ⟨c1, c2, c3⟩ := board_child hv hm hxe
              rw [hmv] at c1 c2 c3
              have hnum : numOf (b.set E[i].toNat mv) (emptyL l0) = N + mv.toNat * 3 ^ i := by
                have := numOf_set (b := b) (v := mv) E i hil (by rw [← hE]; exact hEp) (by rw [← hE]; exact hE0) hz
                rw [hE, this, ← hN, hE]
              have hbc := in_child (m := mv) hb (x := E[i]) (by rw [hE]; exact List.getElem_mem hil)
              obtain ⟨kn1, k1, k2⟩ := ih (b.set E[i].toNat mv) kn (by omega) c1 (by rw [c2]; rcases hmr with h | h <;> rw [h] <;> decide) hbc hkn
              rw [hnum, c2, hE] at k2
              have hn2 : N + mv.toNat * 3 ^ i < 19684 := by
                have := num_lt (l0 := l0) c1
                rw [hnum] at this
                omega
              have WN := Aside0.mk (wrap_numHW (mv := mv) (N := N) (p := 3 ^ i) (by omega) hn2)
              have WM := Aside0.mk (show wrap64 (3 - mv) = 3 - mv from wrap_smallS (by omega) (by omega))
              have hnext : ∃ kn', KnH n J l0 kn' ∧ Ev (fun k => spec_l06Winner.l0 k n b E kn1 (N : Int) mv (if Wj J (b.set E[i].toNat mv) = mv then mv else out) ((3 ^ (i + 1) : Nat) : Int) ((i + 1 : Nat) : Int)) (Wj J b, kn') := by
                refine ihd (i + 1) kn1 _ (by omega) k1 ?_
                by_cases hw : Wj J (b.set E[i].toNat mv) = mv
                · rw [if_pos hw]
                  exact .inl ⟨⟨i, hil, by omega, hz, hw⟩, rfl⟩
                · rw [if_neg hw]
                  refine .inr ⟨?_, hno.2⟩
                  rintro ⟨j, hj, hji, hzj, hwj⟩
                  by_cases e : j = i
                  · subst e; exact hw hwj
                  · exact hno.1 ⟨j, hj, by omega, hzj, hwj⟩
              obtain ⟨kn', a1, a2⟩ := hnext
              refine ⟨kn', a1, hgo _ (Ev.step (f := fun k => (spec_l06Winner.f k n (b.set E[i].toNat mv) E kn ((N + mv.toNat * 3 ^ i : Nat) : Int) (3 - mv)).bind fun bt => if bt.1 = mv then spec_l06Winner.l0 k n b E bt.2 (N : Int) mv mv ((3 ^ (i + 1) : Nat) : Int) ((i + 1 : Nat) : Int) else spec_l06Winner.l0 k n b E bt.2 (N : Int) mv out ((3 ^ (i + 1) : Nat) : Int) ((i + 1 : Nat) : Int)) (fun k => ?_) (Ev.bind k2 ?_))⟩
              · simp only [spec_l06Winner.j1]
                rw [if_pos (by simp), if_pos (by omega), if_pos (by omega), hrE, if_pos hei.1, if_pos hei.2, if_pos hz, hown b hbl, Option.bind_some, if_pos hei.2, WN.out, WM.out, W3.out, W1.out, hp3]
              · by_cases hw : Wj J (b.set E[i].toNat mv) = mv
                · rw [if_pos hw] at a2
                  exact Ev.congr (fun k => by rw [if_pos hw]) a2
                · rw [if_neg hw] at a2
                  exact Ev.congr (fun k => by rw [if_neg hw]) a2
            · obtain ⟨kn', a1, a2⟩ := ihd (i + 1) kn out (by omega) hkn (.inr ⟨fun ⟨j, hj, hji, hzj, hwj⟩ => by
                by_cases e : j = i
                · subst e; exact hz hzj
                · exact hno.1 ⟨j, hj, by omega, hzj, hwj⟩, hno.2⟩)
              refine ⟨kn', a1, hgo _ (Ev.step (fun k => ?_) a2)⟩
              simp only [spec_l06Winner.j1]
              rw [if_pos (by simp), if_pos (by omega), if_pos (by omega), hrE, if_pos hei.1, if_pos hei.2, if_neg hz, W3.out, W1.out, hp3]
      have WM := Aside0.mk (show wrap64 (3 - mv) = 3 - mv from wrap_smallS (by omega) (by omega))
      obtain ⟨kn', a1, a2⟩ := key E.length 0 known (3 - mv) (by omega) hk (.inr ⟨fun ⟨j, hj, hji, _⟩ => by omega, rfl⟩)
      refine ⟨kn', a1, enter _ (Ev.bind hje (Ev.congr (fun k => ?_) a2))⟩
      rw [hj0, if_pos rfl, hmv, WM.out, hE]
      rw [hE] at hN
      rw [hN]
      rfl
    · have hw : Wj J b = J b := by
        unfold Wj
        rcases hij with ⟨e, h⟩ | ⟨e, h, g⟩ | ⟨e, _, _⟩
        · rw [e]; exact winJ_joined J (fun l hl => (hJ l hl).1) (.inl rfl) _ b hv hm rfl h
        · rw [e]; exact winJ_joined J (fun l hl => (hJ l hl).1) (.inr rfl) _ b hv hm rfl g
        · exact absurd e hj0
      refine ⟨_, hk.put hv hb, enter _ (Ev.bind hje (Ev.congr (f := fun _ => some (Wj J b, known.set (numOf b (emptyL l0)) (Wj J b))) (fun k => by rw [if_neg hj0, hw]) (Ev.now _)))⟩
-- Codes and first numbers of a board of Hex. implHexMover cells_some l06Is_ev l06Mover_ev chosenTo_all emptyL numOf (for 35 31 37)
theorem own_hexw (x : List Int) (h : x.length ≤ 64) : spec_l01Own.f x = some x := by
  unfold spec_l01Own.f
  simp only [Option.bind_some, List.nil_append]
  rw [if_pos (by simp; omega)]
theorem rd_rep0 (n i : Nat) : rd (List.replicate n (0 : Int)) (i : Int) = 0 := by
  unfold rd
  rw [Int.toNat_natCast, List.getD_eq_getElem?_getD, List.getElem?_replicate]
  split <;> rfl
theorem numOf_start (b : List Int) : ∀ E : List Int, (∀ e ∈ E, rd b e = 0) → numOf b E = 0
  | [], _ => rfl
  | e :: r, h => by rw [numOf, numOf_start b r (fun x hx => h x (List.mem_cons_of_mem _ hx)), h e (List.mem_cons_self ..)]; rfl
def codeHexV (p : Int) (l : List Int) : Int := if isHexV p l = true then (if moverV l = 0 then 5 else if (emptyL l).length ≤ 9 then 0 else 3) else 1
theorem implHexCode_some (p : Int) (l : List Int) (hl : l.length ≤ 1048576) : impl_hexCode.f p l = some (codeHexV p l) := by
  unfold impl_hexCode.f codeHexV
  rw [implHexMover, Option.bind_some]
  by_cases hv : isHexV p l = true
  · rw [if_pos hv, if_pos hv]
    by_cases hm : moverV l = 0
    · rw [if_pos hm, if_pos hm, if_neg (by omega)]
    · rw [if_neg hm, if_neg hm, if_pos rfl, cells_some p l 0 (by omega), Option.bind_some]
      have e : (chosenTo (fun c => rd l c == 0) l.length) = emptyL l := rfl
      rw [e]
      by_cases h9 : (emptyL l).length ≤ 9
      · rw [if_pos h9, if_neg (by omega)]
      · rw [if_neg h9, if_pos (by omega)]
  · rw [if_neg hv, if_neg hv, if_neg (by omega)]
theorem specHexCode_ev (p : Int) (l : List Int) (hl : l.length ≤ 1048576) : Ev (fun k => spec_l06Code.f k p l) (if codeHexV p l = 0 then moverV l else 0, codeHexV p l) := by
  have e1 := l06Is_ev p l (by omega)
  have hcount : (emptyL l).length = l.count 0 := chosenTo_all l 0
  unfold spec_l06Code.f
  by_cases hv : isHexV p l = true
  · refine Ev.bind e1 (Ev.congr (fun k => by rw [if_pos hv]) (Ev.bind (l06Mover_ev hv) ?_))
    by_cases hm : moverV l = 0
    · rw [show codeHexV p l = 5 by unfold codeHexV; rw [if_pos hv, if_pos hm], show (if (5 : Int) = 0 then moverV l else 0) = 0 from if_neg (by omega)]
      exact Ev.congr (f := fun _ => some ((0 : Int), (5 : Int))) (fun k => by rw [if_pos hm]) (Ev.now _)
    · by_cases h9 : (emptyL l).length ≤ 9
      · rw [show codeHexV p l = 0 by unfold codeHexV; rw [if_pos hv, if_neg hm, if_pos h9], if_pos rfl]
        exact Ev.congr (f := fun _ => some (moverV l, (0 : Int))) (fun k => by rw [if_neg hm, if_neg (by omega)]) (Ev.now _)
      · rw [show codeHexV p l = 3 by unfold codeHexV; rw [if_pos hv, if_neg hm, if_neg h9], show (if (3 : Int) = 0 then moverV l else 0) = 0 from if_neg (by omega)]
        exact Ev.congr (f := fun _ => some ((0 : Int), (3 : Int))) (fun k => by rw [if_neg hm, if_pos (by omega)]) (Ev.now _)
  · rw [show codeHexV p l = 1 by unfold codeHexV; rw [if_neg hv], show (if (1 : Int) = 0 then moverV l else 0) = 0 from if_neg (by omega)]
    exact Ev.bind e1 (Ev.congr (f := fun _ => some ((0 : Int), (1 : Int))) (fun k => by rw [if_neg hv]) (Ev.now _))
-- What the verifier writes into results, and finds there again.
def countUp : Int → Nat → List Int
  | _, 0 => []
  | m, n + 1 => m :: countUp (m + 1) n
theorem countUp_len : ∀ (n : Nat) (m : Int), (countUp m n).length = n
  | 0, _ => rfl
  | n + 1, m => by simp [countUp, countUp_len n]
theorem countUp_get : ∀ (n : Nat) (m : Int) (i : Nat) (h : i < (countUp m n).length), (countUp m n)[i] = m + i
  | 0, m, i, h => by simp [countUp] at h
  | n + 1, m, 0, h => by simp [countUp]
  | n + 1, m, i + 1, h => by
    have := countUp_get n (m + 1) i (by simpa [countUp] using h)
    simp only [countUp, List.getElem_cons_succ]
    rw [this]; omega
theorem mark_l0 (m0 : Int) (h0 : 0 ≤ m0) : ∀ (d i : Nat) (x : List Int), i + d = x.length → m0 + x.length ≤ 4611686018427387904 → (∀ (j : Nat) (hj : j < x.length), j < i → x[j] = m0 + j) →
    Ev (fun k => laws_markInt64S.l0 k x (m0 + i) i) (m0 + x.length, countUp m0 x.length) := by
  intro d
  induction d with
  | zero =>
    intro i x hi hb hx
    have e : x = countUp m0 x.length := by
      apply List.ext_getElem
      · rw [countUp_len]
      · intro j h1 h2
        rw [hx j h1 (by omega), countUp_get]
    refine Ev.step (f := fun _ => some (m0 + x.length, countUp m0 x.length)) (fun k => ?_) (Ev.now _)
    simp only [laws_markInt64S.l0]
    rw [if_neg (by omega), ← e]
    have : i = x.length := by omega
    rw [this]
  | succ d ih =>
    intro i x hi hb hx
    have hlt : i < x.length := by omega
    have := ih (i + 1) (x.set i (m0 + i)) (by simp; omega) (by simpa using hb) (fun j hj hji => by
      rw [List.getElem_set]
      split
      · rename_i e; rw [e]
      · rename_i e; exact hx j (by simpa using hj) (by omega))
    rw [List.length_set] at this
    refine Ev.step (fun k => ?_) this
    have w1 : wrap64 (m0 + i + 1) = m0 + ((i + 1 : Nat) : Int) := by unfold wrap64; omega
    have w2 : wrap64 ((i : Int) + 1) = ((i + 1 : Nat) : Int) := by unfold wrap64; omega
    simp only [laws_markInt64S.l0]
    rw [if_pos (by omega), if_pos (by omega), w1, w2, Int.toNat_natCast]
theorem mark_ev (m : Int) (h0 : 0 ≤ m) (x : List Int) (hb : m + x.length ≤ 4611686018427387904) : Ev (fun k => laws_markInt64S.f k x m) (m + x.length, countUp m x.length) := by
  have := mark_l0 m h0 x.length 0 x (by omega) hb (fun j _ h => by omega)
  refine Ev.congr (fun k => ?_) this
  unfold laws_markInt64S.f
  simp
theorem held_l0 (m0 : Int) (h0 : 0 ≤ m0) (x : List Int) (hb : m0 + x.length ≤ 4611686018427387904) (hx : ∀ (j : Nat) (hj : j < x.length), x[j] = m0 + j) : ∀ (d i : Nat), i + d = x.length →
    Ev (fun k => laws_heldInt64S.l0 k x (m0 + i) i) (m0 + x.length) := by
  intro d
  induction d with
  | zero =>
    intro i hi
    refine Ev.step (f := fun _ => some (m0 + x.length)) (fun k => ?_) (Ev.now _)
    simp only [laws_heldInt64S.l0]
    rw [if_neg (by omega)]
    have : i = x.length := by omega
    rw [this]
  | succ d ih =>
    intro i hi
    have hlt : i < x.length := by omega
    refine Ev.step (fun k => ?_) (ih (i + 1) (by omega))
    have w1 : wrap64 (m0 + i + 1) = m0 + ((i + 1 : Nat) : Int) := by unfold wrap64; omega
    have w2 : wrap64 ((i : Int) + 1) = ((i + 1 : Nat) : Int) := by unfold wrap64; omega
    simp only [laws_heldInt64S.l0]
    rw [if_pos (by omega), if_pos (by omega), rd_get x i hlt, hx i hlt, if_pos rfl, w1, w2]
theorem held_ev (m : Int) (h0 : 0 ≤ m) (n : Nat) (hb : m + n ≤ 4611686018427387904) : Ev (fun k => laws_heldInt64S.f k (countUp m n) m) (m + n) := by
  have := held_l0 m h0 (countUp m n) (by rw [countUp_len]; exact hb) (fun j hj => countUp_get n m j hj) n 0 (by rw [countUp_len]; omega)
  rw [countUp_len] at this
  refine Ev.congr (fun k => ?_) this
  unfold laws_heldInt64S.f
  simp
/-- The one pure statement of laws_FnExactHexMoves. -/
def laws_FnExactHexMoves.Pure : Prop := ∀ (a0_0 : Int) (l0_1 : List Int), (Lit.int .i64 a0_0).wf = true → (l0_1.length ≤ maxLen ∧ ∀ y2_ ∈ l0_1, (Lit.int .i64 y2_).wf = true) → ∃ k, laws_FnExactHexMoves.f k a0_0 l0_1 = some true
/-- A type's readings as data are values of a kind: what an argument of that type is, whatever it holds. -/
def Rdb {α : Type} (P : Program) (t : TypeId) (d : Kd α) (wf : α → Prop) : Prop :=
  ∀ (H : Type) (enc : TypeId × Value → H) (w : World) (base : Nat) (spare : Nat → Bool) (held : Bool) (fuel : Nat) (cs : List Value) (x : DataW H × List MemPlace),
    DataW.trod enc P w base spare held fuel t cs = some x → ∃ a : α, d.K w a cs ∧ wf a
theorem Rdb.int {P : Program} {t : TypeId} {k : IntKind} (ht : P.underlying t = some (.int k)) : Rdb P t (Kd.int k) (fun n => (Lit.int k n).wf = true) := by
  intro H enc w base spare held fuel cs x h
  obtain ⟨n, rfl, _, hw⟩ := DataW.trod_int ht h
  exact ⟨n, rfl, hw⟩
theorem Rdb.bool {P : Program} {t : TypeId} (ht : P.underlying t = some .bool) : Rdb P t Kd.bool (fun _ => True) := by
  intro H enc w base spare held fuel cs x h
  obtain ⟨n, rfl, _⟩ := DataW.trod_bool ht h
  exact ⟨n, rfl, trivial⟩
theorem Rdb.string {P : Program} {t : TypeId} (ht : P.underlying t = some .string) : Rdb P t Kd.string (fun s => s.size ≤ maxLen) := by
  intro H enc w base spare held fuel cs x h
  obtain ⟨s, rfl, _, hs⟩ := DataW.trod_string ht h
  exact ⟨s, rfl, hs⟩
theorem list_choose {α β : Type} {R : Nat → α → β → Prop} : ∀ (n : Nat) (xs : List α), xs.length = n → (∀ i x, xs[i]? = some x → ∃ y, R i x y) → ∃ ys : List β, ys.length = n ∧ ∀ i x y, xs[i]? = some x → ys[i]? = some y → R i x y := by
  intro n xs
  induction xs generalizing n R with
  | nil =>
    intro hl _
    exact ⟨[], by simpa using hl, by intro i x y h; simp at h⟩
  | cons x xs ih =>
    intro hl h
    obtain ⟨y, hy⟩ := h 0 x rfl
    obtain ⟨ys, h1, h2⟩ := ih (R := fun i a b => R (i + 1) a b) (n - 1) (by simp at hl; omega) (fun i a hi => h (i + 1) a (by simpa using hi))
    refine ⟨y :: ys, by simp at hl ⊢; omega, fun i a b ha hb => ?_⟩
    cases i with
    | zero =>
      simp at ha hb
      subst ha hb
      exact hy
    | succ i => exact h2 i a b (by simpa using ha) (by simpa using hb)
theorem Rdb.slice {α : Type} {P : Program} {t e : TypeId} {d : Kd α} {wf : α → Prop} (ht : P.underlying t = some (.slice e)) (hc : P.cellsOf e = d.sz) (h1 : 0 < d.sz) (r : Rdb P e d wf) :
    Rdb P t (Kd.slice e d) (fun l => l.length ≤ maxLen ∧ ∀ x ∈ l, wf x) := by
  intro H enc w base spare held fuel cs x h
  rcases DataW.trod_slice ht h with ⟨rfl, _⟩ | ⟨a, len, cap, elems, rest, n, _, rfl, _, hb, hl, hm, hlen, hel, _, _⟩
  · exact ⟨[], ⟨none, 0, rfl, by simp, Kd.C_nil _ _⟩, by simp, by simp⟩
  · have each : ∀ i (y : DataW H × List MemPlace), elems[i]? = some y → ∃ b : α, ∃ c, w.cells? base (a.add (i * P.cellsOf e)) (P.cellsOf e) = some c ∧ d.K w b c ∧ wf b := by
      intro i y hy
      have hi : i < len := by have := (List.getElem?_eq_some_iff.1 hy).1; omega
      have h2 := hel i hi
      rw [hy, Option.bind_eq_some_iff] at h2
      obtain ⟨c, hcs, htr⟩ := h2
      obtain ⟨b, hK, hw⟩ := r H enc w base spare held n c y htr
      exact ⟨b, c, hcs, hK, hw⟩
    obtain ⟨xs, hx1, hx2⟩ := list_choose (R := fun i _ (b : α) => ∃ c, w.cells? base (a.add (i * P.cellsOf e)) (P.cellsOf e) = some c ∧ d.K w b c ∧ wf b) len elems hlen each
    have get : ∀ i b, xs[i]? = some b → ∃ c, w.cells? base (a.add (i * P.cellsOf e)) (P.cellsOf e) = some c ∧ d.K w b c ∧ wf b := by
      intro i b hb'
      have hi : i < elems.length := by have := (List.getElem?_eq_some_iff.1 hb').1; omega
      exact hx2 i _ b (List.getElem?_eq_getElem hi) hb'
    refine ⟨xs, ⟨some a, cap, by rw [hx1], by omega, ?_⟩, by omega, fun b hb' => ?_⟩
    · refine ⟨rfl, by rw [hx1]; unfold maxLen at hm; omega, fun hp => ⟨a, rfl, fun j b hj => ?_⟩⟩
      obtain ⟨c, hcs, hK, _⟩ := get j b hj
      obtain ⟨_, hcl, hcell⟩ := World.cells?_some hcs
      refine ⟨c, by rw [hcl, hc], hK, fun i u hu => ?_⟩
      have hi : i < P.cellsOf e := by have := (List.getElem?_eq_some_iff.1 hu).1; omega
      have := hcell i hi
      rw [hu] at this
      rw [Addr.add_add] at this
      rw [← hc]
      exact this
    · obtain ⟨i, hi⟩ := List.mem_iff_getElem?.1 hb'
      obtain ⟨_, _, _, hw⟩ := get i b hi
      exact hw
theorem Rdb.struct2 {α β : Type} {P : Program} {t : TypeId} {f0 f1 : Field} {d0 : Kd α} {d1 : Kd β} {w0 : α → Prop} {w1 : β → Prop} (ht : P.underlying t = some (.struct #[f0, f1])) (o0 : f0.offset = 0) (o1 : f1.offset = P.cellsOf f0.type) (cT : P.cellsOf t = P.cellsOf f0.type + P.cellsOf f1.type)
    (r0 : Rdb P f0.type d0 w0) (r1 : Rdb P f1.type d1 w1) : Rdb P t (Kd.pair d0 d1) (fun x => w0 x.1 ∧ w1 x.2) := by
  intro H enc w base spare held fuel cs x h
  obtain ⟨y0, y1, n, _, hl, h0, h1⟩ := ChangeShapes.trod_struct2 ht h
  rw [o0, List.drop_zero] at h0
  rw [o1, List.take_of_length_le (by rw [List.length_drop, hl, cT]; omega)] at h1
  obtain ⟨a, hK0, hw0⟩ := r0 H enc w base spare held n _ y0 h0
  obtain ⟨b, hK1, hw1⟩ := r1 H enc w base spare held n _ y1 h1
  exact ⟨(a, b), ⟨_, _, (List.take_append_drop _ _).symm, hK0, hK1⟩, hw0, hw1⟩
theorem Rdb.of {α : Type} {P : Program} {t : TypeId} {d : Kd α} {wf : α → Prop} (r : Rdb P t d wf) {H : Type} {enc : TypeId × Value → H} {w : World} {base : Nat} {spare : Nat → Bool} {held : Bool} {v : Value} {x : DataW H} {ps : List MemPlace}
    (h : DataW.Trod enc P w base spare held t v x ps) : ∃ a : α, d.K w a v.cells.toList ∧ wf a := by
  obtain ⟨fuel, hf⟩ := h
  exact r H enc w base spare held fuel _ _ hf

end Go.Proofs.YtbmiojnkfgcfoaaDoor.F
