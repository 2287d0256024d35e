/- Contracts: merging grants. -/
import Derived.Test.YtojgihheepdgdaaViG7
set_option linter.unusedSimpArgs false
set_option linter.unusedVariables false
namespace Go.Vi.Code
def insertG : List Grant → Grant → List Grant
  | [], g => [g]
  | x :: l, g => if stampLess x.id g.id = true then x :: insertG l g else if x.id = g.id then x :: l else g :: x :: l
def mergeI : List Grant → List Grant → List Grant
  | [], b => b
  | x :: a, [] => x :: a
  | x :: a, y :: b => if stampLess x.id y.id = true then x :: mergeI a (y :: b) else if stampLess y.id x.id = true then y :: mergeI (x :: a) b else mergeI (x :: a) b
termination_by a b => a.length + b.length
theorem mergeI_nil (a : List Grant) : mergeI a [] = a := by cases a <;> simp [mergeI]
abbrev SortedG (l : List Grant) : Prop := l.Pairwise (fun a b => stampLess a.id b.id = true)
theorem less_trans {a b c : Stamp} (h : stampLess a b = true) (k : stampLess b c = true) : stampLess a c = true := by
  simp only [stampLess, decide_eq_true_eq] at h k ⊢; omega
theorem less_irrefl (a : Stamp) : stampLess a a = false := by
  simp [stampLess]
theorem less_asymm {a b : Stamp} (h : stampLess a b = true) : stampLess b a = false := by
  rw [Bool.eq_false_iff]; intro k
  have := less_trans h k
  rw [less_irrefl] at this; cases this
theorem less_tri {a b : Stamp} (h : ¬ stampLess a b = true) (k : ¬ stampLess b a = true) : a = b := by
  obtain ⟨a1, a2⟩ := a; obtain ⟨b1, b2⟩ := b
  simp only [stampLess, decide_eq_true_eq] at h k
  have : a1 = b1 ∧ a2 = b2 := by omega
  rw [this.1, this.2]
theorem mergeI_lt {x y : Grant} (a b : List Grant) (h : stampLess x.id y.id = true) : mergeI (x :: a) (y :: b) = x :: mergeI a (y :: b) := by rw [mergeI, if_pos h]
theorem mergeI_gt {x y : Grant} (a b : List Grant) (h : stampLess y.id x.id = true) : mergeI (x :: a) (y :: b) = y :: mergeI (x :: a) b := by
  rw [mergeI, if_neg (by rw [less_asymm h]; simp), if_pos h]
theorem mergeI_eq {x y : Grant} (a b : List Grant) (h : ¬ stampLess x.id y.id = true) (k : ¬ stampLess y.id x.id = true) : mergeI (x :: a) (y :: b) = mergeI (x :: a) b := by
  rw [mergeI, if_neg h, if_neg k]
theorem merge_step : ∀ (a : List Grant) (y : Grant) (b : List Grant), SortedG (y :: b) → mergeI a (y :: b) = mergeI (insertG a y) b
  | [], y, b, h => by
    simp only [mergeI, insertG]
    cases b with
    | nil => simp [mergeI]
    | cons z b =>
      rw [mergeI_lt _ _ ((List.pairwise_cons.1 h).1 z (by simp)), mergeI]
  | x :: a, y, b, h => by
    have ih := merge_step a y b h
    by_cases h1 : stampLess x.id y.id = true
    · rw [mergeI_lt _ _ h1, insertG, if_pos h1, ih]
      cases b with
      | nil => rw [mergeI_nil, mergeI_nil]
      | cons z b => rw [mergeI_lt _ _ (less_trans h1 ((List.pairwise_cons.1 h).1 z (by simp)))]
    · by_cases h2 : stampLess y.id x.id = true
      · have hne : ¬ x.id = y.id := by intro e; rw [e, less_irrefl] at h2; cases h2
        rw [mergeI_gt _ _ h2, insertG, if_neg h1, if_neg hne]
        cases b with
        | nil => rw [mergeI_nil, mergeI_nil]
        | cons z b => rw [mergeI_lt _ _ ((List.pairwise_cons.1 h).1 z (by simp))]
      · rw [mergeI_eq _ _ h1 h2, insertG, if_neg h1, if_pos (less_tri h1 h2)]
theorem merge_fold : ∀ (b a : List Grant), SortedG b → b.foldl insertG a = mergeI a b
  | [], a, _ => by rw [mergeI_nil]; rfl
  | y :: b, a, h => by
    rw [List.foldl_cons, merge_fold b _ (List.pairwise_cons.1 h).2, merge_step a y b h]
def mergeG (a b : List Grant) : List Grant × Bool := if validGrants a = true ∧ validGrants b = true then (if (mergeI a b).length ≤ 20 then (mergeI a b, true) else (a, false)) else ([], false)

theorem insertG_of : ∀ (l : List Grant) (g : Grant) (k : Nat), k ≤ l.length → (∀ j (h : j < l.length), j < k → stampLess l[j].id g.id = true) → (∀ h : k < l.length, stampLess l[k].id g.id = false) →
    insertG l g = if h : k < l.length then (if l[k].id = g.id then l else l.take k ++ g :: l.drop k) else l ++ [g]
  | [], g, k, hk, _, _ => by simp [insertG]
  | x :: l, g, 0, hk, _, h2 => by
    have := h2 (by simp)
    simp at this
    simp only [insertG, this, Bool.false_eq_true, if_false]
    simp
  | x :: l, g, k + 1, hk, h1, h2 => by
    have hx := h1 0 (by simp) (by omega)
    simp at hx
    have ih := insertG_of l g k (by simpa using hk) (fun j hj hji => h1 (j + 1) (by simpa using hj) (by omega)) (fun h => h2 (by simpa using h))
    simp only [insertG, hx, if_true, ih]
    by_cases h : k < l.length
    · have h' : k + 1 < (x :: l).length := by simpa using h
      rw [dif_pos h, dif_pos h']
      have e : (x :: l)[k + 1] = l[k] := rfl
      rw [e]
      split <;> simp
    · have h' : ¬ k + 1 < (x :: l).length := by simpa using h
      rw [dif_neg h, dif_neg h']
      rfl
theorem insertG_len (l : List Grant) (g : Grant) : (insertG l g).length ≤ l.length + 1 := by
  induction l with
  | nil => simp [insertG]
  | cons x l ih => simp only [insertG]; split <;> (try split) <;> simp <;> omega
@[go_sem] theorem rowOk_encG (g : Grant) : rowOk 5 (encG g) = true := rfl
theorem all_encG (l : List Grant) : (l.map encG).all (rowOk 5) = true := by
  rw [List.all_eq_true]
  intro r hr
  obtain ⟨g, _, rfl⟩ := List.mem_map.1 hr
  rfl
theorem fits_encG (l : List Grant) (j : Nat) : rowFits 5 (l.map encG)[j]? = true := by
  by_cases h : j < l.length <;> simp [h, rowFits, encG]
theorem insertGrant_c (l : List Grant) (hl : l.length ≤ 1048576) (a1 a2 a3 a4 : Int) (a5 : Bool) : CL 62 [.sl (l.map encG), .agg [.int .i64 a1, .int .i64 a2, .int .i64 a3, .int .i64 a4, .bool a5]] [] = some (.sl ((insertG l ⟨⟨a1, a2⟩, a3, a4, a5⟩).map encG), []) := by
  refine callL_W _ _ _ (F := v62) rfl ?_
  simp only [v62, go_sem, Nat.reduceEqDiff, ↓reduceIte, reduceCtorEq, Nat.reduceAdd, Nat.reduceSub, Nat.reduceLeDiff, Nat.reduceMul, Nat.reduceLT, Int.reduceLT, Int.reduceLE, Int.reduceNeg]
  refine W_rounds (T := Nat) (fun i => ⟨ofL [(0, .sl (l.map encG)), (3, .ptr 0 0), (5, .int .i64 i)], [some (.bx [.int .i64 a1, .int .i64 a2, .int .i64 a3, .int .i64 a4, .bool a5])], 0⟩) (fun i => i ≤ l.length ∧ ∀ j (h : j < l.length), j < i → stampLess l[j].id ⟨a1, a2⟩ = true) (fun i => l.length - i) 0 rfl rfl ⟨Nat.zero_le _, fun j h h0 => by omega⟩ ?_
  rintro i ⟨hi, hlt⟩ Q1 IH OUT
  have hcap : (l.length : Int) ≤ l.length := Int.le_refl _
  by_cases h : i < l.length
  · have c1 : decide ((i : Int) < l.length) = true := decide_eq_true (by omega)
    have c2 : (0 : Int) ≤ i := by omega
    have c5 : (i : Int) ≤ l.length := by omega
    have hr : (List.map encG l)[i]? = some (encG l[i]) := by simp [h]
    have hw : IntKind.i64.wrap ((i : Int) + 1) = ((i + 1 : Nat) : Int) := by rw [wrap_small _ (by omega) (by omega)]; rfl
    have hlt' := fun (hs : stampLess l[i].id ⟨a1, a2⟩ = true) j (hj : j < l.length) (hji : j < i + 1) => (show stampLess l[j].id ⟨a1, a2⟩ = true from by
      rcases Nat.lt_succ_iff_lt_or_eq.1 hji with h3 | h3
      · exact hlt j hj h3
      · subst h3; exact hs)
    have hins := fun (hs : stampLess l[i].id ⟨a1, a2⟩ = false) => insertG_of l ⟨⟨a1, a2⟩, a3, a4, a5⟩ i hi hlt (fun _ => hs)
    rcases hgi : l[i] with ⟨⟨s, au⟩, w, rt, en⟩
    rw [hgi] at hr hlt' hins
    by_cases hs : stampLess ⟨s, au⟩ ⟨a1, a2⟩ = true
    · simp only [go_sem, Nat.reduceEqDiff, ↓reduceIte, reduceCtorEq, Nat.reduceAdd, Nat.reduceSub, Nat.reduceLeDiff, Nat.reduceMul, Nat.reduceLT, Int.reduceLT, Int.reduceLE, Int.reduceNeg, c1, c2, hr, hw, encG, stampLess_s, hs]
      exact IH (i + 1) _ ⟨by omega, hlt' hs⟩ (by omega) rfl rfl
    · have hs' : stampLess ⟨s, au⟩ ⟨a1, a2⟩ = false := by simpa using hs
      have hI := hins hs'
      rw [dif_pos h, hgi] at hI
      simp only [go_sem, Nat.reduceEqDiff, ↓reduceIte, reduceCtorEq, Nat.reduceAdd, Nat.reduceSub, Nat.reduceLeDiff, Nat.reduceMul, Nat.reduceLT, Int.reduceLT, Int.reduceLE, Int.reduceNeg, c1, c2, hr, hw, encG, stampLess_s, hs']
      refine OUT _ _ (by simp) ?_
      by_cases he : s = a1 ∧ au = a2
      · obtain ⟨rfl, rfl⟩ := he
        rw [if_pos rfl] at hI
        simp only [go_sem, Nat.reduceEqDiff, ↓reduceIte, reduceCtorEq, Nat.reduceAdd, Nat.reduceSub, Nat.reduceLeDiff, Nat.reduceMul, Nat.reduceLT, Int.reduceLT, Int.reduceLE, Int.reduceNeg, c1, c2, hr, encG, hI, beq_self_eq_true]
      · have he' : ¬ (⟨s, au⟩ : Stamp) = ⟨a1, a2⟩ := by simpa using he
        have hb : (s == a1 && au == a2) = false := by
          rw [Bool.eq_false_iff]
          simpa using he
        have cB : (s == a1 && (au == a2 && true)) = false := by simpa using hb
        rw [if_neg he'] at hI
        have r1 : ∀ r ∈ l.map encG, rowOk 5 r = true := fun r hr => List.all_eq_true.1 (all_encG l) r hr
        have ra : (List.take i (List.map encG l)).all (rowOk 5) = true := List.all_eq_true.2 fun r hr => r1 r (List.mem_of_mem_take hr)
        have rb : (List.drop i (List.map encG l)).all (rowOk 5) = true := List.all_eq_true.2 fun r hr => r1 r (List.mem_of_mem_drop hr)
        have rm : i ≤ l.length := by omega
        have rm1 : i ≤ rowMax := by simp only [rowMax]; omega
        have rm2 : i + 1 ≤ rowMax := by simp only [rowMax]; omega
        have rm3 : i + 1 + (l.length - i) ≤ rowMax := by simp only [rowMax]; omega
        have mn : min i l.length = i := by omega
        have c6 : ((l.length : Int) ≤ l.length) = True := by simp
        have rf0 := fits_encG l 0
        have hd : List.take (l.length - i) (List.drop i (List.map encG l)) = List.drop i (List.map encG l) := List.take_of_length_le (by simp)
        have hr' : (List.map encG l)[i]? = some [.int .i64 s, .int .i64 au, .int .i64 w, .int .i64 rt, .bool en] := hr
        simp only [go_sem, Nat.reduceEqDiff, ↓reduceIte, reduceCtorEq, Nat.reduceAdd, Nat.reduceSub, Nat.reduceLeDiff, Nat.reduceMul, Nat.reduceLT, Int.reduceLT, Int.reduceLE, Int.reduceNeg, Int.cast_ofNat_Int, Int.reduceToNat, Int.toNat_zero, ne_eq, not_false_eq_true, c1, c2, c5, c6, hr', rf0, cB, hb, beq_self_eq_true, lenD_sl, hd, Nat.min_self, ra, rb, mn, rm1, rm2, rm3, List.length_take, List.length_drop, List.length_map, List.take_zero, Nat.sub_zero]
        rw [hI, List.take_of_length_le (by simp only [List.length_append, List.length_take, List.length_drop, List.length_map, List.length_cons, List.length_nil]; omega)]
        simp [encG]
  · have c1 : decide ((i : Int) < l.length) = false := decide_eq_false (by omega)
    have hil : i = l.length := by omega
    have hI := insertG_of l ⟨⟨a1, a2⟩, a3, a4, a5⟩ i hi hlt (fun h2 => absurd h2 h)
    rw [dif_neg h] at hI
    simp only [go_sem, Nat.reduceEqDiff, ↓reduceIte, reduceCtorEq, Nat.reduceAdd, Nat.reduceSub, Nat.reduceLeDiff, Nat.reduceMul, Nat.reduceLT, Int.reduceLT, Int.reduceLE, Int.reduceNeg, c1]
    refine OUT _ _ (by simp) ?_
    have rf0 := fits_encG l 0
    have ra := all_encG l
    have c0 : (0 : Int) ≤ l.length := by omega
    have rm1 : l.length ≤ rowMax := by simp only [rowMax]; omega
    have rm2 : l.length + 1 ≤ rowMax := by simp only [rowMax]; omega
    have rf1 := fits_encG l l.length
    have cl : decide ((l.length : Int) < l.length) = false := decide_eq_false (by omega)
    have ht : List.take l.length (List.map encG l) = List.map encG l := List.take_of_length_le (by simp)
    have hd : List.drop l.length (List.map encG l) = [] := List.drop_eq_nil_of_le (by simp)
    have hcap' : ((l.length : Int) ≤ l.length) = True := by simp
    rw [hil]
    simp only [go_sem, Nat.reduceEqDiff, ↓reduceIte, reduceCtorEq, Nat.reduceAdd, Nat.reduceSub, Nat.reduceLeDiff, Nat.reduceMul, Nat.reduceLT, Int.reduceLT, Int.reduceLE, Int.reduceNeg, Int.cast_ofNat_Int, Int.reduceToNat, Int.toNat_zero, ne_eq, not_false_eq_true, c0, cl, rf0, rf1, ra, rm1, rm2, ht, hd, hcap', beq_self_eq_true, lenD_sl, Nat.min_self, Nat.sub_self, Nat.sub_zero, List.length_map, List.take_zero, List.take_nil]
    rw [hI, List.take_of_length_le (by simp only [List.length_append, List.length_map, List.length_cons, List.length_nil]; omega)]
    simp [encG]
end Go.Vi.Code
