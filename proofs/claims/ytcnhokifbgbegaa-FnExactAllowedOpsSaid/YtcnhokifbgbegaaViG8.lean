/- Contracts: merging grants. -/
import Derived.Test.YtcnhokifbgbegaaViG7
set_option linter.unusedSimpArgs false
set_option linter.unusedVariables false
namespace Go.Vi.Code
def insertG : List Grant → Grant → List Grant
  | [], g => [g]
  | x :: l, g => if stampLess x.id g.id = true then x :: insertG l g else if x.id = g.id then x :: l else g :: x :: l
def mergeI : List Grant → List Grant → List Grant
  | [], b => b
  | x :: a, [] => x :: a
  | x :: a, y :: b => if stampLess x.id y.id = true then x :: mergeI a (y :: b) else if stampLess y.id x.id = true then y :: mergeI (x :: a) b else mergeI (x :: a) b
termination_by a b => a.length + b.length
theorem mergeI_nil (a : List Grant) : mergeI a [] = a := by cases a <;> simp [mergeI]
abbrev SortedG (l : List Grant) : Prop := l.Pairwise (fun a b => stampLess a.id b.id = true)
theorem mergeI_lt {x y : Grant} (a b : List Grant) (h : stampLess x.id y.id = true) : mergeI (x :: a) (y :: b) = x :: mergeI a (y :: b) := by rw [mergeI, if_pos h]
theorem mergeI_gt {x y : Grant} (a b : List Grant) (h : stampLess y.id x.id = true) : mergeI (x :: a) (y :: b) = y :: mergeI (x :: a) b := by
  rw [mergeI, if_neg (by rw [less_asymm h]; simp), if_pos h]
theorem mergeI_eq {x y : Grant} (a b : List Grant) (h : ¬ stampLess x.id y.id = true) (k : ¬ stampLess y.id x.id = true) : mergeI (x :: a) (y :: b) = mergeI (x :: a) b := by
  rw [mergeI, if_neg h, if_neg k]
theorem merge_step : ∀ (a : List Grant) (y : Grant) (b : List Grant), SortedG (y :: b) → mergeI a (y :: b) = mergeI (insertG a y) b
  | [], y, b, h => by
    simp only [mergeI, insertG]
    cases b with
    | nil => simp [mergeI]
    | cons z b =>
      rw [mergeI_lt _ _ ((List.pairwise_cons.1 h).1 z (by simp)), mergeI]
  | x :: a, y, b, h => by
    have ih := merge_step a y b h
    by_cases h1 : stampLess x.id y.id = true
    · rw [mergeI_lt _ _ h1, insertG, if_pos h1, ih]
      cases b with
      | nil => rw [mergeI_nil, mergeI_nil]
      | cons z b => rw [mergeI_lt _ _ (less_trans h1 ((List.pairwise_cons.1 h).1 z (by simp)))]
    · by_cases h2 : stampLess y.id x.id = true
      · have hne : ¬ x.id = y.id := by intro e; rw [e, less_irrefl] at h2; cases h2
        rw [mergeI_gt _ _ h2, insertG, if_neg h1, if_neg hne]
        cases b with
        | nil => rw [mergeI_nil, mergeI_nil]
        | cons z b => rw [mergeI_lt _ _ ((List.pairwise_cons.1 h).1 z (by simp))]
      · rw [mergeI_eq _ _ h1 h2, insertG, if_neg h1, if_pos (less_tri h1 h2)]
theorem merge_fold : ∀ (b a : List Grant), SortedG b → b.foldl insertG a = mergeI a b
  | [], a, _ => by rw [mergeI_nil]; rfl
  | y :: b, a, h => by
    rw [List.foldl_cons, merge_fold b _ (List.pairwise_cons.1 h).2, merge_step a y b h]
def mergeG (a b : List Grant) : List Grant × Bool := if validGrants a = true ∧ validGrants b = true then (if (mergeI a b).length ≤ 20 then (mergeI a b, true) else (a, false)) else ([], false)

theorem insertG_of : ∀ (l : List Grant) (g : Grant) (k : Nat), k ≤ l.length → (∀ j (h : j < l.length), j < k → stampLess l[j].id g.id = true) → (∀ h : k < l.length, stampLess l[k].id g.id = false) →
    insertG l g = if h : k < l.length then (if l[k].id = g.id then l else l.take k ++ g :: l.drop k) else l ++ [g]
  | [], g, k, hk, _, _ => by simp [insertG]
  | x :: l, g, 0, hk, _, h2 => by
    have := h2 (by simp)
    simp at this
    simp only [insertG, this, Bool.false_eq_true, if_false]
    simp
  | x :: l, g, k + 1, hk, h1, h2 => by
    have hx := h1 0 (by simp) (by omega)
    simp at hx
    have ih := insertG_of l g k (by simpa using hk) (fun j hj hji => h1 (j + 1) (by simpa using hj) (by omega)) (fun h => h2 (by simpa using h))
    simp only [insertG, hx, if_true, ih]
    by_cases h : k < l.length
    · have h' : k + 1 < (x :: l).length := by simpa using h
      rw [dif_pos h, dif_pos h']
      have e : (x :: l)[k + 1] = l[k] := rfl
      rw [e]
      split <;> simp
    · have h' : ¬ k + 1 < (x :: l).length := by simpa using h
      rw [dif_neg h, dif_neg h']
      rfl
theorem insertG_len (l : List Grant) (g : Grant) : (insertG l g).length ≤ l.length + 1 := by
  induction l with
  | nil => simp [insertG]
  | cons x l ih => simp only [insertG]; split <;> (try split) <;> simp <;> omega
@[go_sem] theorem rowOk_encG (g : Grant) : rowOk 5 (encG g) = true := rfl
theorem all_encG (l : List Grant) : (l.map encG).all (rowOk 5) = true := by
  rw [List.all_eq_true]
  intro r hr
  obtain ⟨g, _, rfl⟩ := List.mem_map.1 hr
  rfl
theorem fits_encG (l : List Grant) (j : Nat) : rowFits 5 (l.map encG)[j]? = true := by
  by_cases h : j < l.length <;> simp [h, rowFits, encG]
end Go.Vi.Code
