/- What all contracts rest on. -/
import Derived.Test.YtcnhokifbgbegaaViWp3
import Derived.Test.YtcnhokifbgbegaaViCode
import Derived.Test.YtcnhokifbgbegaaViArg
set_option linter.unusedSimpArgs false
set_option linter.unusedVariables false
namespace Go.Vi.Code
abbrev gl : Nat → Option (List D) := fun _ => none
abbrev prim : CallF := fun _ _ _ => none
noncomputable abbrev CL : CallF := callL gl C prim
structure Stamp where
  seq : Int
  author : Int
  deriving DecidableEq
theorem Stamp.eta (s : Stamp) : Stamp.mk s.seq s.author = s := rfl
def encS (s : Stamp) : List D := [.int .i64 s.seq, .int .i64 s.author]
def isAuthor (n : Int) : Bool := decide (0 ≤ n ∧ n < 3)
def stampLess (a b : Stamp) : Bool := decide (a.seq < b.seq ∨ a.seq = b.seq ∧ a.author < b.author)
def validStamp (t : Stamp) : Bool := decide (1 ≤ t.seq ∧ t.seq ≤ 99 ∧ 0 ≤ t.author ∧ t.author < 3)

theorem wrap_small (n : Int) (h0 : -9223372036854775808 ≤ n) (h1 : n ≤ 9223372036854775807) : IntKind.i64.wrap n = n := by
  have e : IntKind.i64.bits = 64 := rfl
  have s : IntKind.i64.signed = true := rfl
  simp only [IntKind.wrap, e, s]
  simp only [Bool.true_and, decide_eq_true_eq]
  split <;> omega
theorem all_range_of {p : Nat → Bool} {n i : Nat} (h : i < n) (hf : p i = false) : (List.range n).all p = false := by
  rw [Bool.eq_false_iff]
  intro h2
  rw [List.all_eq_true] at h2
  rw [h2 i (List.mem_range.2 h)] at hf
  cases hf

@[go_sem] theorem take_map_len {α β : Type} (f : α → β) (l : List α) : (l.map f).take l.length = l.map f := by
  rw [List.take_of_length_le]; simp
def part {α : Type} (enc : α → List D) (z : List D) (l : List α) (i : Nat) : List (List D) := (l.take i).map enc ++ List.replicate (l.length - i) z
theorem part_len {α : Type} (enc : α → List D) (z : List D) (l : List α) (i : Nat) (h : i ≤ l.length) : (part enc z l i).length = l.length := by
  simp only [part, List.length_append, List.length_map, List.length_take, List.length_replicate]; omega
theorem part_at {α : Type} (enc : α → List D) (z : List D) (l : List α) (i : Nat) (h : i < l.length) : (part enc z l i)[i]? = some z := by
  unfold part
  rw [List.getElem?_append_right (by simp only [List.length_map, List.length_take]; omega), List.getElem?_replicate, if_pos (by simp only [List.length_map, List.length_take]; omega)]
theorem part_set {α : Type} (enc : α → List D) (z : List D) (l : List α) (i : Nat) (h : i < l.length) : (part enc z l i).set i (enc l[i]) = part enc z l (i + 1) := by
  apply List.ext_getElem?
  intro j
  unfold part
  by_cases hj : j = i
  · subst hj
    rw [List.getElem?_set_self (by simp; omega), List.getElem?_append_left (by simp; omega)]
    simp [h]
  · rw [List.getElem?_set_ne (Ne.symm hj)]
    by_cases h1 : j < i
    · rw [List.getElem?_append_left (by simp; omega), List.getElem?_append_left (by simp; omega)]
      simp [h1, show j < i + 1 by omega]
    · rw [List.getElem?_append_right (by simp; omega), List.getElem?_append_right (by simp; omega)]
      simp only [List.getElem?_replicate, List.length_map, List.length_take]
      have e1 : min i l.length = i := by omega
      have e2 : min (i + 1) l.length = i + 1 := by omega
      rw [e1, e2]
      by_cases h2 : j < l.length
      · rw [if_pos (by omega), if_pos (by omega)]
      · rw [if_neg (by omega), if_neg (by omega)]
theorem part_zero {α : Type} (enc : α → List D) (z : List D) (l : List α) : part enc z l 0 = List.replicate l.length z := by simp [part]
theorem part_all {α : Type} (enc : α → List D) (z : List D) (l : List α) : part enc z l l.length = l.map enc := by simp [part]

theorem arg_int {k : IntKind} {d : D} (h : ArgTy (false, [.int k]) d) : ∃ n, d = .int k n ∧ (Lit.int k n).wf = true := by
  obtain ⟨ds, ⟨h1, h2⟩, rfl⟩ := h
  obtain ⟨d, rfl⟩ : ∃ d, ds = [d] := by match ds, h1 with | [d], _ => exact ⟨d, rfl⟩
  have := h2 0 _ _ rfl rfl
  cases this with
  | int _ n h => exact ⟨n, rfl, h⟩
theorem arg_i64 {d : D} (h : ArgTy (false, [.int .i64]) d) : ∃ n : Int, d = .int .i64 n ∧ -9223372036854775808 ≤ n ∧ n ≤ 9223372036854775807 := by
  obtain ⟨n, rfl, hw⟩ := arg_int h
  refine ⟨n, rfl, ?_⟩
  have e1 : IntKind.i64.min = -9223372036854775808 := by decide
  have e2 : IntKind.i64.max = 9223372036854775807 := by decide
  simp only [Lit.wf, e1, e2, Bool.and_eq_true, decide_eq_true_eq] at hw
  exact hw
theorem arg_rows {ts : List Ty} {d : D} (h : ArgTy (false, [.sl ts]) d) : ∃ rows, d = .sl rows ∧ rows.length ≤ maxLen ∧ (∀ r ∈ rows, r.length = ts.length) ∧ ∀ r ∈ rows, ∀ (i : Nat) (t : Ty) (d : D), ts[i]? = some t → r[i]? = some d → TyD t d := by
  obtain ⟨ds, ⟨h1, h2⟩, rfl⟩ := h
  obtain ⟨d, rfl⟩ : ∃ d, ds = [d] := by match ds, h1 with | [d], _ => exact ⟨d, rfl⟩
  have := h2 0 _ _ rfl rfl
  cases this with
  | sl _ rows hl hr h => exact ⟨rows, rfl, hl, hr, h⟩
theorem map_of {α : Type} {enc : α → List D} : ∀ {rows : List (List D)}, (∀ r ∈ rows, ∃ g, r = enc g) → ∃ l : List α, rows = l.map enc
  | [], _ => ⟨[], rfl⟩
  | r :: rows, h => by
    obtain ⟨g, rfl⟩ := h r (by simp)
    obtain ⟨l, rfl⟩ := map_of (enc := enc) (rows := rows) fun r hm => h r (by simp [hm])
    exact ⟨g :: l, rfl⟩
theorem arg_stamp {d : D} (h : ArgTy (true, [.int .i64, .int .i64]) d) : ∃ a b : Int, d = .agg [.int .i64 a, .int .i64 b] ∧ (Lit.int .i64 a).wf = true ∧ (Lit.int .i64 b).wf = true := by
  obtain ⟨ds, ⟨h1, h2⟩, rfl⟩ := h
  obtain ⟨a, b, rfl⟩ : ∃ a b, ds = [a, b] := by match ds, h1 with | [a, b], _ => exact ⟨a, b, rfl⟩
  have ha := h2 0 _ _ rfl rfl
  have hb := h2 1 _ _ rfl rfl
  cases ha with
  | int _ a ha => cases hb with
    | int _ b hb => exact ⟨a, b, rfl, ha, hb⟩
theorem args1 {k : Bool × List Ty} {dd : List D} (h : ArgsTy [k] dd) : ∃ a, dd = [a] ∧ ArgTy k a := by
  cases h with | cons h hs => cases hs; exact ⟨_, rfl, h⟩
theorem args2 {k l : Bool × List Ty} {dd : List D} (h : ArgsTy [k, l] dd) : ∃ a b, dd = [a, b] ∧ ArgTy k a ∧ ArgTy l b := by
  cases h with | cons h hs => obtain ⟨b, rfl, hb⟩ := args1 hs; exact ⟨_, b, rfl, h, hb⟩
theorem args3 {k l m : Bool × List Ty} {dd : List D} (h : ArgsTy [k, l, m] dd) : ∃ a b c, dd = [a, b, c] ∧ ArgTy k a ∧ ArgTy l b ∧ ArgTy m c := by
  cases h with | cons h hs => obtain ⟨b, c, rfl, hb⟩ := args2 hs; exact ⟨_, b, c, rfl, h, hb⟩

theorem takeWhile_of {α : Type} (p : α → Bool) : ∀ (l : List α) (i : Nat), i ≤ l.length → (∀ j (h : j < l.length), j < i → p l[j] = true) → (∀ h : i < l.length, p l[i] = false) → l.takeWhile p = l.take i
  | [], i, hi, _, _ => by simp
  | x :: l, 0, hi, h1, h2 => by
    have := h2 (by simp)
    simp at this
    simp [this]
  | x :: l, i + 1, hi, h1, h2 => by
    have hx := h1 0 (by simp) (by omega)
    simp at hx
    rw [List.takeWhile_cons, hx]
    simp only [if_true, List.take_succ_cons]
    rw [takeWhile_of p l i (by simpa using hi) (fun j hj hji => h1 (j + 1) (by simpa using hj) (by omega)) (fun h => h2 (by simpa using h))]
theorem take_next {α : Type} (l : List α) (i : Nat) (h : i < l.length) : l.take (i + 1) = l.take i ++ [l[i]] := by
  rw [List.take_add_one, List.getElem?_eq_getElem h]; rfl

theorem less_trans {a b c : Stamp} (h : stampLess a b = true) (k : stampLess b c = true) : stampLess a c = true := by
  simp only [stampLess, decide_eq_true_eq] at h k ⊢; omega
theorem less_irrefl (a : Stamp) : stampLess a a = false := by
  simp [stampLess]
theorem less_asymm {a b : Stamp} (h : stampLess a b = true) : stampLess b a = false := by
  rw [Bool.eq_false_iff]; intro k
  have := less_trans h k
  rw [less_irrefl] at this; cases this
theorem less_tri {a b : Stamp} (h : ¬ stampLess a b = true) (k : ¬ stampLess b a = true) : a = b := by
  obtain ⟨a1, a2⟩ := a; obtain ⟨b1, b2⟩ := b
  simp only [stampLess, decide_eq_true_eq] at h k
  have : a1 = b1 ∧ a2 = b2 := by omega
  rw [this.1, this.2]
theorem drop_next {α : Type} (l : List α) (i : Nat) (h : i < l.length) : l.drop i = l[i] :: l.drop (i + 1) := by simp
theorem any_next {α : Type} (l : List α) (p : α → Bool) (i : Nat) (h : i < l.length) : (l.take (i + 1)).any p = ((l.take i).any p || p l[i]) := by
  rw [take_next l i h, List.any_append]; simp
end Go.Vi.Code
