/- Contracts: the laws' helpers on operations. -/
import Derived.Test.YtcnhokifbgbegaaViO4
set_option linter.unusedSimpArgs false
set_option linter.unusedVariables false
namespace Go.Vi.Code
attribute [local congr] ite_congr
theorem toOp_c (a1 a2 a3 a4 a5 a6 a7 a8 a9 b1 : Int) (b3 : Bool) (b4 : List UInt8) : CL 56 [.agg [.int .i64 a1, .int .i64 a2, .int .i64 a3, .int .i64 a4, .int .i64 a5, .int .i64 a6, .int .i64 a7, .int .i64 a8, .int .i64 a9, .int .i64 b1, .bool b3, .str b4]] [] =
    some (.agg [.int .i64 a1, .int .i64 a2, .int .i64 a3, .int .i64 a4, .int .i64 a5, .int .i64 a6, .int .i64 a7, .int .i64 a8, .int .i64 a9, .int .i64 b1, .bool b3, .str b4], []) := by
  refine callL_W _ _ _ (F := v56) rfl ?_
  simp only [v56, go_sem, Nat.reduceEqDiff, ↓reduceIte, reduceCtorEq, Nat.reduceAdd, Nat.reduceSub, Nat.reduceLeDiff, Nat.reduceMul, Nat.reduceLT, Int.reduceLT, Int.reduceLE, Int.reduceNeg, Int.cast_ofNat_Int, Int.reduceToNat, Int.toNat_zero, ne_eq, not_false_eq_true, Int.reduceEq, toStamp_c]
  rfl
theorem eqOp_c (a1 a2 a3 a4 a5 a6 a7 a8 a9 b1 c1 c2 c3 c4 c5 c6 c7 c8 c9 d1 : Int) (b3 d3 : Bool) (b4 d4 : List UInt8) : CL 58 [.agg [.int .i64 a1, .int .i64 a2, .int .i64 a3, .int .i64 a4, .int .i64 a5, .int .i64 a6, .int .i64 a7, .int .i64 a8, .int .i64 a9, .int .i64 b1, .bool b3, .str b4],
    .agg [.int .i64 c1, .int .i64 c2, .int .i64 c3, .int .i64 c4, .int .i64 c5, .int .i64 c6, .int .i64 c7, .int .i64 c8, .int .i64 c9, .int .i64 d1, .bool d3, .str d4]] [] =
    some (.bool (decide ((⟨⟨a1, a2⟩, a3, ⟨a4, a5⟩, ⟨a6, a7⟩, ⟨a8, a9⟩, b1, b3, b4⟩ : Op) = ⟨⟨c1, c2⟩, c3, ⟨c4, c5⟩, ⟨c6, c7⟩, ⟨c8, c9⟩, d1, d3, d4⟩)), []) := by
  refine callL_W _ _ _ (F := v58) rfl ?_
  by_cases h0 : (⟨a1, a2⟩ : Stamp) = ⟨c1, c2⟩
  case neg =>
    have e := decide_eq_false h0
    rw [show decide ((⟨⟨a1, a2⟩, a3, ⟨a4, a5⟩, ⟨a6, a7⟩, ⟨a8, a9⟩, b1, b3, b4⟩ : Op) = ⟨⟨c1, c2⟩, c3, ⟨c4, c5⟩, ⟨c6, c7⟩, ⟨c8, c9⟩, d1, d3, d4⟩) = false from decide_eq_false fun e => h0 (congrArg Op.id e)]
    simp only [v58, go_sem, Nat.reduceEqDiff, ↓reduceIte, reduceCtorEq, Nat.reduceAdd, Nat.reduceSub, Nat.reduceLeDiff, Nat.reduceMul, Nat.reduceLT, Int.reduceLT, Int.reduceLE, Int.reduceNeg, Int.cast_ofNat_Int, Int.reduceToNat, Int.toNat_zero, ne_eq, not_false_eq_true, Int.reduceEq, eqStamp_c, e, Bool.not_true, Bool.not_false]
  have e0 := decide_eq_true h0
  by_cases h1 : a3 = c3
  case neg =>
    have e := (show (a3 != c3) = true by simpa using h1)
    rw [show decide ((⟨⟨a1, a2⟩, a3, ⟨a4, a5⟩, ⟨a6, a7⟩, ⟨a8, a9⟩, b1, b3, b4⟩ : Op) = ⟨⟨c1, c2⟩, c3, ⟨c4, c5⟩, ⟨c6, c7⟩, ⟨c8, c9⟩, d1, d3, d4⟩) = false from decide_eq_false fun e => h1 (congrArg Op.kind e)]
    simp only [v58, go_sem, Nat.reduceEqDiff, ↓reduceIte, reduceCtorEq, Nat.reduceAdd, Nat.reduceSub, Nat.reduceLeDiff, Nat.reduceMul, Nat.reduceLT, Int.reduceLT, Int.reduceLE, Int.reduceNeg, Int.cast_ofNat_Int, Int.reduceToNat, Int.toNat_zero, ne_eq, not_false_eq_true, Int.reduceEq, eqStamp_c, e, e0, Bool.not_true, Bool.not_false]
  have e1 := (show (a3 != c3) = false by simpa using h1)
  by_cases h2 : (⟨a4, a5⟩ : Stamp) = ⟨c4, c5⟩
  case neg =>
    have e := decide_eq_false h2
    rw [show decide ((⟨⟨a1, a2⟩, a3, ⟨a4, a5⟩, ⟨a6, a7⟩, ⟨a8, a9⟩, b1, b3, b4⟩ : Op) = ⟨⟨c1, c2⟩, c3, ⟨c4, c5⟩, ⟨c6, c7⟩, ⟨c8, c9⟩, d1, d3, d4⟩) = false from decide_eq_false fun e => h2 (congrArg Op.target e)]
    simp only [v58, go_sem, Nat.reduceEqDiff, ↓reduceIte, reduceCtorEq, Nat.reduceAdd, Nat.reduceSub, Nat.reduceLeDiff, Nat.reduceMul, Nat.reduceLT, Int.reduceLT, Int.reduceLE, Int.reduceNeg, Int.cast_ofNat_Int, Int.reduceToNat, Int.toNat_zero, ne_eq, not_false_eq_true, Int.reduceEq, eqStamp_c, e, e0, e1, Bool.not_true, Bool.not_false]
  have e2 := decide_eq_true h2
  by_cases h3 : (⟨a6, a7⟩ : Stamp) = ⟨c6, c7⟩
  case neg =>
    have e := decide_eq_false h3
    rw [show decide ((⟨⟨a1, a2⟩, a3, ⟨a4, a5⟩, ⟨a6, a7⟩, ⟨a8, a9⟩, b1, b3, b4⟩ : Op) = ⟨⟨c1, c2⟩, c3, ⟨c4, c5⟩, ⟨c6, c7⟩, ⟨c8, c9⟩, d1, d3, d4⟩) = false from decide_eq_false fun e => h3 (congrArg Op.after e)]
    simp only [v58, go_sem, Nat.reduceEqDiff, ↓reduceIte, reduceCtorEq, Nat.reduceAdd, Nat.reduceSub, Nat.reduceLeDiff, Nat.reduceMul, Nat.reduceLT, Int.reduceLT, Int.reduceLE, Int.reduceNeg, Int.cast_ofNat_Int, Int.reduceToNat, Int.toNat_zero, ne_eq, not_false_eq_true, Int.reduceEq, eqStamp_c, e, e0, e1, e2, Bool.not_true, Bool.not_false]
  have e3 := decide_eq_true h3
  by_cases h4 : (⟨a8, a9⟩ : Stamp) = ⟨c8, c9⟩
  case neg =>
    have e := decide_eq_false h4
    rw [show decide ((⟨⟨a1, a2⟩, a3, ⟨a4, a5⟩, ⟨a6, a7⟩, ⟨a8, a9⟩, b1, b3, b4⟩ : Op) = ⟨⟨c1, c2⟩, c3, ⟨c4, c5⟩, ⟨c6, c7⟩, ⟨c8, c9⟩, d1, d3, d4⟩) = false from decide_eq_false fun e => h4 (congrArg Op.parent e)]
    simp only [v58, go_sem, Nat.reduceEqDiff, ↓reduceIte, reduceCtorEq, Nat.reduceAdd, Nat.reduceSub, Nat.reduceLeDiff, Nat.reduceMul, Nat.reduceLT, Int.reduceLT, Int.reduceLE, Int.reduceNeg, Int.cast_ofNat_Int, Int.reduceToNat, Int.toNat_zero, ne_eq, not_false_eq_true, Int.reduceEq, eqStamp_c, e, e0, e1, e2, e3, Bool.not_true, Bool.not_false]
  have e4 := decide_eq_true h4
  by_cases h5 : b1 = d1
  case neg =>
    have e := (show (b1 != d1) = true by simpa using h5)
    rw [show decide ((⟨⟨a1, a2⟩, a3, ⟨a4, a5⟩, ⟨a6, a7⟩, ⟨a8, a9⟩, b1, b3, b4⟩ : Op) = ⟨⟨c1, c2⟩, c3, ⟨c4, c5⟩, ⟨c6, c7⟩, ⟨c8, c9⟩, d1, d3, d4⟩) = false from decide_eq_false fun e => h5 (congrArg Op.value e)]
    simp only [v58, go_sem, Nat.reduceEqDiff, ↓reduceIte, reduceCtorEq, Nat.reduceAdd, Nat.reduceSub, Nat.reduceLeDiff, Nat.reduceMul, Nat.reduceLT, Int.reduceLT, Int.reduceLE, Int.reduceNeg, Int.cast_ofNat_Int, Int.reduceToNat, Int.toNat_zero, ne_eq, not_false_eq_true, Int.reduceEq, eqStamp_c, e, e0, e1, e2, e3, e4, Bool.not_true, Bool.not_false]
  have e5 := (show (b1 != d1) = false by simpa using h5)
  by_cases h6 : b3 = d3
  case neg =>
    have e := (show (b3 != d3) = true by simpa using h6)
    rw [show decide ((⟨⟨a1, a2⟩, a3, ⟨a4, a5⟩, ⟨a6, a7⟩, ⟨a8, a9⟩, b1, b3, b4⟩ : Op) = ⟨⟨c1, c2⟩, c3, ⟨c4, c5⟩, ⟨c6, c7⟩, ⟨c8, c9⟩, d1, d3, d4⟩) = false from decide_eq_false fun e => h6 (congrArg Op.enable e)]
    simp only [v58, go_sem, Nat.reduceEqDiff, ↓reduceIte, reduceCtorEq, Nat.reduceAdd, Nat.reduceSub, Nat.reduceLeDiff, Nat.reduceMul, Nat.reduceLT, Int.reduceLT, Int.reduceLE, Int.reduceNeg, Int.cast_ofNat_Int, Int.reduceToNat, Int.toNat_zero, ne_eq, not_false_eq_true, Int.reduceEq, eqStamp_c, e, e0, e1, e2, e3, e4, e5, Bool.not_true, Bool.not_false]
  have e6 := (show (b3 != d3) = false by simpa using h6)
  by_cases h7 : b4 = d4
  case neg =>
    have e := (show (b4 != d4) = true by simpa using h7)
    rw [show decide ((⟨⟨a1, a2⟩, a3, ⟨a4, a5⟩, ⟨a6, a7⟩, ⟨a8, a9⟩, b1, b3, b4⟩ : Op) = ⟨⟨c1, c2⟩, c3, ⟨c4, c5⟩, ⟨c6, c7⟩, ⟨c8, c9⟩, d1, d3, d4⟩) = false from decide_eq_false fun e => h7 (congrArg Op.text e)]
    simp only [v58, go_sem, Nat.reduceEqDiff, ↓reduceIte, reduceCtorEq, Nat.reduceAdd, Nat.reduceSub, Nat.reduceLeDiff, Nat.reduceMul, Nat.reduceLT, Int.reduceLT, Int.reduceLE, Int.reduceNeg, Int.cast_ofNat_Int, Int.reduceToNat, Int.toNat_zero, ne_eq, not_false_eq_true, Int.reduceEq, eqStamp_c, e, e0, e1, e2, e3, e4, e5, e6, Bool.not_true, Bool.not_false]
  have e7 := (show (b4 != d4) = false by simpa using h7)
  rw [show decide ((⟨⟨a1, a2⟩, a3, ⟨a4, a5⟩, ⟨a6, a7⟩, ⟨a8, a9⟩, b1, b3, b4⟩ : Op) = ⟨⟨c1, c2⟩, c3, ⟨c4, c5⟩, ⟨c6, c7⟩, ⟨c8, c9⟩, d1, d3, d4⟩) = true from decide_eq_true (by rw [h0, h1, h2, h3, h4, h5, h6, h7])]
  simp only [v58, go_sem, Nat.reduceEqDiff, ↓reduceIte, reduceCtorEq, Nat.reduceAdd, Nat.reduceSub, Nat.reduceLeDiff, Nat.reduceMul, Nat.reduceLT, Int.reduceLT, Int.reduceLE, Int.reduceNeg, Int.cast_ofNat_Int, Int.reduceToNat, Int.toNat_zero, ne_eq, not_false_eq_true, Int.reduceEq, eqStamp_c, e0, e1, e2, e3, e4, e5, e6, e7, Bool.not_true, Bool.not_false]
theorem szOp_c (a1 a2 a3 a4 a5 a6 a7 a8 a9 b1 n : Int) (b3 : Bool) (b4 : List UInt8) (h0 : 0 ≤ n) (h1 : n ≤ 1048576) (hl : b4.length ≤ 9223372036854775807) : CL 53 [.agg [.int .i64 a1, .int .i64 a2, .int .i64 a3, .int .i64 a4, .int .i64 a5, .int .i64 a6, .int .i64 a7, .int .i64 a8, .int .i64 a9, .int .i64 b1, .bool b3, .str b4], .int .i64 n] [] =
    some (.int .i64 (if n - b4.length < 0 then -1 else n - b4.length), []) := by
  refine callL_W _ _ _ (F := v53) rfl ?_
  have hw : IntKind.i64.wrap (n - b4.length) = n - b4.length := wrap_small _ (by omega) (by omega)
  by_cases h : n - b4.length < 0
  · have d : decide (n - (b4.length : Int) < 0) = true := decide_eq_true h
    simp only [v53, go_sem, Nat.reduceEqDiff, ↓reduceIte, reduceCtorEq, Nat.reduceAdd, Nat.reduceSub, Nat.reduceLeDiff, Nat.reduceMul, Nat.reduceLT, Int.reduceLT, Int.reduceLE, Int.reduceNeg, Int.cast_ofNat_Int, Int.reduceToNat, Int.toNat_zero, ne_eq, not_false_eq_true, Int.reduceEq, hw, d, h, if_true]
  · have d : decide (n - (b4.length : Int) < 0) = false := decide_eq_false h
    simp only [v53, go_sem, Nat.reduceEqDiff, ↓reduceIte, reduceCtorEq, Nat.reduceAdd, Nat.reduceSub, Nat.reduceLeDiff, Nat.reduceMul, Nat.reduceLT, Int.reduceLT, Int.reduceLE, Int.reduceNeg, Int.cast_ofNat_Int, Int.reduceToNat, Int.toNat_zero, ne_eq, not_false_eq_true, Int.reduceEq, hw, d, h, if_false]
def szF (n : Int) : List Op → Int
  | [] => n
  | o :: l => if n - o.text.length < 0 then -1 else szF (n - o.text.length) l
def szL (n : Int) (l : List Op) : Int := if n - l.length < 0 then -1 else szF (n - l.length) l
theorem szF_le : ∀ (l : List Op) (n : Int), 0 ≤ n → szF n l ≤ n ∧ (0 ≤ szF n l → ∀ o ∈ l, (o.text.length : Int) ≤ n) ∧ (szF n l < 0 → szF n l = -1)
  | [], n, h => by simp only [szF]; exact ⟨Int.le_refl _, (fun _ o ho => by cases ho), fun h2 => by omega⟩
  | o :: l, n, h => by
    simp only [szF]
    split
    · rename_i h1
      exact ⟨by omega, fun h2 => by omega, fun _ => rfl⟩
    · rename_i h1
      obtain ⟨h2, h3, h4⟩ := szF_le l (n - o.text.length) (by omega)
      refine ⟨by omega, fun h5 x hx => ?_, h4⟩
      rcases List.mem_cons.1 hx with rfl | hx
      · omega
      · have := h3 h5 x hx; omega
theorem szL_le (l : List Op) (n : Int) (h : 0 ≤ n) : szL n l ≤ n ∧ (0 ≤ szL n l → (l.length : Int) ≤ n ∧ ∀ o ∈ l, (o.text.length : Int) ≤ n) ∧ (szL n l < 0 → szL n l = -1) := by
  unfold szL
  split
  · exact ⟨by omega, fun h => by omega, fun _ => rfl⟩
  · obtain ⟨h2, h3, h4⟩ := szF_le l (n - l.length) (by omega)
    exact ⟨by omega, fun h => ⟨by omega, fun o ho => by have := h3 h o ho; omega⟩, h4⟩
theorem szOpS_c (l : List Op) (n : Int) (hl : l.length ≤ 9223372036854775807) (htx : ∀ o ∈ l, o.text.length ≤ 9223372036854775807) (h0 : 0 ≤ n) (h1 : n ≤ 1048576) : CL 15 [.sl (l.map encO), .int .i64 n] [] = some (.int .i64 (szL n l), []) := by
  refine callL_W _ _ _ (F := v15) rfl ?_
  have hw : IntKind.i64.wrap (n - l.length) = n - l.length := wrap_small _ (by omega) (by omega)
  by_cases h : n - l.length < 0
  · have d : decide (n - (l.length : Int) < 0) = true := decide_eq_true h
    simp only [v15, go_sem, Nat.reduceEqDiff, ↓reduceIte, reduceCtorEq, Nat.reduceAdd, Nat.reduceSub, Nat.reduceLeDiff, Nat.reduceMul, Nat.reduceLT, Int.reduceLT, Int.reduceLE, Int.reduceNeg, Int.cast_ofNat_Int, Int.reduceToNat, Int.toNat_zero, ne_eq, not_false_eq_true, Int.reduceEq, hw, d]
    simp only [szL, h, if_true]
  have d : decide (n - (l.length : Int) < 0) = false := decide_eq_false h
  simp only [v15, go_sem, Nat.reduceEqDiff, ↓reduceIte, reduceCtorEq, Nat.reduceAdd, Nat.reduceSub, Nat.reduceLeDiff, Nat.reduceMul, Nat.reduceLT, Int.reduceLT, Int.reduceLE, Int.reduceNeg, Int.cast_ofNat_Int, Int.reduceToNat, Int.toNat_zero, ne_eq, not_false_eq_true, Int.reduceEq, hw, d]
  refine W_rounds (T := Nat × Int) (fun t => ⟨ofL [(0, .sl (l.map encO)), (1, .int .i64 t.2), (5, .int .i64 t.1)], [], 0⟩) (fun t => t.1 ≤ l.length ∧ 0 ≤ t.2 ∧ t.2 ≤ n ∧ szF t.2 (l.drop t.1) = szL n l) (fun t => l.length - t.1) (0, n - l.length) rfl rfl ⟨Nat.zero_le _, by simp only; omega, by simp only; omega, by simp only [szL, h, if_false, List.drop_zero]⟩ ?_
  rintro ⟨i, m⟩ ⟨hi, hm0, hm1, hm⟩ Q1 IH OUT
  simp only at hi hm0 hm1 hm
  by_cases hil : i < l.length
  · have c1 : decide ((i : Int) < l.length) = true := decide_eq_true (by omega)
    have c2 : (0 : Int) ≤ i := by omega
    have hr : (List.map encO l)[i]? = some (encO l[i]) := by simp [hil]
    have hw : IntKind.i64.wrap ((i : Int) + 1) = ((i + 1 : Nat) : Int) := by rw [wrap_small _ (by omega) (by omega)]; rfl
    have hx := htx _ (List.getElem_mem hil)
    rw [drop_next l i hil] at hm
    generalize l[i] = g at hr hm hx
    obtain ⟨⟨s1, s2⟩, k, ⟨t1, t2⟩, ⟨f1, f2⟩, ⟨p1, p2⟩, vl, en, tx⟩ := g
    simp only [szF] at hm
    have hsz := szOp_c s1 s2 k t1 t2 f1 f2 p1 p2 vl m en tx hm0 (by omega) hx
    by_cases hneg : m - tx.length < 0
    · rw [if_pos hneg] at hm hsz
      simp only [go_sem, Nat.reduceEqDiff, ↓reduceIte, reduceCtorEq, Nat.reduceAdd, Nat.reduceSub, Nat.reduceLeDiff, Nat.reduceMul, Nat.reduceLT, Int.reduceLT, Int.reduceLE, Int.reduceNeg, Int.cast_ofNat_Int, Int.reduceToNat, Int.toNat_zero, ne_eq, not_false_eq_true, Int.reduceEq, c1, c2, hr, hw, encO, hsz]
      refine OUT _ _ (by simp) ?_
      simp only [go_sem, Nat.reduceEqDiff, ↓reduceIte, reduceCtorEq, Nat.reduceAdd, Nat.reduceSub, Nat.reduceLeDiff, Nat.reduceMul, Nat.reduceLT, Int.reduceLT, Int.reduceLE, Int.reduceNeg, Int.cast_ofNat_Int, Int.reduceToNat, Int.toNat_zero, ne_eq, not_false_eq_true, Int.reduceEq]
      rw [hm]
    · rw [if_neg hneg] at hm hsz
      have d2 : decide (m - (tx.length : Int) < 0) = false := decide_eq_false hneg
      simp only [go_sem, Nat.reduceEqDiff, ↓reduceIte, reduceCtorEq, Nat.reduceAdd, Nat.reduceSub, Nat.reduceLeDiff, Nat.reduceMul, Nat.reduceLT, Int.reduceLT, Int.reduceLE, Int.reduceNeg, Int.cast_ofNat_Int, Int.reduceToNat, Int.toNat_zero, ne_eq, not_false_eq_true, Int.reduceEq, c1, c2, hr, hw, encO, hsz, d2]
      exact IH (i + 1, m - tx.length) _ ⟨by simp only; omega, by simp only; omega, by simp only; omega, hm⟩ (by simp only; omega) (by rw [renorm_eq]; simp only [List.map_cons, List.map_nil, go_sem, Nat.reduceEqDiff, ↓reduceIte, reduceCtorEq, Nat.reduceAdd, Nat.reduceSub, Nat.reduceLeDiff, Nat.reduceMul, Nat.reduceLT, Int.reduceLT, Int.reduceLE, Int.reduceNeg]; rfl) rfl
  · have c1 : decide ((i : Int) < l.length) = false := decide_eq_false (by omega)
    rw [List.drop_eq_nil_of_le (by omega)] at hm
    simp only [go_sem, Nat.reduceEqDiff, ↓reduceIte, reduceCtorEq, Nat.reduceAdd, Nat.reduceSub, Nat.reduceLeDiff, Nat.reduceMul, Nat.reduceLT, Int.reduceLT, Int.reduceLE, Int.reduceNeg, c1]
    refine OUT _ _ (by simp) ?_
    simp only [go_sem, Nat.reduceEqDiff, ↓reduceIte, reduceCtorEq, Nat.reduceAdd, Nat.reduceSub, Nat.reduceLeDiff, Nat.reduceMul, Nat.reduceLT, Int.reduceLT, Int.reduceLE, Int.reduceNeg]
    rw [← hm]; rfl
theorem toOpS_c (l : List Op) (hl : l.length ≤ 1048576) : CL 17 [.sl (l.map encO)] [] = some (.osl 0 0 l.length, [some (.rw 39 (l.map encO))]) := by
  refine callL_W _ _ _ (F := v17) rfl ?_
  have c0 : (0 : Int) ≤ l.length := by omega
  have c1 : (l.length : Int) ≤ l.length := Int.le_refl _
  have c2 : (l.length : Int) ≤ rowMax := by simp only [rowMax]; omega
  simp only [v17, go_sem, Nat.reduceEqDiff, ↓reduceIte, reduceCtorEq, Nat.reduceAdd, Nat.reduceSub, Nat.reduceLeDiff, Nat.reduceMul, Nat.reduceLT, Int.reduceLT, Int.reduceLE, Int.reduceNeg, c0, c1, c2, beq_self_eq_true]
  refine W_rounds (T := Nat) (fun i => ⟨ofL [(0, .sl (l.map encO)), (3, .osl 0 0 l.length), (4, .int .i64 i)], [some (.rw 39 (part encO [.int .i64 0, .int .i64 0, .int .i64 0, .int .i64 0, .int .i64 0, .int .i64 0, .int .i64 0, .int .i64 0, .int .i64 0, .int .i64 0, .bool false, .str []] l i))], 0⟩) (fun i => i ≤ l.length) (fun i => l.length - i) 0 (by rw [part_zero]; rfl) rfl (Nat.zero_le _) ?_
  rintro i hi Q1 IH OUT
  by_cases h : i < l.length
  · have c3 : decide ((i : Int) < l.length) = true := decide_eq_true (by omega)
    have c4 : (0 : Int) ≤ i := by omega
    have c5 : (i : Int) < l.length := by omega
    have hr : (List.map encO l)[i]? = some (encO l[i]) := by simp [h]
    have hp := part_at encO [.int .i64 0, .int .i64 0, .int .i64 0, .int .i64 0, .int .i64 0, .int .i64 0, .int .i64 0, .int .i64 0, .int .i64 0, .int .i64 0, .bool false, .str []] l i h
    have hw : IntKind.i64.wrap ((i : Int) + 1) = ((i + 1 : Nat) : Int) := by rw [wrap_small _ (by omega) (by omega)]; rfl
    have hs := part_set encO [.int .i64 0, .int .i64 0, .int .i64 0, .int .i64 0, .int .i64 0, .int .i64 0, .int .i64 0, .int .i64 0, .int .i64 0, .int .i64 0, .bool false, .str []] l i h
    simp only [encO] at hs
    simp only [go_sem, Nat.reduceEqDiff, ↓reduceIte, reduceCtorEq, Nat.reduceAdd, Nat.reduceSub, Nat.reduceLeDiff, Nat.reduceMul, Nat.reduceLT, Int.reduceLT, Int.reduceLE, Int.reduceNeg, c3, c4, c5, hr, hp, hw, encO, toOp_c, hs]
    exact IH (i + 1) _ (by omega) (by omega) rfl rfl
  · have c3 : decide ((i : Int) < l.length) = false := decide_eq_false (by omega)
    have hil : i = l.length := by omega
    simp only [go_sem, Nat.reduceEqDiff, ↓reduceIte, reduceCtorEq, Nat.reduceAdd, Nat.reduceSub, Nat.reduceLeDiff, Nat.reduceMul, Nat.reduceLT, Int.reduceLT, Int.reduceLE, Int.reduceNeg, c3]
    refine OUT _ _ (by simp) ?_
    simp only [go_sem, Nat.reduceEqDiff, ↓reduceIte, reduceCtorEq, Nat.reduceAdd, Nat.reduceSub, Nat.reduceLeDiff, Nat.reduceMul, Nat.reduceLT, Int.reduceLT, Int.reduceLE, Int.reduceNeg, hil, part_all]
    rfl
theorem eqOpS_c (a b : List Op) (hl : a.length ≤ 1048576) (hb : b.length ≤ 1048576) : CL 19 [.sl (a.map encO), .sl (b.map encO)] [] = some (.bool (decide (a = b)), []) := by
  refine callL_W _ _ _ (F := v19) rfl ?_
  simp only [v19, go_sem, Nat.reduceEqDiff, ↓reduceIte, reduceCtorEq, Nat.reduceAdd, Nat.reduceSub, Nat.reduceLeDiff, Nat.reduceMul, Nat.reduceLT, Int.reduceLT, Int.reduceLE, Int.reduceNeg]
  split
  · rename_i h
    have : a ≠ b := by rintro rfl; simp at h
    rw [decide_eq_false this]
  · rename_i h
    have hab : a.length = b.length := by
      have : (a.length : Int) = b.length := by simpa using h
      omega
    refine W_rounds (T := Nat) (fun i => ⟨ofL [(0, .sl (a.map encO)), (1, .sl (b.map encO)), (5, .int .i64 i)], [], 0⟩) (fun i => i ≤ a.length ∧ ∀ j : Nat, j < i → a[j]? = b[j]?) (fun i => a.length - i) 0 rfl rfl ⟨Nat.zero_le _, fun j h => by omega⟩ ?_
    rintro i ⟨hi, he⟩ Q1 IH OUT
    by_cases h : i < a.length
    · have hb' : i < b.length := by omega
      have c3 : decide ((i : Int) < a.length) = true := decide_eq_true (by omega)
      have c4 : (0 : Int) ≤ i := by omega
      have hr : (List.map encO a)[i]? = some (encO a[i]) := by simp [h]
      have hr2 : (List.map encO b)[i]? = some (encO b[i]) := by simp [hb']
      have hw : IntKind.i64.wrap ((i : Int) + 1) = ((i + 1 : Nat) : Int) := by rw [wrap_small _ (by omega) (by omega)]; rfl
      have hne := fun (x : a[i] ≠ b[i]) => (show a ≠ b from by rintro rfl; exact x rfl)
      have heq := fun (x : a[i] = b[i]) j (hj : j < i + 1) => (show a[j]? = b[j]? from by
        rcases Nat.lt_succ_iff_lt_or_eq.1 hj with h3 | h3
        · exact he j h3
        · subst h3; rw [List.getElem?_eq_getElem h, List.getElem?_eq_getElem hb', x])
      generalize a[i] = x at hr hne heq
      generalize b[i] = y at hr2 hne heq
      obtain ⟨⟨s1, s2⟩, k, ⟨t1, t2⟩, ⟨f1, f2⟩, ⟨p1, p2⟩, vl, en, tx⟩ := x
      obtain ⟨⟨q1, q2⟩, k', ⟨t1', t2'⟩, ⟨f1', f2'⟩, ⟨p1', p2'⟩, vl', en', tx'⟩ := y
      by_cases hxy : (⟨⟨s1, s2⟩, k, ⟨t1, t2⟩, ⟨f1, f2⟩, ⟨p1, p2⟩, vl, en, tx⟩ : Op) = ⟨⟨q1, q2⟩, k', ⟨t1', t2'⟩, ⟨f1', f2'⟩, ⟨p1', p2'⟩, vl', en', tx'⟩
      · have dt := decide_eq_true hxy
        simp only [go_sem, Nat.reduceEqDiff, ↓reduceIte, reduceCtorEq, Nat.reduceAdd, Nat.reduceSub, Nat.reduceLeDiff, Nat.reduceMul, Nat.reduceLT, Int.reduceLT, Int.reduceLE, Int.reduceNeg, c3, c4, hr, hr2, hw, encO, eqOp_c, dt, Bool.not_true]
        exact IH (i + 1) _ ⟨by omega, heq hxy⟩ (by omega) rfl rfl
      · have dt := decide_eq_false hxy
        simp only [go_sem, Nat.reduceEqDiff, ↓reduceIte, reduceCtorEq, Nat.reduceAdd, Nat.reduceSub, Nat.reduceLeDiff, Nat.reduceMul, Nat.reduceLT, Int.reduceLT, Int.reduceLE, Int.reduceNeg, c3, c4, hr, hr2, hw, encO, eqOp_c, dt, Bool.not_false]
        refine OUT _ _ (by simp) ?_
        simp only [go_sem, Nat.reduceEqDiff, ↓reduceIte, reduceCtorEq, Nat.reduceAdd, Nat.reduceSub, Nat.reduceLeDiff, Nat.reduceMul, Nat.reduceLT, Int.reduceLT, Int.reduceLE, Int.reduceNeg, decide_eq_false (hne hxy)]
    · have c3 : decide ((i : Int) < a.length) = false := decide_eq_false (by omega)
      simp only [go_sem, Nat.reduceEqDiff, ↓reduceIte, reduceCtorEq, Nat.reduceAdd, Nat.reduceSub, Nat.reduceLeDiff, Nat.reduceMul, Nat.reduceLT, Int.reduceLT, Int.reduceLE, Int.reduceNeg, c3]
      refine OUT _ _ (by simp) ?_
      have : a = b := List.ext_getElem? fun j => by
        by_cases hj : j < i
        · exact he j hj
        · rw [List.getElem?_eq_none (by omega), List.getElem?_eq_none (by omega)]
      simp only [go_sem, Nat.reduceEqDiff, ↓reduceIte, reduceCtorEq, Nat.reduceAdd, Nat.reduceSub, Nat.reduceLeDiff, Nat.reduceMul, Nat.reduceLT, Int.reduceLT, Int.reduceLE, Int.reduceNeg, decide_eq_true this]
end Go.Vi.Code
