/- Contracts: Conflicts, both; the law ExactConflicts. -/
import Derived.Test.YtcnhokifbgbegaaViC1
set_option linter.unusedSimpArgs false
set_option linter.unusedVariables false
namespace Go.Vi.Code
theorem writesBlock_s (a1 a2 a3 a4 a5 a6 a7 a8 a9 b1 : Int) (b3 : Bool) (b4 : List UInt8) : CL 112 [.agg [.int .i64 a1, .int .i64 a2, .int .i64 a3, .int .i64 a4, .int .i64 a5, .int .i64 a6, .int .i64 a7, .int .i64 a8, .int .i64 a9, .int .i64 b1, .bool b3, .str b4]] [] = some (.bool (wrB a3), []) := by
  refine callL_W _ _ _ (F := v112) rfl ?_
  by_cases h5 : a3 = 5
  · subst h5; simp only [v112, go_sem, Nat.reduceEqDiff, ↓reduceIte, reduceCtorEq, Nat.reduceAdd, Nat.reduceSub, Nat.reduceLeDiff, Nat.reduceMul, Nat.reduceLT, Int.reduceLT, Int.reduceLE, Int.reduceNeg, Int.cast_ofNat_Int, Int.reduceToNat, Int.toNat_zero, ne_eq, not_false_eq_true, Int.reduceEq, Int.reduceBEq]; rfl
  have e5 : (a3 == 5) = false := by simpa using h5
  by_cases h6 : a3 = 6
  · subst h6; simp only [v112, go_sem, Nat.reduceEqDiff, ↓reduceIte, reduceCtorEq, Nat.reduceAdd, Nat.reduceSub, Nat.reduceLeDiff, Nat.reduceMul, Nat.reduceLT, Int.reduceLT, Int.reduceLE, Int.reduceNeg, Int.cast_ofNat_Int, Int.reduceToNat, Int.toNat_zero, ne_eq, not_false_eq_true, Int.reduceEq, Int.reduceBEq]; rfl
  have e6 : (a3 == 6) = false := by simpa using h6
  by_cases h7 : a3 = 7
  · subst h7; simp only [v112, go_sem, Nat.reduceEqDiff, ↓reduceIte, reduceCtorEq, Nat.reduceAdd, Nat.reduceSub, Nat.reduceLeDiff, Nat.reduceMul, Nat.reduceLT, Int.reduceLT, Int.reduceLE, Int.reduceNeg, Int.cast_ofNat_Int, Int.reduceToNat, Int.toNat_zero, ne_eq, not_false_eq_true, Int.reduceEq, Int.reduceBEq]; rfl
  have e7 : (a3 == 7) = false := by simpa using h7
  have w : wrB a3 = false := decide_eq_false (by omega)
  simp only [v112, go_sem, Nat.reduceEqDiff, ↓reduceIte, reduceCtorEq, Nat.reduceAdd, Nat.reduceSub, Nat.reduceLeDiff, Nat.reduceMul, Nat.reduceLT, Int.reduceLT, Int.reduceLE, Int.reduceNeg, Int.cast_ofNat_Int, Int.reduceToNat, Int.toNat_zero, ne_eq, not_false_eq_true, Int.reduceEq, e5, e6, e7, w]
set_option maxRecDepth 20000 in
set_option maxHeartbeats 2000000 in
theorem conflicting_s (a1 a2 a3 a4 a5 a6 a7 a8 a9 b1 c1 c2 c3 c4 c5 c6 c7 c8 c9 d1 : Int) (b3 d3 : Bool) (b4 d4 : List UInt8) : CL 97 [.agg [.int .i64 a1, .int .i64 a2, .int .i64 a3, .int .i64 a4, .int .i64 a5, .int .i64 a6, .int .i64 a7, .int .i64 a8, .int .i64 a9, .int .i64 b1, .bool b3, .str b4],
    .agg [.int .i64 c1, .int .i64 c2, .int .i64 c3, .int .i64 c4, .int .i64 c5, .int .i64 c6, .int .i64 c7, .int .i64 c8, .int .i64 c9, .int .i64 d1, .bool d3, .str d4]] [] =
    some (.bool (confB ⟨⟨a1, a2⟩, a3, ⟨a4, a5⟩, ⟨a6, a7⟩, ⟨a8, a9⟩, b1, b3, b4⟩ ⟨⟨c1, c2⟩, c3, ⟨c4, c5⟩, ⟨c6, c7⟩, ⟨c8, c9⟩, d1, d3, d4⟩), []) := by
  refine callL_W _ _ _ (F := v97) rfl ?_
  unfold confB
  simp only
  by_cases h1 : wrB a3 = true
  case neg =>
    have w : wrB a3 = false := by simpa using h1
    simp only [v97, go_sem, Nat.reduceEqDiff, ↓reduceIte, reduceCtorEq, Nat.reduceAdd, Nat.reduceSub, Nat.reduceLeDiff, Nat.reduceMul, Nat.reduceLT, Int.reduceLT, Int.reduceLE, Int.reduceNeg, Int.cast_ofNat_Int, Int.reduceToNat, Int.toNat_zero, ne_eq, not_false_eq_true, Int.reduceEq, writesBlock_s, w, Bool.false_and, Bool.not_false]
  by_cases h2 : wrB c3 = true
  case neg =>
    have w : wrB c3 = false := by simpa using h2
    simp only [v97, go_sem, Nat.reduceEqDiff, ↓reduceIte, reduceCtorEq, Nat.reduceAdd, Nat.reduceSub, Nat.reduceLeDiff, Nat.reduceMul, Nat.reduceLT, Int.reduceLT, Int.reduceLE, Int.reduceNeg, Int.cast_ofNat_Int, Int.reduceToNat, Int.toNat_zero, ne_eq, not_false_eq_true, Int.reduceEq, writesBlock_s, h1, w, Bool.false_and, Bool.and_false, Bool.not_false, Bool.not_true]
  by_cases ht : (⟨a4, a5⟩ : Stamp) = ⟨c4, c5⟩
  case neg =>
    have et := decide_eq_false ht
    simp only [v97, go_sem, Nat.reduceEqDiff, ↓reduceIte, reduceCtorEq, Nat.reduceAdd, Nat.reduceSub, Nat.reduceLeDiff, Nat.reduceMul, Nat.reduceLT, Int.reduceLT, Int.reduceLE, Int.reduceNeg, Int.cast_ofNat_Int, Int.reduceToNat, Int.toNat_zero, ne_eq, not_false_eq_true, Int.reduceEq, writesBlock_s, h1, h2, eqS_t, eqS_n, et, Bool.not_false, Bool.not_true, Bool.true_and, Bool.false_and, Bool.and_false]
  have et := decide_eq_true ht
  by_cases hk : a3 = c3
  · have ek : (a3 == c3) = true := by simpa using hk
    have ek' : (a3 != c3) = false := by simpa using hk
    rw [if_pos hk]
    by_cases hv : b1 = d1
    · have ev : (b1 != d1) = false := by simpa using hv
      have ev2 := decide_eq_true hv
      by_cases hp : (⟨a8, a9⟩ : Stamp) = ⟨c8, c9⟩
      · have ep := decide_eq_true hp
        simp only [v97, go_sem, Nat.reduceEqDiff, ↓reduceIte, reduceCtorEq, Nat.reduceAdd, Nat.reduceSub, Nat.reduceLeDiff, Nat.reduceMul, Nat.reduceLT, Int.reduceLT, Int.reduceLE, Int.reduceNeg, Int.cast_ofNat_Int, Int.reduceToNat, Int.toNat_zero, ne_eq, not_false_eq_true, Int.reduceEq, writesBlock_s, h1, h2, eqS_t, eqS_n, et, ek, ek', ev, ev2, ep, Bool.not_false, Bool.not_true, Bool.true_and, Bool.false_or]
      · have ep := decide_eq_false hp
        simp only [v97, go_sem, Nat.reduceEqDiff, ↓reduceIte, reduceCtorEq, Nat.reduceAdd, Nat.reduceSub, Nat.reduceLeDiff, Nat.reduceMul, Nat.reduceLT, Int.reduceLT, Int.reduceLE, Int.reduceNeg, Int.cast_ofNat_Int, Int.reduceToNat, Int.toNat_zero, ne_eq, not_false_eq_true, Int.reduceEq, writesBlock_s, h1, h2, eqS_t, eqS_n, et, ek, ek', ev, ev2, ep, Bool.not_false, Bool.not_true, Bool.true_and, Bool.false_or, Bool.true_or]
    · have ev : (b1 != d1) = true := by simpa using hv
      have ev2 := decide_eq_false hv
      simp only [v97, go_sem, Nat.reduceEqDiff, ↓reduceIte, reduceCtorEq, Nat.reduceAdd, Nat.reduceSub, Nat.reduceLeDiff, Nat.reduceMul, Nat.reduceLT, Int.reduceLT, Int.reduceLE, Int.reduceNeg, Int.cast_ofNat_Int, Int.reduceToNat, Int.toNat_zero, ne_eq, not_false_eq_true, Int.reduceEq, writesBlock_s, h1, h2, eqS_t, eqS_n, et, ek, ek', ev, ev2, Bool.not_false, Bool.not_true, Bool.true_and, Bool.true_or]
  · have ek : (a3 == c3) = false := by simpa using hk
    have ek' : (a3 != c3) = true := by simpa using hk
    rw [if_neg hk]
    by_cases h7 : a3 = 7
    · have e7 : (a3 == 7) = true := by simpa using h7
      have e8 : decide (a3 = 7 ∨ c3 = 7) = true := decide_eq_true (.inl h7)
      simp only [v97, go_sem, Nat.reduceEqDiff, ↓reduceIte, reduceCtorEq, Nat.reduceAdd, Nat.reduceSub, Nat.reduceLeDiff, Nat.reduceMul, Nat.reduceLT, Int.reduceLT, Int.reduceLE, Int.reduceNeg, Int.cast_ofNat_Int, Int.reduceToNat, Int.toNat_zero, ne_eq, not_false_eq_true, Int.reduceEq, writesBlock_s, h1, h2, eqS_t, eqS_n, et, ek, ek', e7, e8, Bool.not_false, Bool.not_true, Bool.true_and]
    · have e7 : (a3 == 7) = false := by simpa using h7
      by_cases h8 : c3 = 7
      · have e9 : (c3 == 7) = true := by simpa using h8
        have e8 : decide (a3 = 7 ∨ c3 = 7) = true := decide_eq_true (.inr h8)
        simp only [v97, go_sem, Nat.reduceEqDiff, ↓reduceIte, reduceCtorEq, Nat.reduceAdd, Nat.reduceSub, Nat.reduceLeDiff, Nat.reduceMul, Nat.reduceLT, Int.reduceLT, Int.reduceLE, Int.reduceNeg, Int.cast_ofNat_Int, Int.reduceToNat, Int.toNat_zero, ne_eq, not_false_eq_true, Int.reduceEq, writesBlock_s, h1, h2, eqS_t, eqS_n, et, ek, ek', e7, e8, e9, Bool.not_false, Bool.not_true, Bool.true_and]
      · have e9 : (c3 == 7) = false := by simpa using h8
        have e8 : decide (a3 = 7 ∨ c3 = 7) = false := decide_eq_false (fun h => h.elim h7 h8)
        simp only [v97, go_sem, Nat.reduceEqDiff, ↓reduceIte, reduceCtorEq, Nat.reduceAdd, Nat.reduceSub, Nat.reduceLeDiff, Nat.reduceMul, Nat.reduceLT, Int.reduceLT, Int.reduceLE, Int.reduceNeg, Int.cast_ofNat_Int, Int.reduceToNat, Int.toNat_zero, ne_eq, not_false_eq_true, Int.reduceEq, writesBlock_s, h1, h2, eqS_t, eqS_n, et, ek, ek', e7, e8, e9, Bool.not_false, Bool.not_true, Bool.true_and]
structure Conf where
  a : Stamp
  b : Stamp
  deriving DecidableEq
def encC (c : Conf) : List D := [.int .i64 c.a.seq, .int .i64 c.a.author, .int .i64 c.b.seq, .int .i64 c.b.author]
def confRow (x : Op) (b : List Op) : List Conf := (b.filter (confB x)).map fun y => ⟨x.id, y.id⟩
def confAll (a b : List Op) : List Conf := a.flatMap fun x => confRow x b
theorem confAll_next (a b : List Op) (i : Nat) (h : i < a.length) : confAll (a.take (i + 1)) b = confAll (a.take i) b ++ confRow a[i] b := by
  unfold confAll; rw [take_next a i h, List.flatMap_append]; simp only [List.flatMap_cons, List.flatMap_nil, List.append_nil]
theorem confRow_next (x : Op) (b : List Op) (k : Nat) (h : k < b.length) : confRow x (b.take (k + 1)) = confRow x (b.take k) ++ (if confB x b[k] = true then [⟨x.id, b[k].id⟩] else []) := by
  unfold confRow
  rw [filter_next b (confB x) k h, List.map_append]
  split <;> rfl
set_option maxRecDepth 20000 in
set_option maxHeartbeats 2000000 in
theorem conflicts_s (a b : List Op) (ha : a.length ≤ 1000) (hb : b.length ≤ 1000) : CL 69 [.sl (a.map encO), .sl (b.map encO)] [] =
    some (.osl 0 0 (confAll a b).length, [some (.rw 84 ((confAll a b).map encC))]) := by
  refine callL_W _ _ _ (F := v69) rfl ?_
  simp only [v69, go_sem, Nat.reduceEqDiff, ↓reduceIte, reduceCtorEq, Nat.reduceAdd, Nat.reduceSub, Nat.reduceLeDiff, Nat.reduceMul, Nat.reduceLT, Int.reduceLT, Int.reduceLE, Int.reduceNeg, Int.cast_ofNat_Int, Int.reduceToNat, Int.toNat_zero, ne_eq, not_false_eq_true, Int.reduceEq]
  refine W_rounds (T := Nat × List Conf) (fun t => ⟨ofL [(0, .sl (a.map encO)), (1, .sl (b.map encO)), (5, .osl 0 0 t.2.length), (6, .int .i64 t.1)], [some (.rw 84 (t.2.map encC))], 0⟩)
    (fun t => t.1 ≤ a.length ∧ t.2 = confAll (a.take t.1) b ∧ t.2.length ≤ 1000 * t.1) (fun t => a.length - t.1) (0, []) rfl rfl ⟨Nat.zero_le _, rfl, Nat.zero_le _⟩ ?_
  rintro ⟨i, o⟩ ⟨hi, ho, hol⟩ Q1 IH OUT
  simp only at hi ho hol
  by_cases h : i < a.length
  case neg =>
    have c1 : decide ((i : Int) < a.length) = false := decide_eq_false (by omega)
    have hos : o = confAll a b := by rw [ho, List.take_of_length_le (by omega)]
    simp only [go_sem, Nat.reduceEqDiff, ↓reduceIte, reduceCtorEq, Nat.reduceAdd, Nat.reduceSub, Nat.reduceLeDiff, Nat.reduceMul, Nat.reduceLT, Int.reduceLT, Int.reduceLE, Int.reduceNeg, c1, List.length_map]
    refine OUT _ _ (by simp) ?_
    simp only [go_sem, Nat.reduceEqDiff, ↓reduceIte, reduceCtorEq, Nat.reduceAdd, Nat.reduceSub, Nat.reduceLeDiff, Nat.reduceMul, Nat.reduceLT, Int.reduceLT, Int.reduceLE, Int.reduceNeg]
    rw [hos]; rfl
  have c1 : decide ((i : Int) < a.length) = true := decide_eq_true (by omega)
  have c2 : (0 : Int) ≤ i := by omega
  have hr : (List.map encO a)[i]? = some (encO a[i]) := by simp [h]
  have hw : IntKind.i64.wrap ((i : Int) + 1) = ((i + 1 : Nat) : Int) := by rw [wrap_small _ (by omega) (by omega)]; rfl
  have hnx := confAll_next a b i h
  rw [← ho] at hnx
  generalize a[i] = x at hr hnx
  simp only [go_sem, Nat.reduceEqDiff, ↓reduceIte, reduceCtorEq, Nat.reduceAdd, Nat.reduceSub, Nat.reduceLeDiff, Nat.reduceMul, Nat.reduceLT, Int.reduceLT, Int.reduceLE, Int.reduceNeg, Int.cast_ofNat_Int, Int.reduceToNat, Int.toNat_zero, ne_eq, not_false_eq_true, Int.reduceEq, c1, List.length_map]
  refine W_rounds (T := Nat × List Conf) (fun t => ⟨ofL [(0, .sl (a.map encO)), (1, .sl (b.map encO)), (5, .osl 0 0 t.2.length), (6, .int .i64 i), (7, .int .i64 t.1)], [some (.rw 84 (t.2.map encC))], 0⟩)
    (fun t => t.1 ≤ b.length ∧ t.2 = o ++ confRow x (b.take t.1) ∧ t.2.length ≤ 1000 * i + t.1) (fun t => b.length - t.1) (0, o) (by rw [renorm_eq]; simp only [List.map_cons, List.map_nil, go_sem, Nat.reduceEqDiff, ↓reduceIte, reduceCtorEq, Nat.reduceAdd, Nat.reduceSub, Nat.reduceLeDiff, Nat.reduceMul, Nat.reduceLT, Int.reduceLT, Int.reduceLE, Int.reduceNeg]; rfl) rfl ⟨Nat.zero_le _, by simp [confRow], by simp only; omega⟩ ?_
  rintro ⟨k, q⟩ ⟨hk, hq, hql⟩ Q2 IH2 OUT2
  simp only at hk hq hql
  by_cases hkb : k < b.length
  case neg =>
    have d3 : decide ((k : Int) < b.length) = false := decide_eq_false (by omega)
    simp only [go_sem, Nat.reduceEqDiff, ↓reduceIte, reduceCtorEq, Nat.reduceAdd, Nat.reduceSub, Nat.reduceLeDiff, Nat.reduceMul, Nat.reduceLT, Int.reduceLT, Int.reduceLE, Int.reduceNeg, d3, List.length_map]
    refine OUT2 _ _ (by simp) ?_
    simp only [go_sem, Nat.reduceEqDiff, ↓reduceIte, reduceCtorEq, Nat.reduceAdd, Nat.reduceSub, Nat.reduceLeDiff, Nat.reduceMul, Nat.reduceLT, Int.reduceLT, Int.reduceLE, Int.reduceNeg, Int.cast_ofNat_Int, Int.reduceToNat, Int.toNat_zero, ne_eq, not_false_eq_true, Int.reduceEq, hw]
    exact IH (i + 1, q) _ ⟨by simp only; omega, by simp only; rw [hnx, hq, List.take_of_length_le (by omega)], by simp only; omega⟩ (by simp only; omega) (by rw [renorm_eq]; simp only [List.map_cons, List.map_nil, go_sem, Nat.reduceEqDiff, ↓reduceIte, reduceCtorEq, Nat.reduceAdd, Nat.reduceSub, Nat.reduceLeDiff, Nat.reduceMul, Nat.reduceLT, Int.reduceLT, Int.reduceLE, Int.reduceNeg]; rfl) rfl
  have d3 : decide ((k : Int) < b.length) = true := decide_eq_true (by omega)
  have ck : (0 : Int) ≤ k := by omega
  have wk : IntKind.i64.wrap ((k : Int) + 1) = ((k + 1 : Nat) : Int) := by rw [wrap_small _ (by omega) (by omega)]; rfl
  have hrb : (List.map encO b)[k]? = some (encO b[k]) := by simp [hkb]
  have hrn := confRow_next x b k hkb
  have c4 : q.length + 1 ≤ rowMax := by simp only [rowMax]; omega
  generalize b[k] = y at hrb hrn
  obtain ⟨⟨s1, s2⟩, kd, ⟨t1, t2⟩, ⟨f1, f2⟩, ⟨p1, p2⟩, vl, en, tx⟩ := x
  obtain ⟨⟨s1', s2'⟩, kd', ⟨t1', t2'⟩, ⟨f1', f2'⟩, ⟨p1', p2'⟩, vl', en', tx'⟩ := y
  by_cases hc : confB ⟨⟨s1, s2⟩, kd, ⟨t1, t2⟩, ⟨f1, f2⟩, ⟨p1, p2⟩, vl, en, tx⟩ ⟨⟨s1', s2'⟩, kd', ⟨t1', t2'⟩, ⟨f1', f2'⟩, ⟨p1', p2'⟩, vl', en', tx'⟩ = true
  · rw [if_pos hc] at hrn
    simp only [go_sem, Nat.reduceEqDiff, ↓reduceIte, reduceCtorEq, Nat.reduceAdd, Nat.reduceSub, Nat.reduceLeDiff, Nat.reduceMul, Nat.reduceLT, Int.reduceLT, Int.reduceLE, Int.reduceNeg, Int.cast_ofNat_Int, Int.reduceToNat, Int.toNat_zero, ne_eq, not_false_eq_true, Int.reduceEq, c2, ck, wk, d3, c4, hr, hrb, encO, conflicting_s, hc, beq_self_eq_true, List.length_map]
    refine IH2 (k + 1, q ++ [⟨⟨s1, s2⟩, ⟨s1', s2'⟩⟩]) _ ⟨by simp only; omega, by simp only; rw [hrn, hq, List.append_assoc], by simp only [List.length_append, List.length_cons, List.length_nil]; omega⟩ (by simp only; omega) ?_ rfl
    rw [renorm_eq]; simp only [List.map_cons, List.map_nil, go_sem, Nat.reduceEqDiff, ↓reduceIte, reduceCtorEq, Nat.reduceAdd, Nat.reduceSub, Nat.reduceLeDiff, Nat.reduceMul, Nat.reduceLT, Int.reduceLT, Int.reduceLE, Int.reduceNeg, List.map_append, List.length_append]; rfl
  · have hc' : confB ⟨⟨s1, s2⟩, kd, ⟨t1, t2⟩, ⟨f1, f2⟩, ⟨p1, p2⟩, vl, en, tx⟩ ⟨⟨s1', s2'⟩, kd', ⟨t1', t2'⟩, ⟨f1', f2'⟩, ⟨p1', p2'⟩, vl', en', tx'⟩ = false := by simpa using hc
    rw [if_neg hc, List.append_nil] at hrn
    simp only [go_sem, Nat.reduceEqDiff, ↓reduceIte, reduceCtorEq, Nat.reduceAdd, Nat.reduceSub, Nat.reduceLeDiff, Nat.reduceMul, Nat.reduceLT, Int.reduceLT, Int.reduceLE, Int.reduceNeg, Int.cast_ofNat_Int, Int.reduceToNat, Int.toNat_zero, ne_eq, not_false_eq_true, Int.reduceEq, c2, ck, wk, d3, c4, hr, hrb, encO, conflicting_s, hc', beq_self_eq_true, List.length_map]
    exact IH2 (k + 1, q) _ ⟨by simp only; omega, by simp only; rw [hrn, hq], by simp only; omega⟩ (by simp only; omega) (by rw [renorm_eq]; simp only [List.map_cons, List.map_nil, go_sem, Nat.reduceEqDiff, ↓reduceIte, reduceCtorEq, Nat.reduceAdd, Nat.reduceSub, Nat.reduceLeDiff, Nat.reduceMul, Nat.reduceLT, Int.reduceLT, Int.reduceLE, Int.reduceNeg]; rfl) rfl
theorem validLog_len {l : List Op} (h : validLog l = true) : l.length ≤ 40 := by
  simp only [validLog, Bool.and_eq_true, decide_eq_true_eq] at h
  exact h.2
theorem logInH_len (a b : List Op) (c : Bool) : (logInH a b c).length ≤ 40 := by
  unfold logInH
  split
  · rename_i h
    exact Nat.le_trans (List.length_filter_le _ _) (validLog_len h.1)
  · simp
def confH (a b : List Op) : List Conf := confAll (logInH a b false) (logInH b a false)
theorem Conflicts_s (a b : List Op) (ha : a.length ≤ 1048576) (hb : b.length ≤ 1048576) (ta : TX a) (tb : TX b) : CL 32 [.sl (a.map encO), .sl (b.map encO)] [] =
    some (.sl ((confH a b).map encC), []) := by
  refine callL_W _ _ _ (F := v32) rfl ?_
  have va := validLog_s a ha ta
  have vb := validLog_s b hb tb
  by_cases v1 : validLog a = true
  case neg =>
    have v1' : validLog a = false := by simpa using v1
    have e : confH a b = [] := by unfold confH; rw [show logInH a b false = [] from if_neg fun h => v1 h.1]; rfl
    simp only [v32, go_sem, Nat.reduceEqDiff, ↓reduceIte, reduceCtorEq, Nat.reduceAdd, Nat.reduceSub, Nat.reduceLeDiff, Nat.reduceMul, Nat.reduceLT, Int.reduceLT, Int.reduceLE, Int.reduceNeg, Int.cast_ofNat_Int, Int.reduceToNat, Int.toNat_zero, ne_eq, not_false_eq_true, Int.reduceEq, va, v1', Bool.not_false]
    rw [e]; rfl
  by_cases v2 : validLog b = true
  case neg =>
    have v2' : validLog b = false := by simpa using v2
    have e : confH a b = [] := by unfold confH; rw [show logInH a b false = [] from if_neg fun h => v2 h.2]; rfl
    simp only [v32, go_sem, Nat.reduceEqDiff, ↓reduceIte, reduceCtorEq, Nat.reduceAdd, Nat.reduceSub, Nat.reduceLeDiff, Nat.reduceMul, Nat.reduceLT, Int.reduceLT, Int.reduceLE, Int.reduceNeg, Int.cast_ofNat_Int, Int.reduceToNat, Int.toNat_zero, ne_eq, not_false_eq_true, Int.reduceEq, va, v1, vb, v2', Bool.not_true, Bool.not_false]
    rw [e]; rfl
  have h1 := logDifference_s a b ha hb
  have h2 := logDifference_s b a hb ha
  have l1 := logInH_len a b false
  have l2 := logInH_len b a false
  have hc := conflicts_s (logInH a b false) (logInH b a false) (by omega) (by omega)
  rw [show logInL a b false = logInH a b false from (if_pos ⟨v1, v2⟩).symm] at h1
  rw [show logInL b a false = logInH b a false from (if_pos ⟨v2, v1⟩).symm] at h2
  simp only [v32, go_sem, Nat.reduceEqDiff, ↓reduceIte, reduceCtorEq, Nat.reduceAdd, Nat.reduceSub, Nat.reduceLeDiff, Nat.reduceMul, Nat.reduceLT, Int.reduceLT, Int.reduceLE, Int.reduceNeg, Int.cast_ofNat_Int, Int.reduceToNat, Int.toNat_zero, ne_eq, not_false_eq_true, Int.reduceEq, va, v1, vb, v2, h1, h2, hc, Bool.not_true, List.length_map]
  rfl
end Go.Vi.Code
