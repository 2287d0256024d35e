/- Contracts: the program's Conflicts; the law ExactConflicts. -/
import Derived.Test.YtcnhokifbgbegaaViC2
set_option linter.unusedSimpArgs false
set_option linter.unusedVariables false
namespace Go.Vi.Code
set_option maxRecDepth 20000 in
set_option maxHeartbeats 2000000 in
theorem Conflicts_c (a b : List Op) (ha : a.length ≤ 1048576) (hb : b.length ≤ 1048576) (ta : TX a) (tb : TX b) : CL 33 [.sl (a.map encO), .sl (b.map encO)] [] =
    some (.osl 0 0 (confH a b).length, [some (.rw 84 ((confH a b).map encC))]) := by
  refine callL_W _ _ _ (F := v33) rfl ?_
  have h1 := LogDifference_c a b ha hb ta tb
  have h2 := LogDifference_c b a hb ha tb ta
  have l1 := logInH_len a b false
  have l2 := logInH_len b a false
  have hH : confH a b = confAll (logInH a b false) (logInH b a false) := rfl
  rw [hH]
  generalize logInH a b false = da at h1 l1
  generalize logInH b a false = db at h2 l2
  simp only [v33, go_sem, Nat.reduceEqDiff, ↓reduceIte, reduceCtorEq, Nat.reduceAdd, Nat.reduceSub, Nat.reduceLeDiff, Nat.reduceMul, Nat.reduceLT, Int.reduceLT, Int.reduceLE, Int.reduceNeg, Int.cast_ofNat_Int, Int.reduceToNat, Int.toNat_zero, ne_eq, not_false_eq_true, Int.reduceEq, h1, List.length_map]
  refine W_rounds (T := Nat × List Conf) (fun t => ⟨ofL [(0, .sl (a.map encO)), (1, .sl (b.map encO)), (5, .osl 0 0 t.2.length), (13, .sl (da.map encO)), (14, .int .i64 da.length), (15, .int .i64 t.1)], [some (.rw 84 (t.2.map encC))], 0⟩)
    (fun t => t.1 ≤ da.length ∧ t.2 = confAll (da.take t.1) db ∧ t.2.length ≤ 1000 * t.1) (fun t => da.length - t.1) (0, []) (by rw [renorm_eq]; simp only [List.map_cons, List.map_nil, go_sem, Nat.reduceEqDiff, ↓reduceIte, reduceCtorEq, Nat.reduceAdd, Nat.reduceSub, Nat.reduceLeDiff, Nat.reduceMul, Nat.reduceLT, Int.reduceLT, Int.reduceLE, Int.reduceNeg]; rfl) rfl ⟨Nat.zero_le _, rfl, Nat.zero_le _⟩ ?_
  rintro ⟨i, o⟩ ⟨hi, ho, hol⟩ Q1 IH OUT
  simp only at hi ho hol
  by_cases h : i < da.length
  case neg =>
    have c1 : decide ((i : Int) < da.length) = false := decide_eq_false (by omega)
    have hos : o = confAll da db := by rw [ho, List.take_of_length_le (by omega)]
    simp only [go_sem, Nat.reduceEqDiff, ↓reduceIte, reduceCtorEq, Nat.reduceAdd, Nat.reduceSub, Nat.reduceLeDiff, Nat.reduceMul, Nat.reduceLT, Int.reduceLT, Int.reduceLE, Int.reduceNeg, c1]
    refine OUT _ _ (by simp) ?_
    simp only [go_sem, Nat.reduceEqDiff, ↓reduceIte, reduceCtorEq, Nat.reduceAdd, Nat.reduceSub, Nat.reduceLeDiff, Nat.reduceMul, Nat.reduceLT, Int.reduceLT, Int.reduceLE, Int.reduceNeg]
    rw [hos]; rfl
  have c1 : decide ((i : Int) < da.length) = true := decide_eq_true (by omega)
  have c2 : (0 : Int) ≤ i := by omega
  have hr : (List.map encO da)[i]? = some (encO da[i]) := by simp [h]
  have hw : IntKind.i64.wrap ((i : Int) + 1) = ((i + 1 : Nat) : Int) := by rw [wrap_small _ (by omega) (by omega)]; rfl
  have hnx := confAll_next da db i h
  rw [← ho] at hnx
  generalize da[i] = x at hr hnx
  obtain ⟨⟨s1, s2⟩, kd, ⟨t1, t2⟩, ⟨f1, f2⟩, ⟨p1, p2⟩, vl, en, tx⟩ := x
  simp only [go_sem, Nat.reduceEqDiff, ↓reduceIte, reduceCtorEq, Nat.reduceAdd, Nat.reduceSub, Nat.reduceLeDiff, Nat.reduceMul, Nat.reduceLT, Int.reduceLT, Int.reduceLE, Int.reduceNeg, Int.cast_ofNat_Int, Int.reduceToNat, Int.toNat_zero, ne_eq, not_false_eq_true, Int.reduceEq, c1, c2, hr, encO, h2, List.length_map]
  refine W_rounds (T := Nat × List Conf) (fun t => ⟨ofL [(0, .sl (a.map encO)), (1, .sl (b.map encO)), (5, .osl 0 0 t.2.length), (7, .ptr 1 0), (13, .sl (da.map encO)), (14, .int .i64 da.length), (15, .int .i64 i), (21, .sl (db.map encO)), (22, .int .i64 db.length), (23, .int .i64 t.1)], [some (.rw 84 (t.2.map encC)), some (.bx [.int .i64 s1, .int .i64 s2, .int .i64 kd, .int .i64 t1, .int .i64 t2, .int .i64 f1, .int .i64 f2, .int .i64 p1, .int .i64 p2, .int .i64 vl, .bool en, .str tx])], 0⟩)
    (fun t => t.1 ≤ db.length ∧ t.2 = o ++ confRow ⟨⟨s1, s2⟩, kd, ⟨t1, t2⟩, ⟨f1, f2⟩, ⟨p1, p2⟩, vl, en, tx⟩ (db.take t.1) ∧ t.2.length ≤ 1000 * i + t.1) (fun t => db.length - t.1) (0, o) (by rw [renorm_eq]; simp only [List.map_cons, List.map_nil, go_sem, Nat.reduceEqDiff, ↓reduceIte, reduceCtorEq, Nat.reduceAdd, Nat.reduceSub, Nat.reduceLeDiff, Nat.reduceMul, Nat.reduceLT, Int.reduceLT, Int.reduceLE, Int.reduceNeg]; rfl) rfl ⟨Nat.zero_le _, by simp [confRow], by simp only; omega⟩ ?_
  rintro ⟨k, q⟩ ⟨hk, hq, hql⟩ Q2 IH2 OUT2
  simp only at hk hq hql
  by_cases hkb : k < db.length
  case neg =>
    have d3 : decide ((k : Int) < db.length) = false := decide_eq_false (by omega)
    simp only [go_sem, Nat.reduceEqDiff, ↓reduceIte, reduceCtorEq, Nat.reduceAdd, Nat.reduceSub, Nat.reduceLeDiff, Nat.reduceMul, Nat.reduceLT, Int.reduceLT, Int.reduceLE, Int.reduceNeg, d3]
    refine OUT2 _ _ (by simp) ?_
    simp only [go_sem, Nat.reduceEqDiff, ↓reduceIte, reduceCtorEq, Nat.reduceAdd, Nat.reduceSub, Nat.reduceLeDiff, Nat.reduceMul, Nat.reduceLT, Int.reduceLT, Int.reduceLE, Int.reduceNeg, Int.cast_ofNat_Int, Int.reduceToNat, Int.toNat_zero, ne_eq, not_false_eq_true, Int.reduceEq, hw]
    exact IH (i + 1, q) _ ⟨by simp only; omega, by simp only; rw [hnx, hq, List.take_of_length_le (by omega)], by simp only; omega⟩ (by simp only; omega) (by rw [renorm_eq]; simp only [List.map_cons, List.map_nil, go_sem, Nat.reduceEqDiff, ↓reduceIte, reduceCtorEq, Nat.reduceAdd, Nat.reduceSub, Nat.reduceLeDiff, Nat.reduceMul, Nat.reduceLT, Int.reduceLT, Int.reduceLE, Int.reduceNeg]; rfl) rfl
  have d3 : decide ((k : Int) < db.length) = true := decide_eq_true (by omega)
  have ck : (0 : Int) ≤ k := by omega
  have wk : IntKind.i64.wrap ((k : Int) + 1) = ((k + 1 : Nat) : Int) := by rw [wrap_small _ (by omega) (by omega)]; rfl
  have hrb : (List.map encO db)[k]? = some (encO db[k]) := by simp [hkb]
  have hrn := confRow_next ⟨⟨s1, s2⟩, kd, ⟨t1, t2⟩, ⟨f1, f2⟩, ⟨p1, p2⟩, vl, en, tx⟩ db k hkb
  have c4 : q.length + 1 ≤ rowMax := by simp only [rowMax]; omega
  generalize db[k] = y at hrb hrn
  obtain ⟨⟨s1', s2'⟩, kd', ⟨t1', t2'⟩, ⟨f1', f2'⟩, ⟨p1', p2'⟩, vl', en', tx'⟩ := y
  by_cases hc : confB ⟨⟨s1, s2⟩, kd, ⟨t1, t2⟩, ⟨f1, f2⟩, ⟨p1, p2⟩, vl, en, tx⟩ ⟨⟨s1', s2'⟩, kd', ⟨t1', t2'⟩, ⟨f1', f2'⟩, ⟨p1', p2'⟩, vl', en', tx'⟩ = true
  · rw [if_pos hc] at hrn
    simp only [go_sem, Nat.reduceEqDiff, ↓reduceIte, reduceCtorEq, Nat.reduceAdd, Nat.reduceSub, Nat.reduceLeDiff, Nat.reduceMul, Nat.reduceLT, Int.reduceLT, Int.reduceLE, Int.reduceNeg, Int.cast_ofNat_Int, Int.reduceToNat, Int.toNat_zero, ne_eq, not_false_eq_true, Int.reduceEq, c2, ck, wk, d3, c4, hrb, encO, conflicting_c, hc, beq_self_eq_true, List.length_map]
    refine IH2 (k + 1, q ++ [⟨⟨s1, s2⟩, ⟨s1', s2'⟩⟩]) _ ⟨by simp only; omega, by simp only; rw [hrn, hq, List.append_assoc], by simp only [List.length_append, List.length_cons, List.length_nil]; omega⟩ (by simp only; omega) ?_ rfl
    rw [renorm_eq]; simp only [List.map_cons, List.map_nil, go_sem, Nat.reduceEqDiff, ↓reduceIte, reduceCtorEq, Nat.reduceAdd, Nat.reduceSub, Nat.reduceLeDiff, Nat.reduceMul, Nat.reduceLT, Int.reduceLT, Int.reduceLE, Int.reduceNeg, List.map_append, List.length_append]; rfl
  · have hc' : confB ⟨⟨s1, s2⟩, kd, ⟨t1, t2⟩, ⟨f1, f2⟩, ⟨p1, p2⟩, vl, en, tx⟩ ⟨⟨s1', s2'⟩, kd', ⟨t1', t2'⟩, ⟨f1', f2'⟩, ⟨p1', p2'⟩, vl', en', tx'⟩ = false := by simpa using hc
    rw [if_neg hc, List.append_nil] at hrn
    simp only [go_sem, Nat.reduceEqDiff, ↓reduceIte, reduceCtorEq, Nat.reduceAdd, Nat.reduceSub, Nat.reduceLeDiff, Nat.reduceMul, Nat.reduceLT, Int.reduceLT, Int.reduceLE, Int.reduceNeg, Int.cast_ofNat_Int, Int.reduceToNat, Int.toNat_zero, ne_eq, not_false_eq_true, Int.reduceEq, c2, ck, wk, d3, c4, hrb, encO, conflicting_c, hc', beq_self_eq_true, List.length_map]
    exact IH2 (k + 1, q) _ ⟨by simp only; omega, by simp only; rw [hrn, hq], by simp only; omega⟩ (by simp only; omega) (by rw [renorm_eq]; simp only [List.map_cons, List.map_nil, go_sem, Nat.reduceEqDiff, ↓reduceIte, reduceCtorEq, Nat.reduceAdd, Nat.reduceSub, Nat.reduceLeDiff, Nat.reduceMul, Nat.reduceLT, Int.reduceLT, Int.reduceLE, Int.reduceNeg]; rfl) rfl
theorem eqConflict_c (a1 a2 b1 b2 c1 c2 d1 d2 : Int) : CL 71 [.agg [.int .i64 a1, .int .i64 a2, .int .i64 b1, .int .i64 b2], .agg [.int .i64 c1, .int .i64 c2, .int .i64 d1, .int .i64 d2]] [] =
    some (.bool (decide ((⟨⟨a1, a2⟩, ⟨b1, b2⟩⟩ : Conf) = ⟨⟨c1, c2⟩, ⟨d1, d2⟩⟩)), []) := by
  refine callL_W _ _ _ (F := v71) rfl ?_
  by_cases h1 : (⟨a1, a2⟩ : Stamp) = ⟨c1, c2⟩
  case neg =>
    have e := decide_eq_false h1
    rw [show decide ((⟨⟨a1, a2⟩, ⟨b1, b2⟩⟩ : Conf) = ⟨⟨c1, c2⟩, ⟨d1, d2⟩⟩) = false from decide_eq_false fun x => h1 (congrArg Conf.a x)]
    simp only [v71, go_sem, Nat.reduceEqDiff, ↓reduceIte, reduceCtorEq, Nat.reduceAdd, Nat.reduceSub, Nat.reduceLeDiff, Nat.reduceMul, Nat.reduceLT, Int.reduceLT, Int.reduceLE, Int.reduceNeg, Int.cast_ofNat_Int, Int.reduceToNat, Int.toNat_zero, ne_eq, not_false_eq_true, Int.reduceEq, eqStamp_c, e, Bool.not_false]
  have e := decide_eq_true h1
  by_cases h2 : (⟨b1, b2⟩ : Stamp) = ⟨d1, d2⟩
  · have e2 := decide_eq_true h2
    rw [show decide ((⟨⟨a1, a2⟩, ⟨b1, b2⟩⟩ : Conf) = ⟨⟨c1, c2⟩, ⟨d1, d2⟩⟩) = true from decide_eq_true (by rw [h1, h2])]
    simp only [v71, go_sem, Nat.reduceEqDiff, ↓reduceIte, reduceCtorEq, Nat.reduceAdd, Nat.reduceSub, Nat.reduceLeDiff, Nat.reduceMul, Nat.reduceLT, Int.reduceLT, Int.reduceLE, Int.reduceNeg, Int.cast_ofNat_Int, Int.reduceToNat, Int.toNat_zero, ne_eq, not_false_eq_true, Int.reduceEq, eqStamp_c, e, e2, Bool.not_true]
  · have e2 := decide_eq_false h2
    rw [show decide ((⟨⟨a1, a2⟩, ⟨b1, b2⟩⟩ : Conf) = ⟨⟨c1, c2⟩, ⟨d1, d2⟩⟩) = false from decide_eq_false fun x => h2 (congrArg Conf.b x)]
    simp only [v71, go_sem, Nat.reduceEqDiff, ↓reduceIte, reduceCtorEq, Nat.reduceAdd, Nat.reduceSub, Nat.reduceLeDiff, Nat.reduceMul, Nat.reduceLT, Int.reduceLT, Int.reduceLE, Int.reduceNeg, Int.cast_ofNat_Int, Int.reduceToNat, Int.toNat_zero, ne_eq, not_false_eq_true, Int.reduceEq, eqStamp_c, e, e2, Bool.not_true, Bool.not_false]
theorem eqConflictS_c (a b : List Conf) (hl : a.length ≤ 1048576) (hb : b.length ≤ 1048576) : CL 34 [.sl (a.map encC), .sl (b.map encC)] [] = some (.bool (decide (a = b)), []) := by
  refine callL_W _ _ _ (F := v34) rfl ?_
  simp only [v34, go_sem, Nat.reduceEqDiff, ↓reduceIte, reduceCtorEq, Nat.reduceAdd, Nat.reduceSub, Nat.reduceLeDiff, Nat.reduceMul, Nat.reduceLT, Int.reduceLT, Int.reduceLE, Int.reduceNeg]
  split
  · rename_i h
    have : a ≠ b := by rintro rfl; simp at h
    rw [decide_eq_false this]
  · rename_i h
    have hab : a.length = b.length := by
      have : (a.length : Int) = b.length := by simpa using h
      omega
    refine W_rounds (T := Nat) (fun i => ⟨ofL [(0, .sl (a.map encC)), (1, .sl (b.map encC)), (5, .int .i64 i)], [], 0⟩) (fun i => i ≤ a.length ∧ ∀ j : Nat, j < i → a[j]? = b[j]?) (fun i => a.length - i) 0 rfl rfl ⟨Nat.zero_le _, fun j h => by omega⟩ ?_
    rintro i ⟨hi, he⟩ Q1 IH OUT
    by_cases h : i < a.length
    · have hb' : i < b.length := by omega
      have c3 : decide ((i : Int) < a.length) = true := decide_eq_true (by omega)
      have c4 : (0 : Int) ≤ i := by omega
      have hr : (List.map encC a)[i]? = some (encC a[i]) := by simp [h]
      have hr2 : (List.map encC b)[i]? = some (encC b[i]) := by simp [hb']
      have hw : IntKind.i64.wrap ((i : Int) + 1) = ((i + 1 : Nat) : Int) := by rw [wrap_small _ (by omega) (by omega)]; rfl
      have hne := fun (x : a[i] ≠ b[i]) => (show a ≠ b from by rintro rfl; exact x rfl)
      have heq := fun (x : a[i] = b[i]) j (hj : j < i + 1) => (show a[j]? = b[j]? from by
        rcases Nat.lt_succ_iff_lt_or_eq.1 hj with h3 | h3
        · exact he j h3
        · subst h3; rw [List.getElem?_eq_getElem h, List.getElem?_eq_getElem hb', x])
      generalize a[i] = x at hr hne heq
      generalize b[i] = y at hr2 hne heq
      obtain ⟨⟨s1, s2⟩, ⟨t1, t2⟩⟩ := x
      obtain ⟨⟨q1, q2⟩, ⟨t1', t2'⟩⟩ := y
      by_cases hxy : (⟨⟨s1, s2⟩, ⟨t1, t2⟩⟩ : Conf) = ⟨⟨q1, q2⟩, ⟨t1', t2'⟩⟩
      · have dt := decide_eq_true hxy
        simp only [go_sem, Nat.reduceEqDiff, ↓reduceIte, reduceCtorEq, Nat.reduceAdd, Nat.reduceSub, Nat.reduceLeDiff, Nat.reduceMul, Nat.reduceLT, Int.reduceLT, Int.reduceLE, Int.reduceNeg, c3, c4, hr, hr2, hw, encC, eqConflict_c, dt, Bool.not_true]
        exact IH (i + 1) _ ⟨by omega, heq hxy⟩ (by omega) rfl rfl
      · have dt := decide_eq_false hxy
        simp only [go_sem, Nat.reduceEqDiff, ↓reduceIte, reduceCtorEq, Nat.reduceAdd, Nat.reduceSub, Nat.reduceLeDiff, Nat.reduceMul, Nat.reduceLT, Int.reduceLT, Int.reduceLE, Int.reduceNeg, c3, c4, hr, hr2, hw, encC, eqConflict_c, dt, Bool.not_false]
        refine OUT _ _ (by simp) ?_
        simp only [go_sem, Nat.reduceEqDiff, ↓reduceIte, reduceCtorEq, Nat.reduceAdd, Nat.reduceSub, Nat.reduceLeDiff, Nat.reduceMul, Nat.reduceLT, Int.reduceLT, Int.reduceLE, Int.reduceNeg, decide_eq_false (hne hxy)]
    · have c3 : decide ((i : Int) < a.length) = false := decide_eq_false (by omega)
      simp only [go_sem, Nat.reduceEqDiff, ↓reduceIte, reduceCtorEq, Nat.reduceAdd, Nat.reduceSub, Nat.reduceLeDiff, Nat.reduceMul, Nat.reduceLT, Int.reduceLT, Int.reduceLE, Int.reduceNeg, c3]
      refine OUT _ _ (by simp) ?_
      have : a = b := List.ext_getElem? fun j => by
        by_cases hj : j < i
        · exact he j hj
        · rw [List.getElem?_eq_none (by omega), List.getElem?_eq_none (by omega)]
      simp only [go_sem, Nat.reduceEqDiff, ↓reduceIte, reduceCtorEq, Nat.reduceAdd, Nat.reduceSub, Nat.reduceLeDiff, Nat.reduceMul, Nat.reduceLT, Int.reduceLT, Int.reduceLE, Int.reduceNeg, decide_eq_true this]
def mkC (k : Int) : Conf := ⟨⟨k, k + 1⟩, ⟨k + 1 + 1, k + 1 + 1 + 1⟩⟩
def marksC (k : Int) (n : Nat) : List Conf := (List.range n).map fun i => mkC (k + 4 * (i : Nat))
theorem marksC_len (k : Int) (n : Nat) : (marksC k n).length = n := by simp [marksC]
theorem marksC_at (k : Int) (n i : Nat) (h : i < n) : (marksC k n)[i]? = some (mkC (k + 4 * (i : Nat))) := by simp [marksC, h]
theorem markC_c (l : List Conf) (k : Int) (hl : l.length ≤ 1048576) (hk : 0 < k) (hk2 : k ≤ 100000000) : CL 35 [.osl 0 0 l.length, .int .i64 k] [some (.rw 84 (l.map encC))] =
    some (.int .i64 (k + 4 * (l.length : Nat)), [some (.rw 84 ((marksC k l.length).map encC))]) := by
  refine callL_W _ _ _ (F := v35) rfl ?_
  simp only [v35, go_sem, Nat.reduceEqDiff, ↓reduceIte, reduceCtorEq, Nat.reduceAdd, Nat.reduceSub, Nat.reduceLeDiff, Nat.reduceMul, Nat.reduceLT, Int.reduceLT, Int.reduceLE, Int.reduceNeg]
  refine W_rounds (T := Nat × Int × List Conf) (fun t => ⟨ofL [(0, .osl 0 0 l.length), (1, .int .i64 t.2.1), (5, .int .i64 t.1)], [some (.rw 84 (t.2.2.map encC))], 1⟩)
    (fun t => t.1 ≤ l.length ∧ t.2.1 = k + 4 * (t.1 : Nat) ∧ t.2.2.length = l.length ∧ ∀ j, j < t.1 → t.2.2[j]? = some (mkC (k + 4 * (j : Nat)))) (fun t => l.length - t.1) (0, k, l) rfl rfl ⟨Nat.zero_le _, by simp, rfl, fun j h => by omega⟩ ?_
  rintro ⟨i, K, L⟩ ⟨hi, hK, hL, hm⟩ Q1 IH OUT
  simp only at hi hK hL hm
  by_cases h : i < l.length
  · have c1 : decide ((i : Int) < l.length) = true := decide_eq_true (by omega)
    have c2 : (0 : Int) ≤ i := by omega
    have c3 : (i : Int) < l.length := by omega
    have hiL : i < L.length := by omega
    have hw : IntKind.i64.wrap ((i : Int) + 1) = ((i + 1 : Nat) : Int) := by rw [wrap_small _ (by omega) (by omega)]; rfl
    have w1 : IntKind.i64.wrap (K + 1) = K + 1 := wrap_small _ (by omega) (by omega)
    have w2 : IntKind.i64.wrap (K + 1 + 1) = K + 1 + 1 := wrap_small _ (by omega) (by omega)
    have w3 : IntKind.i64.wrap (K + 1 + 1 + 1) = K + 1 + 1 + 1 := wrap_small _ (by omega) (by omega)
    have w4 : IntKind.i64.wrap (K + 1 + 1 + 1 + 1) = K + 1 + 1 + 1 + 1 := wrap_small _ (by omega) (by omega)
    have hr : (List.map encC L)[i]? = some (encC L[i]) := by simp [hiL]
    have hs : ∀ r : List D, ((List.map encC L).set i r)[i]? = some r := fun r => List.getElem?_set_self (by simpa using hiL)
    generalize L[i] = g at hr
    obtain ⟨⟨s1, s2⟩, ⟨t1, t2⟩⟩ := g
    have hrow : (List.map encC L).set i [.int .i64 K, .int .i64 (K + 1), .int .i64 (K + 1 + 1), .int .i64 (K + 1 + 1 + 1)] = (L.set i (mkC K)).map encC := by
      rw [List.map_set]; rfl
    simp only [go_sem, Nat.reduceEqDiff, ↓reduceIte, reduceCtorEq, Nat.reduceAdd, Nat.reduceSub, Nat.reduceLeDiff, Nat.reduceMul, Nat.reduceLT, Int.reduceLT, Int.reduceLE, Int.reduceNeg, Int.cast_ofNat_Int, Int.reduceToNat, Int.toNat_zero, ne_eq, not_false_eq_true, Int.reduceEq, c1, c2, c3, hw, w1, w2, w3, w4, hr, hs, encC, List.set_set, hrow, List.length_map]
    refine IH (i + 1, K + 1 + 1 + 1 + 1, L.set i (mkC K)) _ ⟨by simp only; omega, by simp only; omega, by simpa using hL, fun j hj => ?_⟩ (by simp only; omega) (by rw [renorm_eq]; simp only [List.map_cons, List.map_nil, go_sem, Nat.reduceEqDiff, ↓reduceIte, reduceCtorEq, Nat.reduceAdd, Nat.reduceSub, Nat.reduceLeDiff, Nat.reduceMul, Nat.reduceLT, Int.reduceLT, Int.reduceLE, Int.reduceNeg]; rfl) rfl
    simp only
    by_cases hji : j = i
    · subst hji
      rw [List.getElem?_set_self hiL, ← hK]
    · rw [List.getElem?_set_ne (by omega)]
      exact hm j (by omega)
  · have c1 : decide ((i : Int) < l.length) = false := decide_eq_false (by omega)
    have hil : i = l.length := by omega
    simp only [go_sem, Nat.reduceEqDiff, ↓reduceIte, reduceCtorEq, Nat.reduceAdd, Nat.reduceSub, Nat.reduceLeDiff, Nat.reduceMul, Nat.reduceLT, Int.reduceLT, Int.reduceLE, Int.reduceNeg, c1]
    refine OUT _ _ (by simp) ?_
    have hLm : L = marksC k l.length := by
      apply List.ext_getElem?
      intro j
      by_cases hj : j < l.length
      · rw [hm j (by omega), marksC_at _ _ _ hj]
      · rw [List.getElem?_eq_none (by omega), List.getElem?_eq_none (by rw [marksC_len]; omega)]
    simp only [go_sem, Nat.reduceEqDiff, ↓reduceIte, reduceCtorEq, Nat.reduceAdd, Nat.reduceSub, Nat.reduceLeDiff, Nat.reduceMul, Nat.reduceLT, Int.reduceLT, Int.reduceLE, Int.reduceNeg]
    rw [hLm, hK, hil]
    rfl
theorem heldC_c (n : Nat) (k : Int) (hl : n ≤ 1048576) (hk : 0 < k) (hk2 : k ≤ 100000000) : CL 36 [.sl ((marksC k n).map encC), .int .i64 k] [] = some (.int .i64 (k + 4 * (n : Nat)), []) := by
  refine callL_W _ _ _ (F := v36) rfl ?_
  simp only [v36, go_sem, Nat.reduceEqDiff, ↓reduceIte, reduceCtorEq, Nat.reduceAdd, Nat.reduceSub, Nat.reduceLeDiff, Nat.reduceMul, Nat.reduceLT, Int.reduceLT, Int.reduceLE, Int.reduceNeg]
  refine W_rounds (T := Nat × Int) (fun t => ⟨ofL [(0, .sl ((marksC k n).map encC)), (1, .int .i64 t.2), (5, .int .i64 t.1)], [], 0⟩) (fun t => t.1 ≤ n ∧ t.2 = k + 4 * (t.1 : Nat)) (fun t => n - t.1) (0, k) rfl rfl ⟨Nat.zero_le _, by simp⟩ ?_
  rintro ⟨i, K⟩ ⟨hi, hK⟩ Q1 IH OUT
  simp only at hi hK
  by_cases h : i < n
  · have c1 : decide ((i : Int) < n) = true := decide_eq_true (by omega)
    have c2 : (0 : Int) ≤ i := by omega
    have hw : IntKind.i64.wrap ((i : Int) + 1) = ((i + 1 : Nat) : Int) := by rw [wrap_small _ (by omega) (by omega)]; rfl
    have w1 : IntKind.i64.wrap (K + 1) = K + 1 := wrap_small _ (by omega) (by omega)
    have w2 : IntKind.i64.wrap (K + 1 + 1) = K + 1 + 1 := wrap_small _ (by omega) (by omega)
    have w3 : IntKind.i64.wrap (K + 1 + 1 + 1) = K + 1 + 1 + 1 := wrap_small _ (by omega) (by omega)
    have w4 : IntKind.i64.wrap (K + 1 + 1 + 1 + 1) = K + 1 + 1 + 1 + 1 := wrap_small _ (by omega) (by omega)
    have hr : (List.map encC (marksC k n))[i]? = some [.int .i64 K, .int .i64 (K + 1), .int .i64 (K + 1 + 1), .int .i64 (K + 1 + 1 + 1)] := by
      rw [List.getElem?_map, marksC_at _ _ _ h, ← hK]; rfl
    simp only [go_sem, Nat.reduceEqDiff, ↓reduceIte, reduceCtorEq, Nat.reduceAdd, Nat.reduceSub, Nat.reduceLeDiff, Nat.reduceMul, Nat.reduceLT, Int.reduceLT, Int.reduceLE, Int.reduceNeg, Int.cast_ofNat_Int, Int.reduceToNat, Int.toNat_zero, ne_eq, not_false_eq_true, Int.reduceEq, c1, c2, hw, w1, w2, w3, w4, hr, marksC_len, List.length_map, bne_self_eq_false]
    exact IH (i + 1, K + 1 + 1 + 1 + 1) _ ⟨by simp only; omega, by simp only; omega⟩ (by simp only; omega) (by rw [renorm_eq]; simp only [List.map_cons, List.map_nil, go_sem, Nat.reduceEqDiff, ↓reduceIte, reduceCtorEq, Nat.reduceAdd, Nat.reduceSub, Nat.reduceLeDiff, Nat.reduceMul, Nat.reduceLT, Int.reduceLT, Int.reduceLE, Int.reduceNeg]; rfl) rfl
  · have c1 : decide ((i : Int) < n) = false := decide_eq_false (by omega)
    have hil : i = n := by omega
    simp only [go_sem, Nat.reduceEqDiff, ↓reduceIte, reduceCtorEq, Nat.reduceAdd, Nat.reduceSub, Nat.reduceLeDiff, Nat.reduceMul, Nat.reduceLT, Int.reduceLT, Int.reduceLE, Int.reduceNeg, c1, marksC_len, List.length_map]
    refine OUT _ _ (by simp) ?_
    simp only [go_sem, Nat.reduceEqDiff, ↓reduceIte, reduceCtorEq, Nat.reduceAdd, Nat.reduceSub, Nat.reduceLeDiff, Nat.reduceMul, Nat.reduceLT, Int.reduceLT, Int.reduceLE, Int.reduceNeg]
    rw [hK, hil]
theorem bare_encC (e : Nat) (l : List Conf) : bareO (some (.rw e (l.map encC))) = true := by
  simp only [bareO, List.all_eq_true]
  intro r hr
  obtain ⟨g, _, rfl⟩ := List.mem_map.1 hr
  simp [encC, bare]
theorem confRow_len (x : Op) (b : List Op) : (confRow x b).length ≤ b.length := by
  unfold confRow; rw [List.length_map]; exact List.length_filter_le _ _
theorem confAll_len : ∀ (a b : List Op), b.length ≤ 40 → (confAll a b).length ≤ 40 * a.length
  | [], b, _ => by simp [confAll]
  | x :: a, b, h => by
    have h1 := confAll_len a b h
    have h2 := confRow_len x b
    have : confAll (x :: a) b = confRow x b ++ confAll a b := by simp [confAll]
    rw [this, List.length_append, List.length_cons]
    omega
set_option maxRecDepth 20000 in
set_option maxHeartbeats 2000000 in
theorem fnExactConflicts_law {dd : List D} (h : ArgsTy [kO, kO] dd) : CL 7 dd [] = some (.bool true, []) := by
  obtain ⟨_, _, rfl, hA, hB⟩ := args2 h
  obtain ⟨a, rfl, hla, hta⟩ := arg_ops hA
  obtain ⟨b, rfl, hlb, htb⟩ := arg_ops hB
  refine callL_W _ _ _ (F := v7) rfl ?_
  have hz := szOpS_c a 1048576 hla hta (by decide) (by decide)
  obtain ⟨e1, e2, e3⟩ := szL_le a 1048576 (by decide)
  generalize szL 1048576 a = n at hz e1 e2 e3
  by_cases h : n < 0
  · rw [e3 h] at hz
    simp only [v7, go_sem, Nat.reduceEqDiff, ↓reduceIte, reduceCtorEq, Nat.reduceAdd, Nat.reduceSub, Nat.reduceLeDiff, Nat.reduceMul, Nat.reduceLT, Int.reduceLT, Int.reduceLE, Int.reduceNeg, Int.cast_ofNat_Int, Int.reduceToNat, Int.toNat_zero, ne_eq, not_false_eq_true, Int.reduceEq, hz, neg1']
  obtain ⟨la, ta⟩ := e2 (by omega)
  have d1 : decide (n < 0) = false := decide_eq_false h
  have hz2 := szOpS_c b n hlb htb (by omega) (by omega)
  obtain ⟨g1, g2, g3⟩ := szL_le b n (by omega)
  generalize szL n b = m at hz2 g1 g2 g3
  by_cases h' : m < 0
  · rw [g3 h'] at hz2
    simp only [v7, go_sem, Nat.reduceEqDiff, ↓reduceIte, reduceCtorEq, Nat.reduceAdd, Nat.reduceSub, Nat.reduceLeDiff, Nat.reduceMul, Nat.reduceLT, Int.reduceLT, Int.reduceLE, Int.reduceNeg, Int.cast_ofNat_Int, Int.reduceToNat, Int.toNat_zero, ne_eq, not_false_eq_true, Int.reduceEq, hz, d1, hz2, neg1']
  obtain ⟨lb, tb⟩ := g2 (by omega)
  have d2 : decide (m < 0) = false := decide_eq_false h'
  have la' : a.length ≤ 1048576 := by omega
  have lb' : b.length ≤ 1048576 := by omega
  have txa : TX a := fun o ho => by have := ta o ho; omega
  have txb : TX b := fun o ho => by have := tb o ho; omega
  have tac := toOpS_c a la'
  have tbc := toOpS_c b lb'
  have ss := Conflicts_s a b la' lb' txa txb
  have sc := Conflicts_c a b la' lb' txa txb
  have eqa := eqOpS_c a a la' la'
  have eqb := eqOpS_c b b lb' lb'
  have hr : (confH a b).length ≤ 1048576 := by
    have := confAll_len (logInH a b false) (logInH b a false) (logInH_len b a false)
    have := logInH_len a b false
    unfold confH; omega
  have eqr := eqConflictS_c (confH a b) (confH a b) hr hr
  simp only [decide_true] at eqa eqb eqr
  generalize confH a b = r at ss sc hr eqr
  have ba := bare_encC 84 r
  have m1 := markO_c a 1 la' (by omega) (by omega)
  have m2 := markO_c b (1 + 12 * (a.length : Nat)) lb' (by omega) (by omega)
  have m3 := markC_c r 1 hr (by omega) (by omega)
  have hd := heldC_c r.length 1 hr (by omega) (by omega)
  have k1 : decide (1 + 12 * (a.length : Int) + 12 * (b.length : Int) < 0) = false := decide_eq_false (by omega)
  have k2 : decide (1 + 4 * (r.length : Int) < 0) = false := decide_eq_false (by omega)
  have tm : List.take r.length (List.map encC (marksC 1 r.length)) = List.map encC (marksC 1 r.length) := List.take_of_length_le (by simp [marksC_len])
  have r1 := callWith_root1 (call := CL) (x := .osl 0 0 a.length) (st := [some (.rw 39 (a.map encO)), some (.rw 39 (b.map encO)), some (.rw 84 (r.map encC))]) rfl rfl rfl rfl m1 rfl rfl
  have r2 := callWith_root1 (call := CL) (x := .osl 1 0 b.length) (st := [some (.rw 39 ((marksO 1 a.length).map encO)), some (.rw 39 (b.map encO)), some (.rw 84 (r.map encC))]) rfl rfl rfl rfl m2 rfl rfl
  have r3 := callWith_root1 (call := CL) (x := .osl 2 0 r.length) (st := [some (.rw 39 ((marksO 1 a.length).map encO)), some (.rw 39 ((marksO (1 + 12 * (a.length : Nat)) b.length).map encO)), some (.rw 84 (r.map encC))]) rfl rfl rfl rfl m3 rfl rfl
  simp only [v7, go_sem, Nat.reduceEqDiff, ↓reduceIte, reduceCtorEq, Nat.reduceAdd, Nat.reduceSub, Nat.reduceLeDiff, Nat.reduceMul, Nat.reduceLT, Int.reduceLT, Int.reduceLE, Int.reduceNeg, Int.cast_ofNat_Int, Int.reduceToNat, Int.toNat_zero, ne_eq, not_false_eq_true, Int.reduceEq, hz, d1, hz2, d2, tac, tbc, ss, sc, eqa, eqb, eqr, ba, r1, r2, r3, k1, k2, hd, tm, marksO_len, marksC_len, List.length_map, bne_self_eq_false, Bool.not_true]
end Go.Vi.Code
