/- Contracts: logs. -/
import Derived.Test.YtcnhokifbgbegaaViO3
set_option linter.unusedSimpArgs false
set_option linter.unusedVariables false
namespace Go.Vi.Code
attribute [local congr] ite_congr
def TX (l : List Op) : Prop := ∀ o ∈ l, o.text.length ≤ 1048576
def logAt (l : List Op) (j : Nat) : Bool := match l[j]? with
  | some g => validOp g && (match j with | 0 => true | k + 1 => match l[k]? with | some f => stampLess f.id g.id | none => true)
  | none => true
def validLog (l : List Op) : Bool := (List.range l.length).all (logAt l) && decide (l.length ≤ 40)
theorem validLog_c (l : List Op) (hl : l.length ≤ 1048576) (ht : TX l) : CL 31 [.sl (l.map encO)] [] = some (.bool (validLog l), []) := by
  refine callL_W _ _ _ (F := v31) rfl ?_
  simp only [v31, go_sem, Nat.reduceEqDiff, ↓reduceIte, reduceCtorEq, Nat.reduceAdd, Nat.reduceSub, Nat.reduceLeDiff, Nat.reduceMul, Nat.reduceLT, Int.reduceLT, Int.reduceLE, Int.reduceNeg]
  refine W_rounds (T := Nat) (fun i => ⟨ofL [(0, .sl (l.map encO)), (5, .sl (l.map encO)), (6, .int .i64 l.length), (7, .int .i64 i)], [], 0⟩) (fun i => i ≤ l.length ∧ ∀ j, j < i → logAt l j = true) (fun i => l.length - i) 0 rfl rfl ⟨by omega, by omega⟩ ?_
  rintro i ⟨hi, he⟩ Q1 IH OUT
  by_cases h : i < l.length
  · have c1 : decide ((i : Int) < l.length) = true := decide_eq_true (by omega)
    have c2 : (0 : Int) ≤ i := by omega
    have hr : (List.map encO l)[i]? = some (encO l[i]) := by simp [h]
    have hw : IntKind.i64.wrap ((i : Int) + 1) = ((i + 1 : Nat) : Int) := by rw [wrap_small _ (by omega) (by omega)]; rfl
    have fin : logAt l i = true → ∀ σ', renorm [0, 5, 6, 7] σ' = ⟨ofL [(0, .sl (l.map encO)), (5, .sl (l.map encO)), (6, .int .i64 l.length), (7, .int .i64 ((i + 1 : Nat) : Int))], [], 0⟩ → rootsLive σ'.m σ'.st = true → Q1 .normal σ' := fun hg σ' h1 h2 =>
      IH (i + 1) σ' ⟨by omega, fun j hj => by rcases Nat.lt_succ_iff_lt_or_eq.1 hj with h3 | h3; exact he j h3; rw [h3]; exact hg⟩ (by omega) h1 h2
    have bad : logAt l i = false → ∀ σ', σ'.env 2 = .bool false → σ'.m = 0 → Q1 .ret σ' := fun hg σ' h1 h2 => OUT _ _ (by simp) (by
      simp only [go_sem, Nat.reduceEqDiff, ↓reduceIte, reduceCtorEq, Nat.reduceAdd, Nat.reduceSub, Nat.reduceLeDiff, Nat.reduceMul, Nat.reduceLT, Int.reduceLT, Int.reduceLE, Int.reduceNeg, h1]
      simp only [validLog, all_range_of h hg, Bool.false_and])
    have hg : l[i]? = some l[i] := by simp [h]
    have htx := ht _ (List.getElem_mem h)
    generalize hgi : l[i] = g at hr hg htx
    obtain ⟨⟨s1, s2⟩, k, ⟨t1, t2⟩, ⟨f1, f2⟩, ⟨p1, p2⟩, vl, en, tx⟩ := g
    have hvo := validOp_c s1 s2 k t1 t2 f1 f2 p1 p2 vl en tx htx
    by_cases hv : validOp ⟨⟨s1, s2⟩, k, ⟨t1, t2⟩, ⟨f1, f2⟩, ⟨p1, p2⟩, vl, en, tx⟩ = true
    case neg =>
      have hv' : validOp ⟨⟨s1, s2⟩, k, ⟨t1, t2⟩, ⟨f1, f2⟩, ⟨p1, p2⟩, vl, en, tx⟩ = false := by simpa using hv
      have hf : logAt l i = false := by simp only [logAt, hg, hv', Bool.false_and]
      simp only [go_sem, Nat.reduceEqDiff, ↓reduceIte, reduceCtorEq, Nat.reduceAdd, Nat.reduceSub, Nat.reduceLeDiff, Nat.reduceMul, Nat.reduceLT, Int.reduceLT, Int.reduceLE, Int.reduceNeg, Int.cast_ofNat_Int, Int.reduceToNat, Int.toNat_zero, ne_eq, not_false_eq_true, Int.reduceEq, c1, c2, hr, hw, encO, hvo, hv', Bool.not_false]
      exact bad hf _ rfl rfl
    rcases i with _ | i
    · have c3 : decide (((0 : Nat) : Int) > 0) = false := by simp
      have hf : logAt l 0 = true := by simp only [logAt, hg, hv, Bool.true_and]
      simp only [go_sem, Nat.reduceEqDiff, ↓reduceIte, reduceCtorEq, Nat.reduceAdd, Nat.reduceSub, Nat.reduceLeDiff, Nat.reduceMul, Nat.reduceLT, Int.reduceLT, Int.reduceLE, Int.reduceNeg, c1, c2, c3, hr, hw, encO, hvo, hv, Bool.not_true]
      exact fin hf _ (by rw [renorm_eq]; simp only [List.map_cons, List.map_nil, go_sem, Nat.reduceEqDiff, ↓reduceIte, reduceCtorEq, Nat.reduceAdd, Nat.reduceSub, Nat.reduceLeDiff, Nat.reduceMul, Nat.reduceLT, Int.reduceLT, Int.reduceLE, Int.reduceNeg]; rfl) rfl
    · have c3 : decide (((i + 1 : Nat) : Int) > 0) = true := decide_eq_true (by omega)
      have c4 : IntKind.i64.wrap (((i + 1 : Nat) : Int) - 1) = (i : Int) := by rw [wrap_small _ (by omega) (by omega)]; omega
      have c5 : (0 : Int) ≤ i := by omega
      have hg2 : l[i]? = some l[i] := by simp [show i < l.length by omega]
      have hr2 : (List.map encO l)[i]? = some (encO l[i]) := by simp [show i < l.length by omega]
      generalize l[i] = g2 at hg2 hr2
      obtain ⟨⟨q1, q2⟩, k', ⟨t1', t2'⟩, ⟨f1', f2'⟩, ⟨p1', p2'⟩, vl', en', tx'⟩ := g2
      by_cases hs : stampLess ⟨q1, q2⟩ ⟨s1, s2⟩ = true
      · have hf : logAt l (i + 1) = true := by simp only [logAt, hg, hg2, hv, hs, Bool.true_and]
        simp only [go_sem, Nat.reduceEqDiff, ↓reduceIte, reduceCtorEq, Nat.reduceAdd, Nat.reduceSub, Nat.reduceLeDiff, Nat.reduceMul, Nat.reduceLT, Int.reduceLT, Int.reduceLE, Int.reduceNeg, c1, c2, c3, c4, c5, hr, hr2, hw, encO, hvo, hv, stampLess_c, hs, Bool.not_true]
        exact fin hf _ (by rw [renorm_eq]; simp only [List.map_cons, List.map_nil, go_sem, Nat.reduceEqDiff, ↓reduceIte, reduceCtorEq, Nat.reduceAdd, Nat.reduceSub, Nat.reduceLeDiff, Nat.reduceMul, Nat.reduceLT, Int.reduceLT, Int.reduceLE, Int.reduceNeg]; rfl) rfl
      · have hs' : stampLess ⟨q1, q2⟩ ⟨s1, s2⟩ = false := by simpa using hs
        have hf : logAt l (i + 1) = false := by simp only [logAt, hg, hg2, hv, hs', Bool.and_false]
        simp only [go_sem, Nat.reduceEqDiff, ↓reduceIte, reduceCtorEq, Nat.reduceAdd, Nat.reduceSub, Nat.reduceLeDiff, Nat.reduceMul, Nat.reduceLT, Int.reduceLT, Int.reduceLE, Int.reduceNeg, c1, c2, c3, c4, c5, hr, hr2, hw, encO, hvo, hv, stampLess_c, hs', Bool.not_true, Bool.not_false]
        exact bad hf _ rfl rfl
  · have c1 : decide ((i : Int) < l.length) = false := decide_eq_false (by omega)
    have hil : i = l.length := by omega
    simp only [go_sem, Nat.reduceEqDiff, ↓reduceIte, reduceCtorEq, Nat.reduceAdd, Nat.reduceSub, Nat.reduceLeDiff, Nat.reduceMul, Nat.reduceLT, Int.reduceLT, Int.reduceLE, Int.reduceNeg, c1]
    refine OUT _ _ (by simp) ?_
    simp only [go_sem, Nat.reduceEqDiff, ↓reduceIte, reduceCtorEq, Nat.reduceAdd, Nat.reduceSub, Nat.reduceLeDiff, Nat.reduceMul, Nat.reduceLT, Int.reduceLT, Int.reduceLE, Int.reduceNeg]
    have : (List.range l.length).all (logAt l) = true := by
      rw [List.all_eq_true]
      intro j hj
      exact he j (by rw [hil]; exact List.mem_range.1 hj)
    simp only [validLog, this, Bool.true_and, show decide ((l.length : Int) ≤ 40) = decide (l.length ≤ 40) from decide_eq_decide.2 (by omega)]
theorem validLog_s (l : List Op) (hl : l.length ≤ 1048576) (ht : TX l) : CL 54 [.sl (l.map encO)] [] = some (.bool (validLog l), []) := by
  refine callL_W _ _ _ (F := v54) rfl ?_
  simp only [v54, go_sem, Nat.reduceEqDiff, ↓reduceIte, reduceCtorEq, Nat.reduceAdd, Nat.reduceSub, Nat.reduceLeDiff, Nat.reduceMul, Nat.reduceLT, Int.reduceLT, Int.reduceLE, Int.reduceNeg]
  refine W_rounds (T := Nat) (fun i => ⟨ofL [(0, .sl (l.map encO)), (3, .int .i64 i)], [], 0⟩) (fun i => i ≤ l.length ∧ ∀ j, j < i → logAt l j = true) (fun i => l.length - i) 0 rfl rfl ⟨by omega, by omega⟩ ?_
  rintro i ⟨hi, he⟩ Q1 IH OUT
  by_cases h : i < l.length
  · have c1 : decide ((i : Int) < l.length) = true := decide_eq_true (by omega)
    have c2 : (0 : Int) ≤ i := by omega
    have hr : (List.map encO l)[i]? = some (encO l[i]) := by simp [h]
    have hw : IntKind.i64.wrap ((i : Int) + 1) = ((i + 1 : Nat) : Int) := by rw [wrap_small _ (by omega) (by omega)]; rfl
    have fin : logAt l i = true → ∀ σ', renorm [0, 3] σ' = ⟨ofL [(0, .sl (l.map encO)), (3, .int .i64 ((i + 1 : Nat) : Int))], [], 0⟩ → rootsLive σ'.m σ'.st = true → Q1 .normal σ' := fun hg σ' h1 h2 =>
      IH (i + 1) σ' ⟨by omega, fun j hj => by rcases Nat.lt_succ_iff_lt_or_eq.1 hj with h3 | h3; exact he j h3; rw [h3]; exact hg⟩ (by omega) h1 h2
    have bad : logAt l i = false → ∀ σ', σ'.env 2 = .bool false → σ'.m = 0 → Q1 .ret σ' := fun hg σ' h1 h2 => OUT _ _ (by simp) (by
      simp only [go_sem, Nat.reduceEqDiff, ↓reduceIte, reduceCtorEq, Nat.reduceAdd, Nat.reduceSub, Nat.reduceLeDiff, Nat.reduceMul, Nat.reduceLT, Int.reduceLT, Int.reduceLE, Int.reduceNeg, h1]
      simp only [validLog, all_range_of h hg, Bool.false_and])
    have hg : l[i]? = some l[i] := by simp [h]
    have htx := ht _ (List.getElem_mem h)
    generalize hgi : l[i] = g at hr hg htx
    obtain ⟨⟨s1, s2⟩, k, ⟨t1, t2⟩, ⟨f1, f2⟩, ⟨p1, p2⟩, vl, en, tx⟩ := g
    have hvo := validOp_s s1 s2 k t1 t2 f1 f2 p1 p2 vl en tx htx
    by_cases hv : validOp ⟨⟨s1, s2⟩, k, ⟨t1, t2⟩, ⟨f1, f2⟩, ⟨p1, p2⟩, vl, en, tx⟩ = true
    case neg =>
      have hv' : validOp ⟨⟨s1, s2⟩, k, ⟨t1, t2⟩, ⟨f1, f2⟩, ⟨p1, p2⟩, vl, en, tx⟩ = false := by simpa using hv
      have hf : logAt l i = false := by simp only [logAt, hg, hv', Bool.false_and]
      simp only [go_sem, Nat.reduceEqDiff, ↓reduceIte, reduceCtorEq, Nat.reduceAdd, Nat.reduceSub, Nat.reduceLeDiff, Nat.reduceMul, Nat.reduceLT, Int.reduceLT, Int.reduceLE, Int.reduceNeg, Int.cast_ofNat_Int, Int.reduceToNat, Int.toNat_zero, ne_eq, not_false_eq_true, Int.reduceEq, c1, c2, hr, hw, encO, hvo, hv', Bool.not_false]
      exact bad hf _ rfl rfl
    rcases i with _ | i
    · have c3 : decide (((0 : Nat) : Int) > 0) = false := by simp
      have hf : logAt l 0 = true := by simp only [logAt, hg, hv, Bool.true_and]
      simp only [go_sem, Nat.reduceEqDiff, ↓reduceIte, reduceCtorEq, Nat.reduceAdd, Nat.reduceSub, Nat.reduceLeDiff, Nat.reduceMul, Nat.reduceLT, Int.reduceLT, Int.reduceLE, Int.reduceNeg, c1, c2, c3, hr, hw, encO, hvo, hv, Bool.not_true]
      exact fin hf _ (by rw [renorm_eq]; simp only [List.map_cons, List.map_nil, go_sem, Nat.reduceEqDiff, ↓reduceIte, reduceCtorEq, Nat.reduceAdd, Nat.reduceSub, Nat.reduceLeDiff, Nat.reduceMul, Nat.reduceLT, Int.reduceLT, Int.reduceLE, Int.reduceNeg]; rfl) rfl
    · have c3 : decide (((i + 1 : Nat) : Int) > 0) = true := decide_eq_true (by omega)
      have c4 : IntKind.i64.wrap (((i + 1 : Nat) : Int) - 1) = (i : Int) := by rw [wrap_small _ (by omega) (by omega)]; omega
      have c5 : (0 : Int) ≤ i := by omega
      have hg2 : l[i]? = some l[i] := by simp [show i < l.length by omega]
      have hr2 : (List.map encO l)[i]? = some (encO l[i]) := by simp [show i < l.length by omega]
      generalize l[i] = g2 at hg2 hr2
      obtain ⟨⟨q1, q2⟩, k', ⟨t1', t2'⟩, ⟨f1', f2'⟩, ⟨p1', p2'⟩, vl', en', tx'⟩ := g2
      by_cases hs : stampLess ⟨q1, q2⟩ ⟨s1, s2⟩ = true
      · have hf : logAt l (i + 1) = true := by simp only [logAt, hg, hg2, hv, hs, Bool.true_and]
        simp only [go_sem, Nat.reduceEqDiff, ↓reduceIte, reduceCtorEq, Nat.reduceAdd, Nat.reduceSub, Nat.reduceLeDiff, Nat.reduceMul, Nat.reduceLT, Int.reduceLT, Int.reduceLE, Int.reduceNeg, c1, c2, c3, c4, c5, hr, hr2, hw, encO, hvo, hv, stampLess_s, hs, Bool.not_true]
        exact fin hf _ (by rw [renorm_eq]; simp only [List.map_cons, List.map_nil, go_sem, Nat.reduceEqDiff, ↓reduceIte, reduceCtorEq, Nat.reduceAdd, Nat.reduceSub, Nat.reduceLeDiff, Nat.reduceMul, Nat.reduceLT, Int.reduceLT, Int.reduceLE, Int.reduceNeg]; rfl) rfl
      · have hs' : stampLess ⟨q1, q2⟩ ⟨s1, s2⟩ = false := by simpa using hs
        have hf : logAt l (i + 1) = false := by simp only [logAt, hg, hg2, hv, hs', Bool.and_false]
        simp only [go_sem, Nat.reduceEqDiff, ↓reduceIte, reduceCtorEq, Nat.reduceAdd, Nat.reduceSub, Nat.reduceLeDiff, Nat.reduceMul, Nat.reduceLT, Int.reduceLT, Int.reduceLE, Int.reduceNeg, c1, c2, c3, c4, c5, hr, hr2, hw, encO, hvo, hv, stampLess_s, hs', Bool.not_true, Bool.not_false]
        exact bad hf _ rfl rfl
  · have c1 : decide ((i : Int) < l.length) = false := decide_eq_false (by omega)
    have hil : i = l.length := by omega
    simp only [go_sem, Nat.reduceEqDiff, ↓reduceIte, reduceCtorEq, Nat.reduceAdd, Nat.reduceSub, Nat.reduceLeDiff, Nat.reduceMul, Nat.reduceLT, Int.reduceLT, Int.reduceLE, Int.reduceNeg, c1]
    refine OUT _ _ (by simp) ?_
    simp only [go_sem, Nat.reduceEqDiff, ↓reduceIte, reduceCtorEq, Nat.reduceAdd, Nat.reduceSub, Nat.reduceLeDiff, Nat.reduceMul, Nat.reduceLT, Int.reduceLT, Int.reduceLE, Int.reduceNeg]
    have : (List.range l.length).all (logAt l) = true := by
      rw [List.all_eq_true]
      intro j hj
      exact he j (by rw [hil]; exact List.mem_range.1 hj)
    simp only [validLog, this, Bool.true_and, show decide ((l.length : Int) ≤ 40) = decide (l.length ≤ 40) from decide_eq_decide.2 (by omega)]

/-- Where the first operation of this name lies. -/
def fidx : List Op → Stamp → Option Nat
  | [], _ => none
  | o :: l, t => if o.id = t then some 0 else (fidx l t).map (· + 1)
def fI : Option Nat → Int | some k => k | none => -1
theorem fidx_some : ∀ (l : List Op) (t : Stamp) (i : Nat) (h : i < l.length), (∀ j (hj : j < l.length), j < i → l[j].id ≠ t) → l[i].id = t → fidx l t = some i
  | o :: l, t, 0, h, _, h2 => by simp only [fidx]; rw [if_pos (show o.id = t from h2)]
  | o :: l, t, i + 1, h, h1, h2 => by
    have h0 : o.id ≠ t := h1 0 (by simp) (by omega)
    simp only [fidx]
    rw [if_neg h0, fidx_some l t i (by simpa using h) (fun j hj hji => h1 (j + 1) (by simpa using hj) (by omega)) h2]; rfl
theorem fidx_none : ∀ (l : List Op) (t : Stamp), (∀ j (hj : j < l.length), l[j].id ≠ t) → fidx l t = none
  | [], _, _ => rfl
  | o :: l, t, h => by
    simp only [fidx]
    rw [if_neg (show ¬ o.id = t from h 0 (by simp)), fidx_none l t fun j hj => h (j + 1) (by simpa using hj)]; rfl
theorem fidx_lt : ∀ {l : List Op} {t : Stamp} {k : Nat}, fidx l t = some k → k < l.length
  | o :: l, t, k, h => by
    simp only [fidx] at h
    split at h
    · injection h with h; subst h; simp
    · obtain ⟨j, hj, rfl⟩ := Option.map_eq_some_iff.1 h
      have := fidx_lt hj
      simp; omega
theorem opAt_c (l : List Op) (hl : l.length ≤ 1048576) (a1 a2 : Int) : CL 73 [.sl (l.map encO), .agg [.int .i64 a1, .int .i64 a2]] [] = some (.int .i64 (fI (fidx l ⟨a1, a2⟩)), []) := by
  refine callL_W _ _ _ (F := v73) rfl ?_
  simp only [v73, go_sem, Nat.reduceEqDiff, ↓reduceIte, reduceCtorEq, Nat.reduceAdd, Nat.reduceSub, Nat.reduceLeDiff, Nat.reduceMul, Nat.reduceLT, Int.reduceLT, Int.reduceLE, Int.reduceNeg]
  refine W_rounds (T := Nat) (fun i => ⟨ofL [(3, .ptr 0 0), (7, .sl (l.map encO)), (8, .int .i64 l.length), (9, .int .i64 i)], [some (.bx [.int .i64 a1, .int .i64 a2])], 0⟩) (fun i => i ≤ l.length ∧ ∀ j (h : j < l.length), j < i → l[j].id ≠ ⟨a1, a2⟩) (fun i => l.length - i) 0 rfl rfl ⟨Nat.zero_le _, fun j h h0 => by omega⟩ ?_
  rintro i ⟨hi, hlt⟩ Q1 IH OUT
  by_cases h : i < l.length
  · have c1 : decide ((i : Int) < l.length) = true := decide_eq_true (by omega)
    have c2 : (0 : Int) ≤ i := by omega
    have hr : (List.map encO l)[i]? = some (encO l[i]) := by simp [h]
    have hw : IntKind.i64.wrap ((i : Int) + 1) = ((i + 1 : Nat) : Int) := by rw [wrap_small _ (by omega) (by omega)]; rfl
    have hlt' := fun (hs : l[i].id ≠ ⟨a1, a2⟩) j (hj : j < l.length) (hji : j < i + 1) => (show l[j].id ≠ ⟨a1, a2⟩ from by
      rcases Nat.lt_succ_iff_lt_or_eq.1 hji with h3 | h3
      · exact hlt j hj h3
      · subst h3; exact hs)
    have hf := fidx_some l ⟨a1, a2⟩ i h hlt
    generalize l[i] = g at hr hlt' hf
    obtain ⟨⟨s1, s2⟩, k, ⟨t1, t2⟩, ⟨f1, f2⟩, ⟨p1, p2⟩, vl, en, tx⟩ := g
    by_cases he : s1 = a1 ∧ s2 = a2
    · obtain ⟨rfl, rfl⟩ := he
      simp only [go_sem, Nat.reduceEqDiff, ↓reduceIte, reduceCtorEq, Nat.reduceAdd, Nat.reduceSub, Nat.reduceLeDiff, Nat.reduceMul, Nat.reduceLT, Int.reduceLT, Int.reduceLE, Int.reduceNeg, Int.cast_ofNat_Int, Int.reduceToNat, Int.toNat_zero, ne_eq, not_false_eq_true, Int.reduceEq, c1, c2, hr, hw, encO, beq_self_eq_true]
      refine OUT _ _ (by simp) ?_
      simp only [go_sem, Nat.reduceEqDiff, ↓reduceIte, reduceCtorEq, Nat.reduceAdd, Nat.reduceSub, Nat.reduceLeDiff, Nat.reduceMul, Nat.reduceLT, Int.reduceLT, Int.reduceLE, Int.reduceNeg, Int.cast_ofNat_Int, Int.reduceToNat, Int.toNat_zero, ne_eq, not_false_eq_true, Int.reduceEq]
      rw [hf rfl]; rfl
    · have b1 : (s1 == a1 && (s2 == a2)) = false := by rw [Bool.eq_false_iff]; simpa using he
      have b2 : (s1 == a1 && (s2 == a2 && true)) = false := by rw [Bool.eq_false_iff]; simpa using he
      simp only [go_sem, Nat.reduceEqDiff, ↓reduceIte, reduceCtorEq, Nat.reduceAdd, Nat.reduceSub, Nat.reduceLeDiff, Nat.reduceMul, Nat.reduceLT, Int.reduceLT, Int.reduceLE, Int.reduceNeg, Int.cast_ofNat_Int, Int.reduceToNat, Int.toNat_zero, ne_eq, not_false_eq_true, Int.reduceEq, c1, c2, hr, hw, encO, b1, b2]
      exact IH (i + 1) _ ⟨by omega, hlt' (fun e => he (by injection e with e1 e2; exact ⟨e1, e2⟩))⟩ (by omega) (by rw [renorm_eq]; simp only [List.map_cons, List.map_nil, go_sem, Nat.reduceEqDiff, ↓reduceIte, reduceCtorEq, Nat.reduceAdd, Nat.reduceSub, Nat.reduceLeDiff, Nat.reduceMul, Nat.reduceLT, Int.reduceLT, Int.reduceLE, Int.reduceNeg]; rfl) rfl
  · have c1 : decide ((i : Int) < l.length) = false := decide_eq_false (by omega)
    simp only [go_sem, Nat.reduceEqDiff, ↓reduceIte, reduceCtorEq, Nat.reduceAdd, Nat.reduceSub, Nat.reduceLeDiff, Nat.reduceMul, Nat.reduceLT, Int.reduceLT, Int.reduceLE, Int.reduceNeg, c1]
    refine OUT _ _ (by simp) ?_
    simp only [go_sem, Nat.reduceEqDiff, ↓reduceIte, reduceCtorEq, Nat.reduceAdd, Nat.reduceSub, Nat.reduceLeDiff, Nat.reduceMul, Nat.reduceLT, Int.reduceLT, Int.reduceLE, Int.reduceNeg]
    rw [fidx_none l _ fun j hj => hlt j hj (by omega)]; rfl
theorem findOp_s (l : List Op) (hl : l.length ≤ 1048576) (a1 a2 : Int) : CL 74 [.sl (l.map encO), .agg [.int .i64 a1, .int .i64 a2]] [] = some (.int .i64 (fI (fidx l ⟨a1, a2⟩)), []) := by
  refine callL_W _ _ _ (F := v74) rfl ?_
  simp only [v74, go_sem, Nat.reduceEqDiff, ↓reduceIte, reduceCtorEq, Nat.reduceAdd, Nat.reduceSub, Nat.reduceLeDiff, Nat.reduceMul, Nat.reduceLT, Int.reduceLT, Int.reduceLE, Int.reduceNeg]
  refine W_rounds (T := Nat) (fun i => ⟨ofL [(0, .sl (l.map encO)), (3, .ptr 0 0), (5, .int .i64 i)], [some (.bx [.int .i64 a1, .int .i64 a2])], 0⟩) (fun i => i ≤ l.length ∧ ∀ j (h : j < l.length), j < i → l[j].id ≠ ⟨a1, a2⟩) (fun i => l.length - i) 0 rfl rfl ⟨Nat.zero_le _, fun j h h0 => by omega⟩ ?_
  rintro i ⟨hi, hlt⟩ Q1 IH OUT
  by_cases h : i < l.length
  · have c1 : decide ((i : Int) < l.length) = true := decide_eq_true (by omega)
    have c2 : (0 : Int) ≤ i := by omega
    have hr : (List.map encO l)[i]? = some (encO l[i]) := by simp [h]
    have hw : IntKind.i64.wrap ((i : Int) + 1) = ((i + 1 : Nat) : Int) := by rw [wrap_small _ (by omega) (by omega)]; rfl
    have hlt' := fun (hs : l[i].id ≠ ⟨a1, a2⟩) j (hj : j < l.length) (hji : j < i + 1) => (show l[j].id ≠ ⟨a1, a2⟩ from by
      rcases Nat.lt_succ_iff_lt_or_eq.1 hji with h3 | h3
      · exact hlt j hj h3
      · subst h3; exact hs)
    have hf := fidx_some l ⟨a1, a2⟩ i h hlt
    generalize l[i] = g at hr hlt' hf
    obtain ⟨⟨s1, s2⟩, k, ⟨t1, t2⟩, ⟨f1, f2⟩, ⟨p1, p2⟩, vl, en, tx⟩ := g
    by_cases he : s1 = a1 ∧ s2 = a2
    · obtain ⟨rfl, rfl⟩ := he
      simp only [go_sem, Nat.reduceEqDiff, ↓reduceIte, reduceCtorEq, Nat.reduceAdd, Nat.reduceSub, Nat.reduceLeDiff, Nat.reduceMul, Nat.reduceLT, Int.reduceLT, Int.reduceLE, Int.reduceNeg, Int.cast_ofNat_Int, Int.reduceToNat, Int.toNat_zero, ne_eq, not_false_eq_true, Int.reduceEq, c1, c2, hr, hw, encO, beq_self_eq_true]
      refine OUT _ _ (by simp) ?_
      simp only [go_sem, Nat.reduceEqDiff, ↓reduceIte, reduceCtorEq, Nat.reduceAdd, Nat.reduceSub, Nat.reduceLeDiff, Nat.reduceMul, Nat.reduceLT, Int.reduceLT, Int.reduceLE, Int.reduceNeg, Int.cast_ofNat_Int, Int.reduceToNat, Int.toNat_zero, ne_eq, not_false_eq_true, Int.reduceEq]
      rw [hf rfl]; rfl
    · have b1 : (s1 == a1 && (s2 == a2)) = false := by rw [Bool.eq_false_iff]; simpa using he
      have b2 : (s1 == a1 && (s2 == a2 && true)) = false := by rw [Bool.eq_false_iff]; simpa using he
      simp only [go_sem, Nat.reduceEqDiff, ↓reduceIte, reduceCtorEq, Nat.reduceAdd, Nat.reduceSub, Nat.reduceLeDiff, Nat.reduceMul, Nat.reduceLT, Int.reduceLT, Int.reduceLE, Int.reduceNeg, Int.cast_ofNat_Int, Int.reduceToNat, Int.toNat_zero, ne_eq, not_false_eq_true, Int.reduceEq, c1, c2, hr, hw, encO, b1, b2]
      exact IH (i + 1) _ ⟨by omega, hlt' (fun e => he (by injection e with e1 e2; exact ⟨e1, e2⟩))⟩ (by omega) (by rw [renorm_eq]; simp only [List.map_cons, List.map_nil, go_sem, Nat.reduceEqDiff, ↓reduceIte, reduceCtorEq, Nat.reduceAdd, Nat.reduceSub, Nat.reduceLeDiff, Nat.reduceMul, Nat.reduceLT, Int.reduceLT, Int.reduceLE, Int.reduceNeg]; rfl) rfl
  · have c1 : decide ((i : Int) < l.length) = false := decide_eq_false (by omega)
    simp only [go_sem, Nat.reduceEqDiff, ↓reduceIte, reduceCtorEq, Nat.reduceAdd, Nat.reduceSub, Nat.reduceLeDiff, Nat.reduceMul, Nat.reduceLT, Int.reduceLT, Int.reduceLE, Int.reduceNeg, c1]
    refine OUT _ _ (by simp) ?_
    simp only [go_sem, Nat.reduceEqDiff, ↓reduceIte, reduceCtorEq, Nat.reduceAdd, Nat.reduceSub, Nat.reduceLeDiff, Nat.reduceMul, Nat.reduceLT, Int.reduceLT, Int.reduceLE, Int.reduceNeg]
    rw [fidx_none l _ fun j hj => hlt j hj (by omega)]; rfl
end Go.Vi.Code
