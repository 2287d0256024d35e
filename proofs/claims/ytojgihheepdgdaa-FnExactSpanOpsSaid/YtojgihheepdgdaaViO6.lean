/- Contracts: SameHistory, LogContains; their laws. -/
import Derived.Test.YtojgihheepdgdaaViO5
set_option linter.unusedSimpArgs false
set_option linter.unusedVariables false
namespace Go.Vi.Code
section
variable (a1 a2 a3 a4 a5 a6 a7 a8 a9 b1 c1 c2 c3 c4 c5 c6 c7 c8 c9 d1 : Int) (b3 d3 : Bool) (b4 d4 : List UInt8)
theorem eqO_t : (a1 == c1 && (a2 == c2 && (a3 == c3 && (a4 == c4 && (a5 == c5 && (a6 == c6 && (a7 == c7 && (a8 == c8 && (a9 == c9 && (b1 == d1 && (b3 == d3 && (b4 == d4 && true)))))))))))) =
    decide ((⟨⟨a1, a2⟩, a3, ⟨a4, a5⟩, ⟨a6, a7⟩, ⟨a8, a9⟩, b1, b3, b4⟩ : Op) = ⟨⟨c1, c2⟩, c3, ⟨c4, c5⟩, ⟨c6, c7⟩, ⟨c8, c9⟩, d1, d3, d4⟩) := by
  rw [Bool.eq_iff_iff]
  simp only [Bool.and_eq_true, beq_iff_eq, decide_eq_true_eq, Op.mk.injEq, Stamp.mk.injEq, and_true, and_assoc]
theorem eqO_n : (a1 == c1 && (a2 == c2 && (a3 == c3 && (a4 == c4 && (a5 == c5 && (a6 == c6 && (a7 == c7 && (a8 == c8 && (a9 == c9 && (b1 == d1 && (b3 == d3 && (b4 == d4)))))))))))) =
    decide ((⟨⟨a1, a2⟩, a3, ⟨a4, a5⟩, ⟨a6, a7⟩, ⟨a8, a9⟩, b1, b3, b4⟩ : Op) = ⟨⟨c1, c2⟩, c3, ⟨c4, c5⟩, ⟨c6, c7⟩, ⟨c8, c9⟩, d1, d3, d4⟩) := by
  rw [← eqO_t, Bool.and_true]
end
def inL (l : List Op) (o : Op) : Bool := match fidx l o.id with | some k => decide (l[k]? = some o) | none => false
def sameO (l : List Op) (o : Op) : Bool := match fidx l o.id with | some k => decide (l[k]? = some o) | none => true
theorem neg1 : decide ((-1 : Int) ≥ 0) = false := by decide
theorem neg1' : decide ((-1 : Int) < 0) = true := by decide
theorem isIn_c (l : List Op) (hl : l.length ≤ 1048576) (a1 a2 a3 a4 a5 a6 a7 a8 a9 b1 : Int) (b3 : Bool) (b4 : List UInt8) : CL 74 [.agg [.int .i64 a1, .int .i64 a2, .int .i64 a3, .int .i64 a4, .int .i64 a5, .int .i64 a6, .int .i64 a7, .int .i64 a8, .int .i64 a9, .int .i64 b1, .bool b3, .str b4], .sl (l.map encO)] [] =
    some (.bool (inL l ⟨⟨a1, a2⟩, a3, ⟨a4, a5⟩, ⟨a6, a7⟩, ⟨a8, a9⟩, b1, b3, b4⟩), []) := by
  refine callL_W _ _ _ (F := v74) rfl ?_
  have ho := opAt_c l hl a1 a2
  unfold inL
  simp only
  cases hf : fidx l ⟨a1, a2⟩ with
  | none =>
    rw [hf, show fI none = -1 from rfl] at ho
    simp only [v74, go_sem, Nat.reduceEqDiff, ↓reduceIte, reduceCtorEq, Nat.reduceAdd, Nat.reduceSub, Nat.reduceLeDiff, Nat.reduceMul, Nat.reduceLT, Int.reduceLT, Int.reduceLE, Int.reduceNeg, Int.cast_ofNat_Int, Int.reduceToNat, Int.toNat_zero, ne_eq, not_false_eq_true, Int.reduceEq, ho, neg1]
  | some k =>
    have hk := fidx_lt hf
    rw [hf, show fI (some k) = (k : Int) from rfl] at ho
    have d : decide ((k : Int) ≥ 0) = true := decide_eq_true (by omega)
    have ck : (0 : Int) ≤ k := by omega
    have hr : (List.map encO l)[k]? = some (encO l[k]) := by simp [hk]
    have hg : l[k]? = some l[k] := List.getElem?_eq_getElem hk
    generalize l[k] = g at hr hg
    obtain ⟨⟨s1, s2⟩, kd, ⟨t1, t2⟩, ⟨f1, f2⟩, ⟨p1, p2⟩, vl, en, tx⟩ := g
    simp only [v74, go_sem, Nat.reduceEqDiff, ↓reduceIte, reduceCtorEq, Nat.reduceAdd, Nat.reduceSub, Nat.reduceLeDiff, Nat.reduceMul, Nat.reduceLT, Int.reduceLT, Int.reduceLE, Int.reduceNeg, Int.cast_ofNat_Int, Int.reduceToNat, Int.toNat_zero, ne_eq, not_false_eq_true, Int.reduceEq, ho, d, ck, hr, encO, eqO_t, eqO_n]
    simp only [hg, Option.some.injEq]
theorem same_step (l : List Op) (o : Op) (k : Nat) (hf : fidx l o.id = some k) (g : Op) (hg : l[k]? = some g) : sameO l o = decide (g = o) := by
  unfold sameO; rw [hf]; simp only [hg, Option.some.injEq]
theorem in_step (l : List Op) (o : Op) (k : Nat) (hf : fidx l o.id = some k) (g : Op) (hg : l[k]? = some g) : inL l o = decide (g = o) := by
  unfold inL; rw [hf]; simp only [hg, Option.some.injEq]
def sameH (a b : List Op) : Bool := validLog a && (validLog b && a.all (sameO b))
def contH (a b : List Op) : Bool := validLog a && (validLog b && b.all (inL a))
theorem sameHistory_c (a b : List Op) (ha : a.length ≤ 1048576) (hb : b.length ≤ 1048576) (ta : TX a) (tb : TX b) : CL 40 [.sl (a.map encO), .sl (b.map encO)] [] = some (.bool (sameH a b), []) := by
  refine callL_W _ _ _ (F := v40) rfl ?_
  have va := validLog_c a ha ta
  have vb := validLog_c b hb tb
  by_cases v1 : validLog a = true
  case neg =>
    have v1' : validLog a = false := by simpa using v1
    simp only [v40, go_sem, Nat.reduceEqDiff, ↓reduceIte, reduceCtorEq, Nat.reduceAdd, Nat.reduceSub, Nat.reduceLeDiff, Nat.reduceMul, Nat.reduceLT, Int.reduceLT, Int.reduceLE, Int.reduceNeg, Int.cast_ofNat_Int, Int.reduceToNat, Int.toNat_zero, ne_eq, not_false_eq_true, Int.reduceEq, va, v1', Bool.not_false]
    simp only [sameH, v1', Bool.false_and]
  by_cases v2 : validLog b = true
  case neg =>
    have v2' : validLog b = false := by simpa using v2
    simp only [v40, go_sem, Nat.reduceEqDiff, ↓reduceIte, reduceCtorEq, Nat.reduceAdd, Nat.reduceSub, Nat.reduceLeDiff, Nat.reduceMul, Nat.reduceLT, Int.reduceLT, Int.reduceLE, Int.reduceNeg, Int.cast_ofNat_Int, Int.reduceToNat, Int.toNat_zero, ne_eq, not_false_eq_true, Int.reduceEq, va, v1, vb, v2', Bool.not_true, Bool.not_false]
    simp only [sameH, v1, v2', Bool.false_and, Bool.and_false]
  simp only [v40, go_sem, Nat.reduceEqDiff, ↓reduceIte, reduceCtorEq, Nat.reduceAdd, Nat.reduceSub, Nat.reduceLeDiff, Nat.reduceMul, Nat.reduceLT, Int.reduceLT, Int.reduceLE, Int.reduceNeg, Int.cast_ofNat_Int, Int.reduceToNat, Int.toNat_zero, ne_eq, not_false_eq_true, Int.reduceEq, va, v1, vb, v2, Bool.not_true]
  refine W_rounds (T := Nat) (fun i => ⟨ofL [(1, .sl (b.map encO)), (16, .sl (a.map encO)), (17, .int .i64 a.length), (18, .int .i64 i)], [], 0⟩) (fun i => i ≤ a.length ∧ ∀ j (h : j < a.length), j < i → sameO b a[j] = true) (fun i => a.length - i) 0 rfl rfl ⟨Nat.zero_le _, fun j h h0 => by omega⟩ ?_
  rintro i ⟨hi, hlt⟩ Q1 IH OUT
  by_cases h : i < a.length
  · have c1 : decide ((i : Int) < a.length) = true := decide_eq_true (by omega)
    have c2 : (0 : Int) ≤ i := by omega
    have hr : (List.map encO a)[i]? = some (encO a[i]) := by simp [h]
    have hw : IntKind.i64.wrap ((i : Int) + 1) = ((i + 1 : Nat) : Int) := by rw [wrap_small _ (by omega) (by omega)]; rfl
    have hlt' := fun (hs : sameO b a[i] = true) j (hj : j < a.length) (hji : j < i + 1) => (show sameO b a[j] = true from by
      rcases Nat.lt_succ_iff_lt_or_eq.1 hji with h3 | h3
      · exact hlt j hj h3
      · subst h3; exact hs)
    have hbad := fun (hs : sameO b a[i] = false) => all_false h hs
    have hss := fun k (hf : fidx b a[i].id = some k) g (hg : b[k]? = some g) => same_step b a[i] k hf g hg
    have hsn := fun (hf : fidx b a[i].id = none) => (show sameO b a[i] = true from by unfold sameO; rw [hf])
    generalize a[i] = x at hr hlt' hbad hss hsn
    obtain ⟨⟨s1, s2⟩, kd, ⟨t1, t2⟩, ⟨f1, f2⟩, ⟨p1, p2⟩, vl, en, tx⟩ := x
    have ho := opAt_c b hb s1 s2
    cases hf : fidx b ⟨s1, s2⟩ with
    | none =>
      rw [hf, show fI none = -1 from rfl] at ho
      simp only [go_sem, Nat.reduceEqDiff, ↓reduceIte, reduceCtorEq, Nat.reduceAdd, Nat.reduceSub, Nat.reduceLeDiff, Nat.reduceMul, Nat.reduceLT, Int.reduceLT, Int.reduceLE, Int.reduceNeg, Int.cast_ofNat_Int, Int.reduceToNat, Int.toNat_zero, ne_eq, not_false_eq_true, Int.reduceEq, c1, c2, hr, hw, encO, ho, neg1]
      exact IH (i + 1) _ ⟨by omega, hlt' (hsn hf)⟩ (by omega) (by rw [renorm_eq]; simp only [List.map_cons, List.map_nil, go_sem, Nat.reduceEqDiff, ↓reduceIte, reduceCtorEq, Nat.reduceAdd, Nat.reduceSub, Nat.reduceLeDiff, Nat.reduceMul, Nat.reduceLT, Int.reduceLT, Int.reduceLE, Int.reduceNeg]; rfl) rfl
    | some k =>
      have hk := fidx_lt hf
      rw [hf, show fI (some k) = (k : Int) from rfl] at ho
      have d : decide ((k : Int) ≥ 0) = true := decide_eq_true (by omega)
      have ck : (0 : Int) ≤ k := by omega
      have hr2 : (List.map encO b)[k]? = some (encO b[k]) := by simp [hk]
      have hs := hss k hf b[k] (List.getElem?_eq_getElem hk)
      generalize b[k] = g at hr2 hs
      obtain ⟨⟨s1', s2'⟩, kd', ⟨t1', t2'⟩, ⟨f1', f2'⟩, ⟨p1', p2'⟩, vl', en', tx'⟩ := g
      by_cases hxy : (⟨⟨s1', s2'⟩, kd', ⟨t1', t2'⟩, ⟨f1', f2'⟩, ⟨p1', p2'⟩, vl', en', tx'⟩ : Op) = ⟨⟨s1, s2⟩, kd, ⟨t1, t2⟩, ⟨f1, f2⟩, ⟨p1, p2⟩, vl, en, tx⟩
      · have dt := decide_eq_true hxy
        rw [dt] at hs
        simp only [go_sem, Nat.reduceEqDiff, ↓reduceIte, reduceCtorEq, Nat.reduceAdd, Nat.reduceSub, Nat.reduceLeDiff, Nat.reduceMul, Nat.reduceLT, Int.reduceLT, Int.reduceLE, Int.reduceNeg, Int.cast_ofNat_Int, Int.reduceToNat, Int.toNat_zero, ne_eq, not_false_eq_true, Int.reduceEq, c1, c2, hr, hr2, hw, encO, ho, d, ck, eqO_t, eqO_n, dt, Bool.not_true]
        exact IH (i + 1) _ ⟨by omega, hlt' hs⟩ (by omega) (by rw [renorm_eq]; simp only [List.map_cons, List.map_nil, go_sem, Nat.reduceEqDiff, ↓reduceIte, reduceCtorEq, Nat.reduceAdd, Nat.reduceSub, Nat.reduceLeDiff, Nat.reduceMul, Nat.reduceLT, Int.reduceLT, Int.reduceLE, Int.reduceNeg]; rfl) rfl
      · have dt := decide_eq_false hxy
        rw [dt] at hs
        simp only [go_sem, Nat.reduceEqDiff, ↓reduceIte, reduceCtorEq, Nat.reduceAdd, Nat.reduceSub, Nat.reduceLeDiff, Nat.reduceMul, Nat.reduceLT, Int.reduceLT, Int.reduceLE, Int.reduceNeg, Int.cast_ofNat_Int, Int.reduceToNat, Int.toNat_zero, ne_eq, not_false_eq_true, Int.reduceEq, c1, c2, hr, hr2, hw, encO, ho, d, ck, eqO_t, eqO_n, dt, Bool.not_false]
        refine OUT _ _ (by simp) ?_
        simp only [go_sem, Nat.reduceEqDiff, ↓reduceIte, reduceCtorEq, Nat.reduceAdd, Nat.reduceSub, Nat.reduceLeDiff, Nat.reduceMul, Nat.reduceLT, Int.reduceLT, Int.reduceLE, Int.reduceNeg, Int.cast_ofNat_Int, Int.reduceToNat, Int.toNat_zero, ne_eq, not_false_eq_true, Int.reduceEq]
        simp only [sameH, v1, v2, Bool.true_and, hbad hs]
  · have c1 : decide ((i : Int) < a.length) = false := decide_eq_false (by omega)
    have hall : a.all (sameO b) = true := by
      rw [List.all_eq_true]
      intro x hx
      obtain ⟨j, hj, rfl⟩ := List.getElem_of_mem hx
      exact hlt j hj (by omega)
    simp only [go_sem, Nat.reduceEqDiff, ↓reduceIte, reduceCtorEq, Nat.reduceAdd, Nat.reduceSub, Nat.reduceLeDiff, Nat.reduceMul, Nat.reduceLT, Int.reduceLT, Int.reduceLE, Int.reduceNeg, c1]
    refine OUT _ _ (by simp) ?_
    simp only [go_sem, Nat.reduceEqDiff, ↓reduceIte, reduceCtorEq, Nat.reduceAdd, Nat.reduceSub, Nat.reduceLeDiff, Nat.reduceMul, Nat.reduceLT, Int.reduceLT, Int.reduceLE, Int.reduceNeg]
    simp only [sameH, v1, v2, Bool.true_and, hall]
theorem sameHistory_s (a b : List Op) (ha : a.length ≤ 1048576) (hb : b.length ≤ 1048576) (ta : TX a) (tb : TX b) : CL 38 [.sl (a.map encO), .sl (b.map encO)] [] = some (.bool (sameH a b), []) := by
  refine callL_W _ _ _ (F := v38) rfl ?_
  have va := validLog_s a ha ta
  have vb := validLog_s b hb tb
  by_cases v1 : validLog a = true
  case neg =>
    have v1' : validLog a = false := by simpa using v1
    simp only [v38, go_sem, Nat.reduceEqDiff, ↓reduceIte, reduceCtorEq, Nat.reduceAdd, Nat.reduceSub, Nat.reduceLeDiff, Nat.reduceMul, Nat.reduceLT, Int.reduceLT, Int.reduceLE, Int.reduceNeg, Int.cast_ofNat_Int, Int.reduceToNat, Int.toNat_zero, ne_eq, not_false_eq_true, Int.reduceEq, va, v1', Bool.not_false]
    simp only [sameH, v1', Bool.false_and]
  by_cases v2 : validLog b = true
  case neg =>
    have v2' : validLog b = false := by simpa using v2
    simp only [v38, go_sem, Nat.reduceEqDiff, ↓reduceIte, reduceCtorEq, Nat.reduceAdd, Nat.reduceSub, Nat.reduceLeDiff, Nat.reduceMul, Nat.reduceLT, Int.reduceLT, Int.reduceLE, Int.reduceNeg, Int.cast_ofNat_Int, Int.reduceToNat, Int.toNat_zero, ne_eq, not_false_eq_true, Int.reduceEq, va, v1, vb, v2', Bool.not_true, Bool.not_false]
    simp only [sameH, v1, v2', Bool.false_and, Bool.and_false]
  simp only [v38, go_sem, Nat.reduceEqDiff, ↓reduceIte, reduceCtorEq, Nat.reduceAdd, Nat.reduceSub, Nat.reduceLeDiff, Nat.reduceMul, Nat.reduceLT, Int.reduceLT, Int.reduceLE, Int.reduceNeg, Int.cast_ofNat_Int, Int.reduceToNat, Int.toNat_zero, ne_eq, not_false_eq_true, Int.reduceEq, va, v1, vb, v2, Bool.not_true]
  refine W_rounds (T := Nat) (fun i => ⟨ofL [(0, .sl (a.map encO)), (1, .sl (b.map encO)), (5, .int .i64 i)], [], 0⟩) (fun i => i ≤ a.length ∧ ∀ j (h : j < a.length), j < i → sameO b a[j] = true) (fun i => a.length - i) 0 rfl rfl ⟨Nat.zero_le _, fun j h h0 => by omega⟩ ?_
  rintro i ⟨hi, hlt⟩ Q1 IH OUT
  by_cases h : i < a.length
  · have c1 : decide ((i : Int) < a.length) = true := decide_eq_true (by omega)
    have c2 : (0 : Int) ≤ i := by omega
    have hr : (List.map encO a)[i]? = some (encO a[i]) := by simp [h]
    have hw : IntKind.i64.wrap ((i : Int) + 1) = ((i + 1 : Nat) : Int) := by rw [wrap_small _ (by omega) (by omega)]; rfl
    have hlt' := fun (hs : sameO b a[i] = true) j (hj : j < a.length) (hji : j < i + 1) => (show sameO b a[j] = true from by
      rcases Nat.lt_succ_iff_lt_or_eq.1 hji with h3 | h3
      · exact hlt j hj h3
      · subst h3; exact hs)
    have hbad := fun (hs : sameO b a[i] = false) => all_false h hs
    have hss := fun k (hf : fidx b a[i].id = some k) g (hg : b[k]? = some g) => same_step b a[i] k hf g hg
    have hsn := fun (hf : fidx b a[i].id = none) => (show sameO b a[i] = true from by unfold sameO; rw [hf])
    generalize a[i] = x at hr hlt' hbad hss hsn
    obtain ⟨⟨s1, s2⟩, kd, ⟨t1, t2⟩, ⟨f1, f2⟩, ⟨p1, p2⟩, vl, en, tx⟩ := x
    have ho := findOp_s b hb s1 s2
    cases hf : fidx b ⟨s1, s2⟩ with
    | none =>
      rw [hf, show fI none = -1 from rfl] at ho
      simp only [go_sem, Nat.reduceEqDiff, ↓reduceIte, reduceCtorEq, Nat.reduceAdd, Nat.reduceSub, Nat.reduceLeDiff, Nat.reduceMul, Nat.reduceLT, Int.reduceLT, Int.reduceLE, Int.reduceNeg, Int.cast_ofNat_Int, Int.reduceToNat, Int.toNat_zero, ne_eq, not_false_eq_true, Int.reduceEq, c1, c2, hr, hw, encO, ho, neg1]
      exact IH (i + 1) _ ⟨by omega, hlt' (hsn hf)⟩ (by omega) (by rw [renorm_eq]; simp only [List.map_cons, List.map_nil, go_sem, Nat.reduceEqDiff, ↓reduceIte, reduceCtorEq, Nat.reduceAdd, Nat.reduceSub, Nat.reduceLeDiff, Nat.reduceMul, Nat.reduceLT, Int.reduceLT, Int.reduceLE, Int.reduceNeg]; rfl) rfl
    | some k =>
      have hk := fidx_lt hf
      rw [hf, show fI (some k) = (k : Int) from rfl] at ho
      have d : decide ((k : Int) ≥ 0) = true := decide_eq_true (by omega)
      have ck : (0 : Int) ≤ k := by omega
      have hr2 : (List.map encO b)[k]? = some (encO b[k]) := by simp [hk]
      have hs := hss k hf b[k] (List.getElem?_eq_getElem hk)
      generalize b[k] = g at hr2 hs
      obtain ⟨⟨s1', s2'⟩, kd', ⟨t1', t2'⟩, ⟨f1', f2'⟩, ⟨p1', p2'⟩, vl', en', tx'⟩ := g
      by_cases hxy : (⟨⟨s1', s2'⟩, kd', ⟨t1', t2'⟩, ⟨f1', f2'⟩, ⟨p1', p2'⟩, vl', en', tx'⟩ : Op) = ⟨⟨s1, s2⟩, kd, ⟨t1, t2⟩, ⟨f1, f2⟩, ⟨p1, p2⟩, vl, en, tx⟩
      · have dt := decide_eq_true hxy
        rw [dt] at hs
        simp only [go_sem, Nat.reduceEqDiff, ↓reduceIte, reduceCtorEq, Nat.reduceAdd, Nat.reduceSub, Nat.reduceLeDiff, Nat.reduceMul, Nat.reduceLT, Int.reduceLT, Int.reduceLE, Int.reduceNeg, Int.cast_ofNat_Int, Int.reduceToNat, Int.toNat_zero, ne_eq, not_false_eq_true, Int.reduceEq, c1, c2, hr, hr2, hw, encO, ho, d, ck, eqO_t, eqO_n, dt, Bool.not_true]
        exact IH (i + 1) _ ⟨by omega, hlt' hs⟩ (by omega) (by rw [renorm_eq]; simp only [List.map_cons, List.map_nil, go_sem, Nat.reduceEqDiff, ↓reduceIte, reduceCtorEq, Nat.reduceAdd, Nat.reduceSub, Nat.reduceLeDiff, Nat.reduceMul, Nat.reduceLT, Int.reduceLT, Int.reduceLE, Int.reduceNeg]; rfl) rfl
      · have dt := decide_eq_false hxy
        rw [dt] at hs
        simp only [go_sem, Nat.reduceEqDiff, ↓reduceIte, reduceCtorEq, Nat.reduceAdd, Nat.reduceSub, Nat.reduceLeDiff, Nat.reduceMul, Nat.reduceLT, Int.reduceLT, Int.reduceLE, Int.reduceNeg, Int.cast_ofNat_Int, Int.reduceToNat, Int.toNat_zero, ne_eq, not_false_eq_true, Int.reduceEq, c1, c2, hr, hr2, hw, encO, ho, d, ck, eqO_t, eqO_n, dt, Bool.not_false]
        refine OUT _ _ (by simp) ?_
        simp only [go_sem, Nat.reduceEqDiff, ↓reduceIte, reduceCtorEq, Nat.reduceAdd, Nat.reduceSub, Nat.reduceLeDiff, Nat.reduceMul, Nat.reduceLT, Int.reduceLT, Int.reduceLE, Int.reduceNeg, Int.cast_ofNat_Int, Int.reduceToNat, Int.toNat_zero, ne_eq, not_false_eq_true, Int.reduceEq]
        simp only [sameH, v1, v2, Bool.true_and, hbad hs]
  · have c1 : decide ((i : Int) < a.length) = false := decide_eq_false (by omega)
    have hall : a.all (sameO b) = true := by
      rw [List.all_eq_true]
      intro x hx
      obtain ⟨j, hj, rfl⟩ := List.getElem_of_mem hx
      exact hlt j hj (by omega)
    simp only [go_sem, Nat.reduceEqDiff, ↓reduceIte, reduceCtorEq, Nat.reduceAdd, Nat.reduceSub, Nat.reduceLeDiff, Nat.reduceMul, Nat.reduceLT, Int.reduceLT, Int.reduceLE, Int.reduceNeg, c1]
    refine OUT _ _ (by simp) ?_
    simp only [go_sem, Nat.reduceEqDiff, ↓reduceIte, reduceCtorEq, Nat.reduceAdd, Nat.reduceSub, Nat.reduceLeDiff, Nat.reduceMul, Nat.reduceLT, Int.reduceLT, Int.reduceLE, Int.reduceNeg]
    simp only [sameH, v1, v2, Bool.true_and, hall]
abbrev kO : Bool × List Ty := (false, [.sl [.int .i64, .int .i64, .int .i64, .int .i64, .int .i64, .int .i64, .int .i64, .int .i64, .int .i64, .int .i64, .bool, .str]])
theorem arg_ops {d : D} (h : ArgTy kO d) : ∃ l : List Op, d = .sl (l.map encO) ∧ l.length ≤ 9223372036854775807 ∧ ∀ o ∈ l, o.text.length ≤ 9223372036854775807 := by
  obtain ⟨rows, rfl, hl, hr, h⟩ := arg_rows h
  have one : ∀ r ∈ rows, ∃ g : {o : Op // o.text.length ≤ 9223372036854775807}, r = encO g.1 := by
    intro r hm
    have h1 := hr r hm
    have h2 := h r hm
    obtain ⟨x1, x2, x3, x4, x5, x6, x7, x8, x9, y1, y2, y3, rfl⟩ : ∃ x1 x2 x3 x4 x5 x6 x7 x8 x9 y1 y2 y3, r = [x1, x2, x3, x4, x5, x6, x7, x8, x9, y1, y2, y3] := by
      match r, h1 with
      | [x1, x2, x3, x4, x5, x6, x7, x8, x9, y1, y2, y3], _ => exact ⟨x1, x2, x3, x4, x5, x6, x7, x8, x9, y1, y2, y3, rfl⟩
    have z1 := h2 0 _ _ rfl rfl
    have z2 := h2 1 _ _ rfl rfl
    have z3 := h2 2 _ _ rfl rfl
    have z4 := h2 3 _ _ rfl rfl
    have z5 := h2 4 _ _ rfl rfl
    have z6 := h2 5 _ _ rfl rfl
    have z7 := h2 6 _ _ rfl rfl
    have z8 := h2 7 _ _ rfl rfl
    have z9 := h2 8 _ _ rfl rfl
    have z10 := h2 9 _ _ rfl rfl
    have z11 := h2 10 _ _ rfl rfl
    have z12 := h2 11 _ _ rfl rfl
    cases z1; cases z2; cases z3; cases z4; cases z5; cases z6; cases z7; cases z8; cases z9; cases z10; cases z11
    cases z12 with
    | str s hs => exact ⟨⟨⟨⟨_, _⟩, _, ⟨_, _⟩, ⟨_, _⟩, ⟨_, _⟩, _, _, s⟩, Nat.le_trans hs (by decide)⟩, rfl⟩
  obtain ⟨l, rfl⟩ := map_of (enc := fun g : {o : Op // o.text.length ≤ 9223372036854775807} => encO g.1) one
  refine ⟨l.map (·.1), by rw [List.map_map]; rfl, by simpa using Nat.le_trans hl (by decide), fun o ho => ?_⟩
  obtain ⟨g, _, rfl⟩ := List.mem_map.1 ho
  exact g.2
theorem fnExactSameHistory_law {dd : List D} (h : ArgsTy [kO, kO] dd) : CL 12 dd [] = some (.bool true, []) := by
  obtain ⟨_, _, rfl, hA, hB⟩ := args2 h
  obtain ⟨a, rfl, hla, hta⟩ := arg_ops hA
  obtain ⟨b, rfl, hlb, htb⟩ := arg_ops hB
  refine callL_W _ _ _ (F := v12) rfl ?_
  have hz := szOpS_c a 1048576 hla hta (by decide) (by decide)
  obtain ⟨e1, e2, e3⟩ := szL_le a 1048576 (by decide)
  generalize szL 1048576 a = n at hz e1 e2 e3
  by_cases h : n < 0
  · rw [e3 h] at hz
    simp only [v12, go_sem, Nat.reduceEqDiff, ↓reduceIte, reduceCtorEq, Nat.reduceAdd, Nat.reduceSub, Nat.reduceLeDiff, Nat.reduceMul, Nat.reduceLT, Int.reduceLT, Int.reduceLE, Int.reduceNeg, Int.cast_ofNat_Int, Int.reduceToNat, Int.toNat_zero, ne_eq, not_false_eq_true, Int.reduceEq, hz, neg1']
  obtain ⟨la, ta⟩ := e2 (by omega)
  have d1 : decide (n < 0) = false := decide_eq_false h
  have hz2 := szOpS_c b n hlb htb (by omega) (by omega)
  obtain ⟨g1, g2, g3⟩ := szL_le b n (by omega)
  generalize szL n b = m at hz2 g1 g2 g3
  by_cases h' : m < 0
  · rw [g3 h'] at hz2
    simp only [v12, go_sem, Nat.reduceEqDiff, ↓reduceIte, reduceCtorEq, Nat.reduceAdd, Nat.reduceSub, Nat.reduceLeDiff, Nat.reduceMul, Nat.reduceLT, Int.reduceLT, Int.reduceLE, Int.reduceNeg, Int.cast_ofNat_Int, Int.reduceToNat, Int.toNat_zero, ne_eq, not_false_eq_true, Int.reduceEq, hz, d1, hz2, neg1']
  obtain ⟨lb, tb⟩ := g2 (by omega)
  have d2 : decide (m < 0) = false := decide_eq_false h'
  have la' : a.length ≤ 1048576 := by omega
  have lb' : b.length ≤ 1048576 := by omega
  have txa : TX a := fun o ho => by have := ta o ho; omega
  have txb : TX b := fun o ho => by have := tb o ho; omega
  have tac := toOpS_c a la'
  have tbc := toOpS_c b lb'
  have hs := sameHistory_s a b la' lb' txa txb
  have hc := sameHistory_c a b la' lb' txa txb
  have eqa := eqOpS_c a a la' la'
  have eqb := eqOpS_c b b lb' lb'
  simp only [decide_true] at eqa eqb
  simp only [v12, go_sem, Nat.reduceEqDiff, ↓reduceIte, reduceCtorEq, Nat.reduceAdd, Nat.reduceSub, Nat.reduceLeDiff, Nat.reduceMul, Nat.reduceLT, Int.reduceLT, Int.reduceLE, Int.reduceNeg, Int.cast_ofNat_Int, Int.reduceToNat, Int.toNat_zero, ne_eq, not_false_eq_true, Int.reduceEq, hz, d1, hz2, d2, tac, tbc, hs, hc, eqa, eqb, bne_self_eq_false, Bool.not_true]
end Go.Vi.Code
