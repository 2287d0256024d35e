/- Contracts: LogContains; its law. -/
import Derived.Test.YtojgihheepdgdaaViO6
set_option linter.unusedSimpArgs false
set_option linter.unusedVariables false
namespace Go.Vi.Code
theorem logContains_c (a b : List Op) (ha : a.length ≤ 1048576) (hb : b.length ≤ 1048576) (ta : TX a) (tb : TX b) : CL 43 [.sl (a.map encO), .sl (b.map encO)] [] = some (.bool (contH a b), []) := by
  refine callL_W _ _ _ (F := v43) rfl ?_
  have va := validLog_c a ha ta
  have vb := validLog_c b hb tb
  by_cases v1 : validLog a = true
  case neg =>
    have v1' : validLog a = false := by simpa using v1
    simp only [v43, go_sem, Nat.reduceEqDiff, ↓reduceIte, reduceCtorEq, Nat.reduceAdd, Nat.reduceSub, Nat.reduceLeDiff, Nat.reduceMul, Nat.reduceLT, Int.reduceLT, Int.reduceLE, Int.reduceNeg, Int.cast_ofNat_Int, Int.reduceToNat, Int.toNat_zero, ne_eq, not_false_eq_true, Int.reduceEq, va, v1', Bool.not_false]
    simp only [contH, v1', Bool.false_and]
  by_cases v2 : validLog b = true
  case neg =>
    have v2' : validLog b = false := by simpa using v2
    simp only [v43, go_sem, Nat.reduceEqDiff, ↓reduceIte, reduceCtorEq, Nat.reduceAdd, Nat.reduceSub, Nat.reduceLeDiff, Nat.reduceMul, Nat.reduceLT, Int.reduceLT, Int.reduceLE, Int.reduceNeg, Int.cast_ofNat_Int, Int.reduceToNat, Int.toNat_zero, ne_eq, not_false_eq_true, Int.reduceEq, va, v1, vb, v2', Bool.not_true, Bool.not_false]
    simp only [contH, v1, v2', Bool.false_and, Bool.and_false]
  simp only [v43, go_sem, Nat.reduceEqDiff, ↓reduceIte, reduceCtorEq, Nat.reduceAdd, Nat.reduceSub, Nat.reduceLeDiff, Nat.reduceMul, Nat.reduceLT, Int.reduceLT, Int.reduceLE, Int.reduceNeg, Int.cast_ofNat_Int, Int.reduceToNat, Int.toNat_zero, ne_eq, not_false_eq_true, Int.reduceEq, va, v1, vb, v2, Bool.not_true]
  refine W_rounds (T := Nat) (fun i => ⟨ofL [(0, .sl (a.map encO)), (15, .sl (b.map encO)), (16, .int .i64 b.length), (17, .int .i64 i)], [], 0⟩) (fun i => i ≤ b.length ∧ ∀ j (h : j < b.length), j < i → inL a b[j] = true) (fun i => b.length - i) 0 rfl rfl ⟨Nat.zero_le _, fun j h h0 => by omega⟩ ?_
  rintro i ⟨hi, hlt⟩ Q1 IH OUT
  by_cases h : i < b.length
  · have c1 : decide ((i : Int) < b.length) = true := decide_eq_true (by omega)
    have c2 : (0 : Int) ≤ i := by omega
    have hr : (List.map encO b)[i]? = some (encO b[i]) := by simp [h]
    have hw : IntKind.i64.wrap ((i : Int) + 1) = ((i + 1 : Nat) : Int) := by rw [wrap_small _ (by omega) (by omega)]; rfl
    have hlt' := fun (hs : inL a b[i] = true) j (hj : j < b.length) (hji : j < i + 1) => (show inL a b[j] = true from by
      rcases Nat.lt_succ_iff_lt_or_eq.1 hji with h3 | h3
      · exact hlt j hj h3
      · subst h3; exact hs)
    have hbad := fun (hs : inL a b[i] = false) => all_false h hs
    generalize b[i] = x at hr hlt' hbad
    obtain ⟨⟨s1, s2⟩, kd, ⟨t1, t2⟩, ⟨f1, f2⟩, ⟨p1, p2⟩, vl, en, tx⟩ := x
    have hin := isIn_c a ha s1 s2 kd t1 t2 f1 f2 p1 p2 vl en tx
    by_cases hx : inL a ⟨⟨s1, s2⟩, kd, ⟨t1, t2⟩, ⟨f1, f2⟩, ⟨p1, p2⟩, vl, en, tx⟩ = true
    · rw [hx] at hin
      simp only [go_sem, Nat.reduceEqDiff, ↓reduceIte, reduceCtorEq, Nat.reduceAdd, Nat.reduceSub, Nat.reduceLeDiff, Nat.reduceMul, Nat.reduceLT, Int.reduceLT, Int.reduceLE, Int.reduceNeg, Int.cast_ofNat_Int, Int.reduceToNat, Int.toNat_zero, ne_eq, not_false_eq_true, Int.reduceEq, c1, c2, hr, hw, encO, hin, Bool.not_true]
      exact IH (i + 1) _ ⟨by omega, hlt' hx⟩ (by omega) (by rw [renorm_eq]; simp only [List.map_cons, List.map_nil, go_sem, Nat.reduceEqDiff, ↓reduceIte, reduceCtorEq, Nat.reduceAdd, Nat.reduceSub, Nat.reduceLeDiff, Nat.reduceMul, Nat.reduceLT, Int.reduceLT, Int.reduceLE, Int.reduceNeg]; rfl) rfl
    · have hx' : inL a ⟨⟨s1, s2⟩, kd, ⟨t1, t2⟩, ⟨f1, f2⟩, ⟨p1, p2⟩, vl, en, tx⟩ = false := by simpa using hx
      rw [hx'] at hin
      simp only [go_sem, Nat.reduceEqDiff, ↓reduceIte, reduceCtorEq, Nat.reduceAdd, Nat.reduceSub, Nat.reduceLeDiff, Nat.reduceMul, Nat.reduceLT, Int.reduceLT, Int.reduceLE, Int.reduceNeg, Int.cast_ofNat_Int, Int.reduceToNat, Int.toNat_zero, ne_eq, not_false_eq_true, Int.reduceEq, c1, c2, hr, hw, encO, hin, Bool.not_false]
      refine OUT _ _ (by simp) ?_
      simp only [go_sem, Nat.reduceEqDiff, ↓reduceIte, reduceCtorEq, Nat.reduceAdd, Nat.reduceSub, Nat.reduceLeDiff, Nat.reduceMul, Nat.reduceLT, Int.reduceLT, Int.reduceLE, Int.reduceNeg, Int.cast_ofNat_Int, Int.reduceToNat, Int.toNat_zero, ne_eq, not_false_eq_true, Int.reduceEq]
      simp only [contH, v1, v2, Bool.true_and, hbad hx']
  · have c1 : decide ((i : Int) < b.length) = false := decide_eq_false (by omega)
    have hall : b.all (inL a) = true := by
      rw [List.all_eq_true]
      intro x hx
      obtain ⟨j, hj, rfl⟩ := List.getElem_of_mem hx
      exact hlt j hj (by omega)
    simp only [go_sem, Nat.reduceEqDiff, ↓reduceIte, reduceCtorEq, Nat.reduceAdd, Nat.reduceSub, Nat.reduceLeDiff, Nat.reduceMul, Nat.reduceLT, Int.reduceLT, Int.reduceLE, Int.reduceNeg, c1]
    refine OUT _ _ (by simp) ?_
    simp only [go_sem, Nat.reduceEqDiff, ↓reduceIte, reduceCtorEq, Nat.reduceAdd, Nat.reduceSub, Nat.reduceLeDiff, Nat.reduceMul, Nat.reduceLT, Int.reduceLT, Int.reduceLE, Int.reduceNeg]
    simp only [contH, v1, v2, Bool.true_and, hall]
theorem containsOps_s (a b : List Op) (ha : a.length ≤ 1048576) (hb : b.length ≤ 1048576) : CL 73 [.sl (a.map encO), .sl (b.map encO)] [] = some (.bool (b.all (inL a)), []) := by
  refine callL_W _ _ _ (F := v73) rfl ?_
  simp only [v73, go_sem, Nat.reduceEqDiff, ↓reduceIte, reduceCtorEq, Nat.reduceAdd, Nat.reduceSub, Nat.reduceLeDiff, Nat.reduceMul, Nat.reduceLT, Int.reduceLT, Int.reduceLE, Int.reduceNeg, Int.cast_ofNat_Int, Int.reduceToNat, Int.toNat_zero, ne_eq, not_false_eq_true, Int.reduceEq]
  refine W_rounds (T := Nat) (fun i => ⟨ofL [(0, .sl (a.map encO)), (1, .sl (b.map encO)), (5, .int .i64 i)], [], 0⟩) (fun i => i ≤ b.length ∧ ∀ j (h : j < b.length), j < i → inL a b[j] = true) (fun i => b.length - i) 0 rfl rfl ⟨Nat.zero_le _, fun j h h0 => by omega⟩ ?_
  rintro i ⟨hi, hlt⟩ Q1 IH OUT
  by_cases h : i < b.length
  · have c1 : decide ((i : Int) < b.length) = true := decide_eq_true (by omega)
    have c2 : (0 : Int) ≤ i := by omega
    have hr : (List.map encO b)[i]? = some (encO b[i]) := by simp [h]
    have hw : IntKind.i64.wrap ((i : Int) + 1) = ((i + 1 : Nat) : Int) := by rw [wrap_small _ (by omega) (by omega)]; rfl
    have hlt' := fun (hs : inL a b[i] = true) j (hj : j < b.length) (hji : j < i + 1) => (show inL a b[j] = true from by
      rcases Nat.lt_succ_iff_lt_or_eq.1 hji with h3 | h3
      · exact hlt j hj h3
      · subst h3; exact hs)
    have hbad := fun (hs : inL a b[i] = false) => all_false h hs
    have hss := fun k (hf : fidx a b[i].id = some k) g (hg : a[k]? = some g) => in_step a b[i] k hf g hg
    have hsn := fun (hf : fidx a b[i].id = none) => (show inL a b[i] = false from by unfold inL; rw [hf])
    generalize b[i] = x at hr hlt' hbad hss hsn
    obtain ⟨⟨s1, s2⟩, kd, ⟨t1, t2⟩, ⟨f1, f2⟩, ⟨p1, p2⟩, vl, en, tx⟩ := x
    have ho := findOp_s a ha s1 s2
    cases hf : fidx a ⟨s1, s2⟩ with
    | none =>
      rw [hf, show fI none = -1 from rfl] at ho
      simp only [go_sem, Nat.reduceEqDiff, ↓reduceIte, reduceCtorEq, Nat.reduceAdd, Nat.reduceSub, Nat.reduceLeDiff, Nat.reduceMul, Nat.reduceLT, Int.reduceLT, Int.reduceLE, Int.reduceNeg, Int.cast_ofNat_Int, Int.reduceToNat, Int.toNat_zero, ne_eq, not_false_eq_true, Int.reduceEq, c1, c2, hr, hw, encO, ho, neg1']
      refine OUT _ _ (by simp) ?_
      simp only [go_sem, Nat.reduceEqDiff, ↓reduceIte, reduceCtorEq, Nat.reduceAdd, Nat.reduceSub, Nat.reduceLeDiff, Nat.reduceMul, Nat.reduceLT, Int.reduceLT, Int.reduceLE, Int.reduceNeg, Int.cast_ofNat_Int, Int.reduceToNat, Int.toNat_zero, ne_eq, not_false_eq_true, Int.reduceEq]
      rw [hbad (hsn hf)]
    | some k =>
      have hk := fidx_lt hf
      rw [hf, show fI (some k) = (k : Int) from rfl] at ho
      have d : decide ((k : Int) < 0) = false := decide_eq_false (by omega)
      have ck : (0 : Int) ≤ k := by omega
      have hr2 : (List.map encO a)[k]? = some (encO a[k]) := by simp [hk]
      have hs := hss k hf a[k] (List.getElem?_eq_getElem hk)
      generalize a[k] = g at hr2 hs
      obtain ⟨⟨s1', s2'⟩, kd', ⟨t1', t2'⟩, ⟨f1', f2'⟩, ⟨p1', p2'⟩, vl', en', tx'⟩ := g
      by_cases hxy : (⟨⟨s1', s2'⟩, kd', ⟨t1', t2'⟩, ⟨f1', f2'⟩, ⟨p1', p2'⟩, vl', en', tx'⟩ : Op) = ⟨⟨s1, s2⟩, kd, ⟨t1, t2⟩, ⟨f1, f2⟩, ⟨p1, p2⟩, vl, en, tx⟩
      · have dt := decide_eq_true hxy
        rw [dt] at hs
        simp only [go_sem, Nat.reduceEqDiff, ↓reduceIte, reduceCtorEq, Nat.reduceAdd, Nat.reduceSub, Nat.reduceLeDiff, Nat.reduceMul, Nat.reduceLT, Int.reduceLT, Int.reduceLE, Int.reduceNeg, Int.cast_ofNat_Int, Int.reduceToNat, Int.toNat_zero, ne_eq, not_false_eq_true, Int.reduceEq, c1, c2, hr, hr2, hw, encO, ho, d, ck, eqO_t, eqO_n, dt, Bool.not_true]
        exact IH (i + 1) _ ⟨by omega, hlt' hs⟩ (by omega) (by rw [renorm_eq]; simp only [List.map_cons, List.map_nil, go_sem, Nat.reduceEqDiff, ↓reduceIte, reduceCtorEq, Nat.reduceAdd, Nat.reduceSub, Nat.reduceLeDiff, Nat.reduceMul, Nat.reduceLT, Int.reduceLT, Int.reduceLE, Int.reduceNeg]; rfl) rfl
      · have dt := decide_eq_false hxy
        rw [dt] at hs
        simp only [go_sem, Nat.reduceEqDiff, ↓reduceIte, reduceCtorEq, Nat.reduceAdd, Nat.reduceSub, Nat.reduceLeDiff, Nat.reduceMul, Nat.reduceLT, Int.reduceLT, Int.reduceLE, Int.reduceNeg, Int.cast_ofNat_Int, Int.reduceToNat, Int.toNat_zero, ne_eq, not_false_eq_true, Int.reduceEq, c1, c2, hr, hr2, hw, encO, ho, d, ck, eqO_t, eqO_n, dt, Bool.not_false]
        refine OUT _ _ (by simp) ?_
        simp only [go_sem, Nat.reduceEqDiff, ↓reduceIte, reduceCtorEq, Nat.reduceAdd, Nat.reduceSub, Nat.reduceLeDiff, Nat.reduceMul, Nat.reduceLT, Int.reduceLT, Int.reduceLE, Int.reduceNeg, Int.cast_ofNat_Int, Int.reduceToNat, Int.toNat_zero, ne_eq, not_false_eq_true, Int.reduceEq]
        rw [hbad hs]
  · have c1 : decide ((i : Int) < b.length) = false := decide_eq_false (by omega)
    have hall : b.all (inL a) = true := by
      rw [List.all_eq_true]
      intro x hx
      obtain ⟨j, hj, rfl⟩ := List.getElem_of_mem hx
      exact hlt j hj (by omega)
    simp only [go_sem, Nat.reduceEqDiff, ↓reduceIte, reduceCtorEq, Nat.reduceAdd, Nat.reduceSub, Nat.reduceLeDiff, Nat.reduceMul, Nat.reduceLT, Int.reduceLT, Int.reduceLE, Int.reduceNeg, c1]
    refine OUT _ _ (by simp) ?_
    simp only [go_sem, Nat.reduceEqDiff, ↓reduceIte, reduceCtorEq, Nat.reduceAdd, Nat.reduceSub, Nat.reduceLeDiff, Nat.reduceMul, Nat.reduceLT, Int.reduceLT, Int.reduceLE, Int.reduceNeg]
    rw [hall]
theorem logContains_s (a b : List Op) (ha : a.length ≤ 1048576) (hb : b.length ≤ 1048576) (ta : TX a) (tb : TX b) : CL 42 [.sl (a.map encO), .sl (b.map encO)] [] = some (.bool (contH a b), []) := by
  refine callL_W _ _ _ (F := v42) rfl ?_
  have va := validLog_s a ha ta
  have vb := validLog_s b hb tb
  have hc := containsOps_s a b ha hb
  by_cases v1 : validLog a = true
  case neg =>
    have v1' : validLog a = false := by simpa using v1
    simp only [v42, go_sem, Nat.reduceEqDiff, ↓reduceIte, reduceCtorEq, Nat.reduceAdd, Nat.reduceSub, Nat.reduceLeDiff, Nat.reduceMul, Nat.reduceLT, Int.reduceLT, Int.reduceLE, Int.reduceNeg, Int.cast_ofNat_Int, Int.reduceToNat, Int.toNat_zero, ne_eq, not_false_eq_true, Int.reduceEq, va, v1']
    simp only [contH, v1', Bool.false_and]
  by_cases v2 : validLog b = true
  case neg =>
    have v2' : validLog b = false := by simpa using v2
    simp only [v42, go_sem, Nat.reduceEqDiff, ↓reduceIte, reduceCtorEq, Nat.reduceAdd, Nat.reduceSub, Nat.reduceLeDiff, Nat.reduceMul, Nat.reduceLT, Int.reduceLT, Int.reduceLE, Int.reduceNeg, Int.cast_ofNat_Int, Int.reduceToNat, Int.toNat_zero, ne_eq, not_false_eq_true, Int.reduceEq, va, v1, vb, v2']
    simp only [contH, v1, v2', Bool.false_and, Bool.and_false]
  simp only [v42, go_sem, Nat.reduceEqDiff, ↓reduceIte, reduceCtorEq, Nat.reduceAdd, Nat.reduceSub, Nat.reduceLeDiff, Nat.reduceMul, Nat.reduceLT, Int.reduceLT, Int.reduceLE, Int.reduceNeg, Int.cast_ofNat_Int, Int.reduceToNat, Int.toNat_zero, ne_eq, not_false_eq_true, Int.reduceEq, va, v1, vb, v2, hc]
  simp only [contH, v1, v2, Bool.true_and]
theorem fnExactLogContains_law {dd : List D} (h : ArgsTy [kO, kO] dd) : CL 13 dd [] = some (.bool true, []) := by
  obtain ⟨_, _, rfl, hA, hB⟩ := args2 h
  obtain ⟨a, rfl, hla, hta⟩ := arg_ops hA
  obtain ⟨b, rfl, hlb, htb⟩ := arg_ops hB
  refine callL_W _ _ _ (F := v13) rfl ?_
  have hz := szOpS_c a 1048576 hla hta (by decide) (by decide)
  obtain ⟨e1, e2, e3⟩ := szL_le a 1048576 (by decide)
  generalize szL 1048576 a = n at hz e1 e2 e3
  by_cases h : n < 0
  · rw [e3 h] at hz
    simp only [v13, go_sem, Nat.reduceEqDiff, ↓reduceIte, reduceCtorEq, Nat.reduceAdd, Nat.reduceSub, Nat.reduceLeDiff, Nat.reduceMul, Nat.reduceLT, Int.reduceLT, Int.reduceLE, Int.reduceNeg, Int.cast_ofNat_Int, Int.reduceToNat, Int.toNat_zero, ne_eq, not_false_eq_true, Int.reduceEq, hz, neg1']
  obtain ⟨la, ta⟩ := e2 (by omega)
  have d1 : decide (n < 0) = false := decide_eq_false h
  have hz2 := szOpS_c b n hlb htb (by omega) (by omega)
  obtain ⟨g1, g2, g3⟩ := szL_le b n (by omega)
  generalize szL n b = m at hz2 g1 g2 g3
  by_cases h' : m < 0
  · rw [g3 h'] at hz2
    simp only [v13, go_sem, Nat.reduceEqDiff, ↓reduceIte, reduceCtorEq, Nat.reduceAdd, Nat.reduceSub, Nat.reduceLeDiff, Nat.reduceMul, Nat.reduceLT, Int.reduceLT, Int.reduceLE, Int.reduceNeg, Int.cast_ofNat_Int, Int.reduceToNat, Int.toNat_zero, ne_eq, not_false_eq_true, Int.reduceEq, hz, d1, hz2, neg1']
  obtain ⟨lb, tb⟩ := g2 (by omega)
  have d2 : decide (m < 0) = false := decide_eq_false h'
  have la' : a.length ≤ 1048576 := by omega
  have lb' : b.length ≤ 1048576 := by omega
  have txa : TX a := fun o ho => by have := ta o ho; omega
  have txb : TX b := fun o ho => by have := tb o ho; omega
  have tac := toOpS_c a la'
  have tbc := toOpS_c b lb'
  have hs := logContains_s a b la' lb' txa txb
  have hc := logContains_c a b la' lb' txa txb
  have eqa := eqOpS_c a a la' la'
  have eqb := eqOpS_c b b lb' lb'
  simp only [decide_true] at eqa eqb
  simp only [v13, go_sem, Nat.reduceEqDiff, ↓reduceIte, reduceCtorEq, Nat.reduceAdd, Nat.reduceSub, Nat.reduceLeDiff, Nat.reduceMul, Nat.reduceLT, Int.reduceLT, Int.reduceLE, Int.reduceNeg, Int.cast_ofNat_Int, Int.reduceToNat, Int.toNat_zero, ne_eq, not_false_eq_true, Int.reduceEq, hz, d1, hz2, d2, tac, tbc, hs, hc, eqa, eqb, bne_self_eq_false, Bool.not_true]
end Go.Vi.Code
