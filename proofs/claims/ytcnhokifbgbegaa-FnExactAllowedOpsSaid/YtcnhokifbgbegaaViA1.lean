/- Contracts: AllowedOps; the law ExactAllowedOps. -/
import Derived.Test.YtcnhokifbgbegaaViG11
import Derived.Test.YtcnhokifbgbegaaViO10
set_option linter.unusedSimpArgs false
set_option linter.unusedVariables false
namespace Go.Vi.Code
def reqR (k : Int) : Int := if k = 8 ∨ k = 9 then 1 else 2
def allowO (g : List Grant) (o : Op) : Bool := decide (rightAt g o.id.author o.id ≥ reqR o.kind)
def allowL (l : List Op) (g : List Grant) : List Op := l.filter (allowO g)
def allowH (l : List Op) (g : List Grant) : List Op := if validLog l = true ∧ validGrants g = true then allowL l g else []
theorem validLog_op {l : List Op} (h : validLog l = true) : ∀ o ∈ l, isAuthor o.id.author = true := by
  simp only [validLog, Bool.and_eq_true, List.all_eq_true, List.mem_range] at h
  intro o ho
  obtain ⟨i, hi, rfl⟩ := List.getElem_of_mem ho
  have := h.1 i hi
  simp only [logAt, List.getElem?_eq_getElem hi, Bool.and_eq_true] at this
  have h2 := this.1
  simp only [validOp, Bool.and_eq_true] at h2
  have h3 := h2.1
  simp only [validStamp, decide_eq_true_eq] at h3
  simp only [isAuthor, decide_eq_true_eq]
  omega
theorem requiredRight_s (a1 a2 a3 a4 a5 a6 a7 a8 a9 b1 : Int) (b3 : Bool) (b4 : List UInt8) : CL 102 [.agg [.int .i64 a1, .int .i64 a2, .int .i64 a3, .int .i64 a4, .int .i64 a5, .int .i64 a6, .int .i64 a7, .int .i64 a8, .int .i64 a9, .int .i64 b1, .bool b3, .str b4]] [] = some (.int .i64 (reqR a3), []) := by
  refine callL_W _ _ _ (F := v102) rfl ?_
  unfold reqR
  by_cases h8 : a3 = 8
  · have e8 : (a3 == 8) = true := by simpa using h8
    simp only [v102, go_sem, Nat.reduceEqDiff, ↓reduceIte, reduceCtorEq, Nat.reduceAdd, Nat.reduceSub, Nat.reduceLeDiff, Nat.reduceMul, Nat.reduceLT, Int.reduceLT, Int.reduceLE, Int.reduceNeg, Int.cast_ofNat_Int, Int.reduceToNat, Int.toNat_zero, ne_eq, not_false_eq_true, Int.reduceEq, e8]
    rw [if_pos (.inl h8)]
  · have e8 : (a3 == 8) = false := by simpa using h8
    by_cases h9 : a3 = 9
    · have e9 : (a3 == 9) = true := by simpa using h9
      simp only [v102, go_sem, Nat.reduceEqDiff, ↓reduceIte, reduceCtorEq, Nat.reduceAdd, Nat.reduceSub, Nat.reduceLeDiff, Nat.reduceMul, Nat.reduceLT, Int.reduceLT, Int.reduceLE, Int.reduceNeg, Int.cast_ofNat_Int, Int.reduceToNat, Int.toNat_zero, ne_eq, not_false_eq_true, Int.reduceEq, e8, e9]
      rw [if_pos (.inr h9)]
    · have e9 : (a3 == 9) = false := by simpa using h9
      simp only [v102, go_sem, Nat.reduceEqDiff, ↓reduceIte, reduceCtorEq, Nat.reduceAdd, Nat.reduceSub, Nat.reduceLeDiff, Nat.reduceMul, Nat.reduceLT, Int.reduceLT, Int.reduceLE, Int.reduceNeg, Int.cast_ofNat_Int, Int.reduceToNat, Int.toNat_zero, ne_eq, not_false_eq_true, Int.reduceEq, e8, e9]
      rw [if_neg (fun h => h.elim h8 h9)]
theorem allowed_s (g : List Grant) (hg : g.length ≤ 1048576) (hv : validGrants g = true) (a1 a2 a3 a4 a5 a6 a7 a8 a9 b1 : Int) (b3 : Bool) (b4 : List UInt8) (ha : isAuthor a2 = true) : CL 77 [.sl (g.map encG), .agg [.int .i64 a1, .int .i64 a2, .int .i64 a3, .int .i64 a4, .int .i64 a5, .int .i64 a6, .int .i64 a7, .int .i64 a8, .int .i64 a9, .int .i64 b1, .bool b3, .str b4]] [] =
    some (.bool (allowO g ⟨⟨a1, a2⟩, a3, ⟨a4, a5⟩, ⟨a6, a7⟩, ⟨a8, a9⟩, b1, b3, b4⟩), []) := by
  refine callL_W _ _ _ (F := v77) rfl ?_
  obtain ⟨hok, hsort, _⟩ := valid_spec hv
  have hac := author_cases ha
  have h0 : 0 ≤ a2 := by omega
  have hR := rows3_at ((before g ⟨a1, a2⟩).foldl takeR first) a2 hac
  have hr := rights_s' g hg hok a1 a2
  simp only [v77, go_sem, Nat.reduceEqDiff, ↓reduceIte, reduceCtorEq, Nat.reduceAdd, Nat.reduceSub, Nat.reduceLeDiff, Nat.reduceMul, Nat.reduceLT, Int.reduceLT, Int.reduceLE, Int.reduceNeg, Int.cast_ofNat_Int, Int.reduceToNat, Int.toNat_zero, ne_eq, not_false_eq_true, Int.reduceEq, hr, h0, hR, requiredRight_s]
  simp only [allowO, rightAt, hv, ha, and_self, if_true, rightsAt, before_filter hsort]
theorem AllowedOps_c (a : List Op) (g : List Grant) (ha : a.length ≤ 1048576) (hg : g.length ≤ 1048576) (ta : TX a) : CL 47 [.sl (a.map encO), .sl (g.map encG)] [] =
    some (if validLog a = true ∧ validGrants g = true then (.osl 0 0 (allowL a g).length, [some (.rw 39 ((allowL a g).map encO))]) else (.nsl, [])) := by
  refine callL_W _ _ _ (F := v47) rfl ?_
  have va := validLog_c a ha ta
  have vb := validGrants_c g hg
  by_cases v1 : validLog a = true
  case neg =>
    have v1' : validLog a = false := by simpa using v1
    simp only [v47, go_sem, Nat.reduceEqDiff, ↓reduceIte, reduceCtorEq, Nat.reduceAdd, Nat.reduceSub, Nat.reduceLeDiff, Nat.reduceMul, Nat.reduceLT, Int.reduceLT, Int.reduceLE, Int.reduceNeg, Int.cast_ofNat_Int, Int.reduceToNat, Int.toNat_zero, ne_eq, not_false_eq_true, Int.reduceEq, va, v1', Bool.not_false]
  by_cases v2 : validGrants g = true
  case neg =>
    have v2' : validGrants g = false := by simpa using v2
    simp only [v47, go_sem, Nat.reduceEqDiff, ↓reduceIte, reduceCtorEq, Nat.reduceAdd, Nat.reduceSub, Nat.reduceLeDiff, Nat.reduceMul, Nat.reduceLT, Int.reduceLT, Int.reduceLE, Int.reduceNeg, Int.cast_ofNat_Int, Int.reduceToNat, Int.toNat_zero, ne_eq, not_false_eq_true, Int.reduceEq, va, v1, vb, v2', Bool.not_true, Bool.not_false]
  simp only [v47, go_sem, Nat.reduceEqDiff, ↓reduceIte, reduceCtorEq, Nat.reduceAdd, Nat.reduceSub, Nat.reduceLeDiff, Nat.reduceMul, Nat.reduceLT, Int.reduceLT, Int.reduceLE, Int.reduceNeg, Int.cast_ofNat_Int, Int.reduceToNat, Int.toNat_zero, ne_eq, not_false_eq_true, Int.reduceEq, va, v1, vb, v2, Bool.not_true]
  refine W_rounds (T := Nat × List Op) (fun t => ⟨ofL [(1, .sl (g.map encG)), (5, .osl 0 0 t.2.length), (18, .sl (a.map encO)), (19, .int .i64 a.length), (20, .int .i64 t.1)], [some (.rw 39 (t.2.map encO))], 0⟩)
    (fun t => t.1 ≤ a.length ∧ t.2 = (a.take t.1).filter (allowO g)) (fun t => a.length - t.1) (0, []) rfl rfl ⟨Nat.zero_le _, rfl⟩ ?_
  rintro ⟨i, o⟩ ⟨hi, ho⟩ Q1 IH OUT
  simp only at hi ho
  by_cases h : i < a.length
  · have c1 : decide ((i : Int) < a.length) = true := decide_eq_true (by omega)
    have c2 : (0 : Int) ≤ i := by omega
    have hr : (List.map encO a)[i]? = some (encO a[i]) := by simp [h]
    have hw : IntKind.i64.wrap ((i : Int) + 1) = ((i + 1 : Nat) : Int) := by rw [wrap_small _ (by omega) (by omega)]; rfl
    have hnx := filter_next a (allowO g) i h
    have hol : o.length ≤ i := by rw [ho]; exact Nat.le_trans (List.length_filter_le _ _) (by rw [List.length_take]; omega)
    have c4 : o.length + 1 ≤ rowMax := by simp only [rowMax]; omega
    rw [← ho] at hnx
    generalize a[i] = x at hr hnx
    obtain ⟨⟨s1, s2⟩, kd, ⟨t1, t2⟩, ⟨f1, f2⟩, ⟨p1, p2⟩, vl, en, tx⟩ := x
    have hra := rightAt_c g hg s2 s1 s2
    have fy : allowO g ⟨⟨s1, s2⟩, kd, ⟨t1, t2⟩, ⟨f1, f2⟩, ⟨p1, p2⟩, vl, en, tx⟩ = true → ∀ σ', renorm [1, 5, 18, 19, 20] σ' = ⟨ofL [(1, .sl (g.map encG)), (5, .osl 0 0 (o.length + 1)), (18, .sl (a.map encO)), (19, .int .i64 a.length), (20, .int .i64 ((i + 1 : Nat) : Int))], [some (.rw 39 (o.map encO ++ [[.int .i64 s1, .int .i64 s2, .int .i64 kd, .int .i64 t1, .int .i64 t2, .int .i64 f1, .int .i64 f2, .int .i64 p1, .int .i64 p2, .int .i64 vl, .bool en, .str tx]]))], 0⟩ → rootsLive σ'.m σ'.st = true → Q1 .normal σ' := by
      intro hx σ' h1 h2
      rw [if_pos hx] at hnx
      refine IH (i + 1, o ++ [⟨⟨s1, s2⟩, kd, ⟨t1, t2⟩, ⟨f1, f2⟩, ⟨p1, p2⟩, vl, en, tx⟩]) σ' ⟨by simp only; omega, hnx.symm⟩ (by simp only; omega) ?_ h2
      rw [h1]; simp only [List.map_append, List.length_append]; rfl
    have fn : allowO g ⟨⟨s1, s2⟩, kd, ⟨t1, t2⟩, ⟨f1, f2⟩, ⟨p1, p2⟩, vl, en, tx⟩ = false → ∀ σ', renorm [1, 5, 18, 19, 20] σ' = ⟨ofL [(1, .sl (g.map encG)), (5, .osl 0 0 o.length), (18, .sl (a.map encO)), (19, .int .i64 a.length), (20, .int .i64 ((i + 1 : Nat) : Int))], [some (.rw 39 (o.map encO))], 0⟩ → rootsLive σ'.m σ'.st = true → Q1 .normal σ' := by
      intro hx σ' h1 h2
      rw [if_neg (by rw [hx]; simp), List.append_nil] at hnx
      exact IH (i + 1, o) σ' ⟨by simp only; omega, hnx.symm⟩ (by simp only; omega) h1 h2
    have hal : allowO g ⟨⟨s1, s2⟩, kd, ⟨t1, t2⟩, ⟨f1, f2⟩, ⟨p1, p2⟩, vl, en, tx⟩ = decide (rightAt g s2 ⟨s1, s2⟩ ≥ reqR kd) := rfl
    rw [hal] at fy fn
    generalize rightAt g s2 ⟨s1, s2⟩ = R at hra fy fn
    have body : ∀ n, reqR kd = n → n = reqR kd := fun _ h => h.symm
    by_cases h8 : kd = 8
    · have e8 : (kd == 8) = true := by simpa using h8
      rw [show reqR kd = 1 from if_pos (.inl h8)] at fy fn
      by_cases hR : R ≥ 1
      · have d := decide_eq_true hR
        simp only [go_sem, Nat.reduceEqDiff, ↓reduceIte, reduceCtorEq, Nat.reduceAdd, Nat.reduceSub, Nat.reduceLeDiff, Nat.reduceMul, Nat.reduceLT, Int.reduceLT, Int.reduceLE, Int.reduceNeg, Int.cast_ofNat_Int, Int.reduceToNat, Int.toNat_zero, ne_eq, not_false_eq_true, Int.reduceEq, c1, c2, c4, hr, hw, encO, e8, hra, d, beq_self_eq_true, List.length_map]
        exact fy d _ (by rw [renorm_eq]; simp only [List.map_cons, List.map_nil, go_sem, Nat.reduceEqDiff, ↓reduceIte, reduceCtorEq, Nat.reduceAdd, Nat.reduceSub, Nat.reduceLeDiff, Nat.reduceMul, Nat.reduceLT, Int.reduceLT, Int.reduceLE, Int.reduceNeg]; rfl) rfl
      · have d := decide_eq_false hR
        simp only [go_sem, Nat.reduceEqDiff, ↓reduceIte, reduceCtorEq, Nat.reduceAdd, Nat.reduceSub, Nat.reduceLeDiff, Nat.reduceMul, Nat.reduceLT, Int.reduceLT, Int.reduceLE, Int.reduceNeg, Int.cast_ofNat_Int, Int.reduceToNat, Int.toNat_zero, ne_eq, not_false_eq_true, Int.reduceEq, c1, c2, c4, hr, hw, encO, e8, hra, d, beq_self_eq_true, List.length_map]
        exact fn d _ (by rw [renorm_eq]; simp only [List.map_cons, List.map_nil, go_sem, Nat.reduceEqDiff, ↓reduceIte, reduceCtorEq, Nat.reduceAdd, Nat.reduceSub, Nat.reduceLeDiff, Nat.reduceMul, Nat.reduceLT, Int.reduceLT, Int.reduceLE, Int.reduceNeg]; rfl) rfl
    · have e8 : (kd == 8) = false := by simpa using h8
      by_cases h9 : kd = 9
      · have e9 : (kd == 9) = true := by simpa using h9
        rw [show reqR kd = 1 from if_pos (.inr h9)] at fy fn
        by_cases hR : R ≥ 1
        · have d := decide_eq_true hR
          simp only [go_sem, Nat.reduceEqDiff, ↓reduceIte, reduceCtorEq, Nat.reduceAdd, Nat.reduceSub, Nat.reduceLeDiff, Nat.reduceMul, Nat.reduceLT, Int.reduceLT, Int.reduceLE, Int.reduceNeg, Int.cast_ofNat_Int, Int.reduceToNat, Int.toNat_zero, ne_eq, not_false_eq_true, Int.reduceEq, c1, c2, c4, hr, hw, encO, e8, e9, hra, d, beq_self_eq_true, List.length_map]
          exact fy d _ (by rw [renorm_eq]; simp only [List.map_cons, List.map_nil, go_sem, Nat.reduceEqDiff, ↓reduceIte, reduceCtorEq, Nat.reduceAdd, Nat.reduceSub, Nat.reduceLeDiff, Nat.reduceMul, Nat.reduceLT, Int.reduceLT, Int.reduceLE, Int.reduceNeg]; rfl) rfl
        · have d := decide_eq_false hR
          simp only [go_sem, Nat.reduceEqDiff, ↓reduceIte, reduceCtorEq, Nat.reduceAdd, Nat.reduceSub, Nat.reduceLeDiff, Nat.reduceMul, Nat.reduceLT, Int.reduceLT, Int.reduceLE, Int.reduceNeg, Int.cast_ofNat_Int, Int.reduceToNat, Int.toNat_zero, ne_eq, not_false_eq_true, Int.reduceEq, c1, c2, c4, hr, hw, encO, e8, e9, hra, d, beq_self_eq_true, List.length_map]
          exact fn d _ (by rw [renorm_eq]; simp only [List.map_cons, List.map_nil, go_sem, Nat.reduceEqDiff, ↓reduceIte, reduceCtorEq, Nat.reduceAdd, Nat.reduceSub, Nat.reduceLeDiff, Nat.reduceMul, Nat.reduceLT, Int.reduceLT, Int.reduceLE, Int.reduceNeg]; rfl) rfl
      · have e9 : (kd == 9) = false := by simpa using h9
        rw [show reqR kd = 2 from if_neg (fun h => h.elim h8 h9)] at fy fn
        by_cases hR : R ≥ 2
        · have d := decide_eq_true hR
          simp only [go_sem, Nat.reduceEqDiff, ↓reduceIte, reduceCtorEq, Nat.reduceAdd, Nat.reduceSub, Nat.reduceLeDiff, Nat.reduceMul, Nat.reduceLT, Int.reduceLT, Int.reduceLE, Int.reduceNeg, Int.cast_ofNat_Int, Int.reduceToNat, Int.toNat_zero, ne_eq, not_false_eq_true, Int.reduceEq, c1, c2, c4, hr, hw, encO, e8, e9, hra, d, beq_self_eq_true, List.length_map]
          exact fy d _ (by rw [renorm_eq]; simp only [List.map_cons, List.map_nil, go_sem, Nat.reduceEqDiff, ↓reduceIte, reduceCtorEq, Nat.reduceAdd, Nat.reduceSub, Nat.reduceLeDiff, Nat.reduceMul, Nat.reduceLT, Int.reduceLT, Int.reduceLE, Int.reduceNeg]; rfl) rfl
        · have d := decide_eq_false hR
          simp only [go_sem, Nat.reduceEqDiff, ↓reduceIte, reduceCtorEq, Nat.reduceAdd, Nat.reduceSub, Nat.reduceLeDiff, Nat.reduceMul, Nat.reduceLT, Int.reduceLT, Int.reduceLE, Int.reduceNeg, Int.cast_ofNat_Int, Int.reduceToNat, Int.toNat_zero, ne_eq, not_false_eq_true, Int.reduceEq, c1, c2, c4, hr, hw, encO, e8, e9, hra, d, beq_self_eq_true, List.length_map]
          exact fn d _ (by rw [renorm_eq]; simp only [List.map_cons, List.map_nil, go_sem, Nat.reduceEqDiff, ↓reduceIte, reduceCtorEq, Nat.reduceAdd, Nat.reduceSub, Nat.reduceLeDiff, Nat.reduceMul, Nat.reduceLT, Int.reduceLT, Int.reduceLE, Int.reduceNeg]; rfl) rfl
  · have c1 : decide ((i : Int) < a.length) = false := decide_eq_false (by omega)
    have hos : o = allowL a g := by rw [ho, List.take_of_length_le (by omega)]; rfl
    simp only [go_sem, Nat.reduceEqDiff, ↓reduceIte, reduceCtorEq, Nat.reduceAdd, Nat.reduceSub, Nat.reduceLeDiff, Nat.reduceMul, Nat.reduceLT, Int.reduceLT, Int.reduceLE, Int.reduceNeg, c1]
    refine OUT _ _ (by simp) ?_
    simp only [go_sem, Nat.reduceEqDiff, ↓reduceIte, reduceCtorEq, Nat.reduceAdd, Nat.reduceSub, Nat.reduceLeDiff, Nat.reduceMul, Nat.reduceLT, Int.reduceLT, Int.reduceLE, Int.reduceNeg]
    rw [hos]; rfl
theorem AllowedOps_s (a : List Op) (g : List Grant) (ha : a.length ≤ 1048576) (hg : g.length ≤ 1048576) (ta : TX a) : CL 45 [.sl (a.map encO), .sl (g.map encG)] [] =
    some (if validLog a = true ∧ validGrants g = true then (.osl 0 0 (allowL a g).length, [some (.rw 39 ((allowL a g).map encO))]) else (.sl [], [])) := by
  refine callL_W _ _ _ (F := v45) rfl ?_
  have va := validLog_s a ha ta
  have vb := validGrants_s g hg
  by_cases v1 : validLog a = true
  case neg =>
    have v1' : validLog a = false := by simpa using v1
    simp only [v45, go_sem, Nat.reduceEqDiff, ↓reduceIte, reduceCtorEq, Nat.reduceAdd, Nat.reduceSub, Nat.reduceLeDiff, Nat.reduceMul, Nat.reduceLT, Int.reduceLT, Int.reduceLE, Int.reduceNeg, Int.cast_ofNat_Int, Int.reduceToNat, Int.toNat_zero, ne_eq, not_false_eq_true, Int.reduceEq, va, v1', Bool.not_false]
  by_cases v2 : validGrants g = true
  case neg =>
    have v2' : validGrants g = false := by simpa using v2
    simp only [v45, go_sem, Nat.reduceEqDiff, ↓reduceIte, reduceCtorEq, Nat.reduceAdd, Nat.reduceSub, Nat.reduceLeDiff, Nat.reduceMul, Nat.reduceLT, Int.reduceLT, Int.reduceLE, Int.reduceNeg, Int.cast_ofNat_Int, Int.reduceToNat, Int.toNat_zero, ne_eq, not_false_eq_true, Int.reduceEq, va, v1, vb, v2', Bool.not_true, Bool.not_false]
  simp only [v45, go_sem, Nat.reduceEqDiff, ↓reduceIte, reduceCtorEq, Nat.reduceAdd, Nat.reduceSub, Nat.reduceLeDiff, Nat.reduceMul, Nat.reduceLT, Int.reduceLT, Int.reduceLE, Int.reduceNeg, Int.cast_ofNat_Int, Int.reduceToNat, Int.toNat_zero, ne_eq, not_false_eq_true, Int.reduceEq, va, v1, vb, v2, Bool.not_true]
  have hau := validLog_op v1
  refine W_rounds (T := Nat × List Op) (fun t => ⟨ofL [(0, .sl (a.map encO)), (1, .sl (g.map encG)), (5, .osl 0 0 t.2.length), (6, .int .i64 t.1)], [some (.rw 39 (t.2.map encO))], 0⟩)
    (fun t => t.1 ≤ a.length ∧ t.2 = (a.take t.1).filter (allowO g)) (fun t => a.length - t.1) (0, []) (by rw [renorm_eq]; simp only [List.map_cons, List.map_nil, go_sem, Nat.reduceEqDiff, ↓reduceIte, reduceCtorEq, Nat.reduceAdd, Nat.reduceSub, Nat.reduceLeDiff, Nat.reduceMul, Nat.reduceLT, Int.reduceLT, Int.reduceLE, Int.reduceNeg]; rfl) rfl ⟨Nat.zero_le _, rfl⟩ ?_
  rintro ⟨i, o⟩ ⟨hi, ho⟩ Q1 IH OUT
  simp only at hi ho
  by_cases h : i < a.length
  · have c1 : decide ((i : Int) < a.length) = true := decide_eq_true (by omega)
    have c2 : (0 : Int) ≤ i := by omega
    have hr : (List.map encO a)[i]? = some (encO a[i]) := by simp [h]
    have hw : IntKind.i64.wrap ((i : Int) + 1) = ((i + 1 : Nat) : Int) := by rw [wrap_small _ (by omega) (by omega)]; rfl
    have hnx := filter_next a (allowO g) i h
    have hol : o.length ≤ i := by rw [ho]; exact Nat.le_trans (List.length_filter_le _ _) (by rw [List.length_take]; omega)
    have c4 : o.length + 1 ≤ rowMax := by simp only [rowMax]; omega
    rw [← ho] at hnx
    have hax := hau _ (List.getElem_mem h)
    generalize a[i] = x at hr hnx hax
    obtain ⟨⟨s1, s2⟩, kd, ⟨t1, t2⟩, ⟨f1, f2⟩, ⟨p1, p2⟩, vl, en, tx⟩ := x
    have hal := allowed_s g hg v2 s1 s2 kd t1 t2 f1 f2 p1 p2 vl en tx hax
    by_cases hx : allowO g ⟨⟨s1, s2⟩, kd, ⟨t1, t2⟩, ⟨f1, f2⟩, ⟨p1, p2⟩, vl, en, tx⟩ = true
    · rw [if_pos hx] at hnx
      rw [hx] at hal
      simp only [go_sem, Nat.reduceEqDiff, ↓reduceIte, reduceCtorEq, Nat.reduceAdd, Nat.reduceSub, Nat.reduceLeDiff, Nat.reduceMul, Nat.reduceLT, Int.reduceLT, Int.reduceLE, Int.reduceNeg, Int.cast_ofNat_Int, Int.reduceToNat, Int.toNat_zero, ne_eq, not_false_eq_true, Int.reduceEq, c1, c2, c4, hr, hw, encO, hal, beq_self_eq_true, List.length_map]
      refine IH (i + 1, o ++ [⟨⟨s1, s2⟩, kd, ⟨t1, t2⟩, ⟨f1, f2⟩, ⟨p1, p2⟩, vl, en, tx⟩]) _ ⟨by simp only; omega, hnx.symm⟩ (by simp only; omega) ?_ rfl
      rw [renorm_eq]; simp only [List.map_cons, List.map_nil, go_sem, Nat.reduceEqDiff, ↓reduceIte, reduceCtorEq, Nat.reduceAdd, Nat.reduceSub, Nat.reduceLeDiff, Nat.reduceMul, Nat.reduceLT, Int.reduceLT, Int.reduceLE, Int.reduceNeg, List.map_append, List.length_append]; rfl
    · have hx' : allowO g ⟨⟨s1, s2⟩, kd, ⟨t1, t2⟩, ⟨f1, f2⟩, ⟨p1, p2⟩, vl, en, tx⟩ = false := by simpa using hx
      rw [if_neg hx, List.append_nil] at hnx
      rw [hx'] at hal
      simp only [go_sem, Nat.reduceEqDiff, ↓reduceIte, reduceCtorEq, Nat.reduceAdd, Nat.reduceSub, Nat.reduceLeDiff, Nat.reduceMul, Nat.reduceLT, Int.reduceLT, Int.reduceLE, Int.reduceNeg, Int.cast_ofNat_Int, Int.reduceToNat, Int.toNat_zero, ne_eq, not_false_eq_true, Int.reduceEq, c1, c2, c4, hr, hw, encO, hal, beq_self_eq_true, List.length_map]
      exact IH (i + 1, o) _ ⟨by simp only; omega, hnx.symm⟩ (by simp only; omega) (by rw [renorm_eq]; simp only [List.map_cons, List.map_nil, go_sem, Nat.reduceEqDiff, ↓reduceIte, reduceCtorEq, Nat.reduceAdd, Nat.reduceSub, Nat.reduceLeDiff, Nat.reduceMul, Nat.reduceLT, Int.reduceLT, Int.reduceLE, Int.reduceNeg]; rfl) rfl
  · have c1 : decide ((i : Int) < a.length) = false := decide_eq_false (by omega)
    have hos : o = allowL a g := by rw [ho, List.take_of_length_le (by omega)]; rfl
    simp only [go_sem, Nat.reduceEqDiff, ↓reduceIte, reduceCtorEq, Nat.reduceAdd, Nat.reduceSub, Nat.reduceLeDiff, Nat.reduceMul, Nat.reduceLT, Int.reduceLT, Int.reduceLE, Int.reduceNeg, c1]
    refine OUT _ _ (by simp) ?_
    simp only [go_sem, Nat.reduceEqDiff, ↓reduceIte, reduceCtorEq, Nat.reduceAdd, Nat.reduceSub, Nat.reduceLeDiff, Nat.reduceMul, Nat.reduceLT, Int.reduceLT, Int.reduceLE, Int.reduceNeg]
    rw [hos]; rfl
set_option maxRecDepth 20000 in
set_option maxHeartbeats 2000000 in
theorem fnExactAllowedOps_law {dd : List D} (h : ArgsTy [kO, kG] dd) : CL 11 dd [] = some (.bool true, []) := by
  obtain ⟨_, _, rfl, hA, hB⟩ := args2 h
  obtain ⟨a, rfl, hla, hta⟩ := arg_ops hA
  obtain ⟨b, rfl, hlb⟩ := arg_grants hB
  refine callL_W _ _ _ (F := v11) rfl ?_
  have hz := szOpS_c a 1048576 hla hta (by decide) (by decide)
  obtain ⟨e1, e2, e3⟩ := szL_le a 1048576 (by decide)
  generalize szL 1048576 a = n at hz e1 e2 e3
  by_cases h : n < 0
  · rw [e3 h] at hz
    simp only [v11, go_sem, Nat.reduceEqDiff, ↓reduceIte, reduceCtorEq, Nat.reduceAdd, Nat.reduceSub, Nat.reduceLeDiff, Nat.reduceMul, Nat.reduceLT, Int.reduceLT, Int.reduceLE, Int.reduceNeg, Int.cast_ofNat_Int, Int.reduceToNat, Int.toNat_zero, ne_eq, not_false_eq_true, Int.reduceEq, hz, neg1']
  obtain ⟨la, ta⟩ := e2 (by omega)
  have d1 : decide (n < 0) = false := decide_eq_false h
  have hz2 := szGrantS_c b n hlb (by omega) (by omega)
  by_cases h' : n - b.length < 0
  · rw [if_pos h'] at hz2
    simp only [v11, go_sem, Nat.reduceEqDiff, ↓reduceIte, reduceCtorEq, Nat.reduceAdd, Nat.reduceSub, Nat.reduceLeDiff, Nat.reduceMul, Nat.reduceLT, Int.reduceLT, Int.reduceLE, Int.reduceNeg, Int.cast_ofNat_Int, Int.reduceToNat, Int.toNat_zero, ne_eq, not_false_eq_true, Int.reduceEq, hz, d1, hz2, neg1']
  rw [if_neg h'] at hz2
  have d2 : decide (n - (b.length : Int) < 0) = false := decide_eq_false h'
  have la' : a.length ≤ 1048576 := by omega
  have lb' : b.length ≤ 1048576 := by omega
  have txa : TX a := fun o ho => by have := ta o ho; omega
  have tac := toOpS_c a la'
  have tbc := toGrantS_c b lb'
  have ss := AllowedOps_s a b la' lb' txa
  have sc := AllowedOps_c a b la' lb' txa
  have eqa := eqOpS_c a a la' la'
  have eqb := eqGrantS_c b b lb' lb'
  have hr : (allowH a b).length ≤ 1048576 := by
    unfold allowH; split
    · exact Nat.le_trans (List.length_filter_le _ _) la'
    · simp
  have eqr := eqOpS_c (allowH a b) (allowH a b) hr hr
  simp only [decide_true] at eqa eqb eqr
  have ba := bare_encO 39 (allowH a b)
  have m1 := markO_c a 1 la' (by omega) (by omega)
  have m2 := markG_c b (1 + 12 * (a.length : Nat)) lb' (by omega) (by omega)
  have m3 := markO_c (allowH a b) 1 hr (by omega) (by omega)
  have hd := heldO_c (allowH a b).length 1 hr (by omega) (by omega)
  have k1 : decide (1 + 12 * (a.length : Int) + 5 * (b.length : Int) < 0) = false := decide_eq_false (by omega)
  have k2 : decide (1 + 12 * ((allowH a b).length : Int) < 0) = false := decide_eq_false (by omega)
  have tm : List.take (allowH a b).length (List.map encO (marksO 1 (allowH a b).length)) = List.map encO (marksO 1 (allowH a b).length) := List.take_of_length_le (by simp [marksO_len])
  have r1 := callWith_root1 (call := CL) (x := .osl 0 0 a.length) (st := [some (.rw 39 (a.map encO)), some (.rw 65 (b.map encG)), some (.rw 39 ((allowH a b).map encO))]) rfl rfl rfl rfl m1 rfl rfl
  have r2 := callWith_root1 (call := CL) (x := .osl 1 0 b.length) (st := [some (.rw 39 ((marksO 1 a.length).map encO)), some (.rw 65 (b.map encG)), some (.rw 39 ((allowH a b).map encO))]) rfl rfl rfl rfl m2 rfl rfl
  have r3 := callWith_root1 (call := CL) (x := .osl 2 0 (allowH a b).length) (st := [some (.rw 39 ((marksO 1 a.length).map encO)), some (.rw 65 ((marksG (1 + 12 * (a.length : Nat)) b.length).map encG)), some (.rw 39 ((allowH a b).map encO))]) rfl rfl rfl rfl m3 rfl rfl
  by_cases hv : validLog a = true ∧ validGrants b = true
  · rw [if_pos hv] at ss sc
    have hsp : allowL a b = allowH a b := by rw [show allowH a b = allowL a b from if_pos hv]
    rw [hsp] at ss sc
    simp only [v11, go_sem, Nat.reduceEqDiff, ↓reduceIte, reduceCtorEq, Nat.reduceAdd, Nat.reduceSub, Nat.reduceLeDiff, Nat.reduceMul, Nat.reduceLT, Int.reduceLT, Int.reduceLE, Int.reduceNeg, Int.cast_ofNat_Int, Int.reduceToNat, Int.toNat_zero, ne_eq, not_false_eq_true, Int.reduceEq, hz, d1, hz2, d2, tac, tbc, ss, sc, eqa, eqb, eqr, ba, r1, r2, r3, k1, k2, hd, tm, marksO_len, List.length_map, bne_self_eq_false, Bool.not_true]
  · rw [if_neg hv] at ss sc
    have hmg : allowH a b = [] := if_neg hv
    rw [hmg] at eqr r1 r2 r3 hd k2 tm
    simp only [List.length_nil, List.map_nil] at eqr r1 r2 r3 hd k2 tm
    simp only [v11, go_sem, Nat.reduceEqDiff, ↓reduceIte, reduceCtorEq, Nat.reduceAdd, Nat.reduceSub, Nat.reduceLeDiff, Nat.reduceMul, Nat.reduceLT, Int.reduceLT, Int.reduceLE, Int.reduceNeg, Int.cast_ofNat_Int, Int.reduceToNat, Int.toNat_zero, ne_eq, not_false_eq_true, Int.reduceEq, hz, d1, hz2, d2, tac, tbc, ss, sc, eqa, eqb, eqr, r1, r2, r3, k1, k2, hd, tm, marksO_len, List.length_map, List.length_nil, bne_self_eq_false, Bool.not_true]
    try simp
end Go.Vi.Code
