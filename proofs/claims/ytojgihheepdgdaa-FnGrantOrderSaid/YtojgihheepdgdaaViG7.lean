/- Contracts: the specification's RightAt, both EffectiveGrants; the law ExactRightAt. -/
import Derived.Test.YtojgihheepdgdaaViG6
set_option linter.unusedSimpArgs false
set_option linter.unusedVariables false
namespace Go.Vi.Code
theorem before_filter {l : List Grant} (h : l.Pairwise (fun a b => stampLess a.id b.id = true)) (t : Stamp) : before l t = l.filter fun g => stampLess g.id t := by
  induction l with
  | nil => rfl
  | cons x l ih =>
    obtain ⟨h1, h2⟩ := List.pairwise_cons.1 h
    unfold before at ih ⊢
    by_cases hx : stampLess x.id t = true
    · rw [List.takeWhile_cons, List.filter_cons, if_pos hx, if_pos hx, ih h2]
    · rw [List.takeWhile_cons, List.filter_cons, if_neg hx, if_neg hx]
      symm
      rw [List.filter_eq_nil_iff]
      intro y hy hyt
      apply hx
      have := h1 y hy
      simp only [stampLess, decide_eq_true_eq] at this hyt ⊢
      omega
@[go_sem] theorem rows3_len (R : R3) : (rows3 R).length = 3 := rfl
@[go_sem] theorem rows3_take (R : R3) : (rows3 R).take 3 = rows3 R := rfl
theorem rights_s' (l : List Grant) (hl : l.length ≤ 1048576) (hok : ∀ g ∈ l, grantOk g = true) (a1 a2 : Int) : CL 56 [.sl (l.map encG), .agg [.int .i64 a1, .int .i64 a2]] [] =
    some (.tup [.osl 0 0 3, .osl 1 0 (effs first (before l ⟨a1, a2⟩)).length], [some (.rw 3 (rows3 ((before l ⟨a1, a2⟩).foldl takeR first))), some (.rw 4 ((effs first (before l ⟨a1, a2⟩)).map encB))]) := by
  rw [effs_len]
  exact rights_s l hl hok a1 a2
theorem rightAt_s (l : List Grant) (hl : l.length ≤ 1048576) (who a1 a2 : Int) : CL 20 [.sl (l.map encG), .int .i64 who, .agg [.int .i64 a1, .int .i64 a2]] [] = some (.int .i64 (rightAt l who ⟨a1, a2⟩), []) := by
  refine callL_W _ _ _ (F := v20) rfl ?_
  have hvc := validGrants_s l hl
  by_cases hv : validGrants l = true
  case neg =>
    have hv' : validGrants l = false := by simpa using hv
    simp only [v20, go_sem, Nat.reduceEqDiff, ↓reduceIte, reduceCtorEq, Nat.reduceAdd, Nat.reduceSub, Nat.reduceLeDiff, Nat.reduceMul, Nat.reduceLT, Int.reduceLT, Int.reduceLE, Int.reduceNeg, hvc, hv', Bool.not_false]
    simp only [rightAt, hv', Bool.false_eq_true, false_and, if_false]
  by_cases ha : isAuthor who = true
  case neg =>
    have ha' : decide (0 ≤ who ∧ who ≤ 2) = false := by
      rw [decide_eq_false_iff_not]
      intro h
      exact ha (by simp only [isAuthor, decide_eq_true_eq]; omega)
    simp only [v20, go_sem, Nat.reduceEqDiff, ↓reduceIte, reduceCtorEq, Nat.reduceAdd, Nat.reduceSub, Nat.reduceLeDiff, Nat.reduceMul, Nat.reduceLT, Int.reduceLT, Int.reduceLE, Int.reduceNeg, hvc, hv, inRange_c, ha', Bool.not_false, Bool.not_true]
    simp [rightAt, ha]
  have hac := author_cases ha
  have ha' : decide (0 ≤ who ∧ who ≤ 2) = true := by
    rw [decide_eq_true_eq]
    omega
  obtain ⟨hok, hsort, _⟩ := valid_spec hv
  have h0 : 0 ≤ who := by omega
  have hle : decide (who ≤ 2) = true := decide_eq_true (by omega)
  have hR := rows3_at ((before l ⟨a1, a2⟩).foldl takeR first) who hac
  have hr := rights_s' l hl hok a1 a2
  simp only [v20, go_sem, Nat.reduceEqDiff, ↓reduceIte, reduceCtorEq, Nat.reduceAdd, Nat.reduceSub, Nat.reduceLeDiff, Nat.reduceMul, Nat.reduceLT, Int.reduceLT, Int.reduceLE, Int.reduceNeg, hvc, hv, inRange_c, hle, Bool.not_true, hr, h0, hR]
  simp only [rightAt, hv, ha, and_self, if_true, rightsAt, before_filter hsort]
def effGrants (l : List Grant) : List Bool := if validGrants l = true then effs first l else []
theorem before_all {l : List Grant} (h : ∀ g ∈ l, grantOk g = true) : before l ⟨100, 0⟩ = l := by
  unfold before
  have := takeWhile_of (fun g : Grant => stampLess g.id ⟨100, 0⟩) l l.length (Nat.le_refl _) (fun j hj _ => by
    obtain ⟨h1, _⟩ := grantOk_spec (h _ (List.getElem_mem hj))
    simp only [stampLess, decide_eq_true_eq]
    omega) (fun h => absurd h (Nat.lt_irrefl _))
  rw [this, List.take_length]
theorem effGrants_s (l : List Grant) (hl : l.length ≤ 1048576) : CL 33 [.sl (l.map encG)] [] = some (.sl ((effGrants l).map encB), []) := by
  refine callL_W _ _ _ (F := v33) rfl ?_
  have hvc := validGrants_s l hl
  by_cases hv : validGrants l = true
  case neg =>
    have hv' : validGrants l = false := by simpa using hv
    simp only [v33, go_sem, Nat.reduceEqDiff, ↓reduceIte, reduceCtorEq, Nat.reduceAdd, Nat.reduceSub, Nat.reduceLeDiff, Nat.reduceMul, Nat.reduceLT, Int.reduceLT, Int.reduceLE, Int.reduceNeg, hvc, hv', Bool.not_false]
    simp only [effGrants, hv', Bool.false_eq_true, if_false]
    rfl
  obtain ⟨hok, hsort, _⟩ := valid_spec hv
  have hr := rights_s' l hl hok 100 0
  rw [before_all hok] at hr
  simp only [v33, go_sem, Nat.reduceEqDiff, ↓reduceIte, reduceCtorEq, Nat.reduceAdd, Nat.reduceSub, Nat.reduceLeDiff, Nat.reduceMul, Nat.reduceLT, Int.reduceLT, Int.reduceLE, Int.reduceNeg, hvc, hv, Bool.not_true, hr, endOfTime_c]
  simp only [effGrants, hv, if_true]

theorem effGrants_c (l : List Grant) (hl : l.length ≤ 1048576) : CL 31 [.sl (l.map encG)] [] =
    some (if validGrants l = true then (.osl 0 0 (effGrants l).length, [some (.rw 4 ((effGrants l).map encB))]) else (.nsl, [])) := by
  refine callL_W _ _ _ (F := v31) rfl ?_
  have hvc := validGrants_c l hl
  by_cases hv : validGrants l = true
  case neg =>
    have hv' : validGrants l = false := by simpa using hv
    simp only [v31, go_sem, Nat.reduceEqDiff, ↓reduceIte, reduceCtorEq, Nat.reduceAdd, Nat.reduceSub, Nat.reduceLeDiff, Nat.reduceMul, Nat.reduceLT, Int.reduceLT, Int.reduceLE, Int.reduceNeg, hvc, hv', Bool.not_false]
  obtain ⟨hok, _, _⟩ := valid_spec hv
  simp only [v31, go_sem, Nat.reduceEqDiff, ↓reduceIte, reduceCtorEq, Nat.reduceAdd, Nat.reduceSub, Nat.reduceLeDiff, Nat.reduceMul, Nat.reduceLT, Int.reduceLT, Int.reduceLE, Int.reduceNeg, hvc, hv, Bool.not_true, firstRights_c]
  refine W_rounds (T := Nat × List (List D)) (fun t => ⟨ofL [(3, .osl 0 0 t.1), (4, .ptr 1 0), (12, .sl (l.map encG)), (13, .int .i64 l.length), (14, .int .i64 t.1)], [some (.rw 4 t.2), some (.bx (cells3 ((l.take t.1).foldl takeR first)))], 0⟩)
    (fun t => t.1 ≤ l.length ∧ t.2 = (effs first (l.take t.1)).map encB) (fun t => l.length - t.1) (0, []) rfl rfl ⟨Nat.zero_le _, rfl⟩ ?_
  rintro ⟨i, rows⟩ ⟨hi, hrows⟩ Q1 IH OUT
  simp only at hi hrows
  have hlen : rows.length = i := by rw [hrows, List.length_map, effs_len, List.length_take]; omega
  by_cases h : i < l.length
  · have c1 : decide ((i : Int) < l.length) = true := decide_eq_true (by omega)
    have c2 : (0 : Int) ≤ i := by omega
    have c4 : i + 1 ≤ rowMax := by simp only [rowMax]; omega
    have hr : (List.map encG l)[i]? = some (encG l[i]) := by simp [h]
    have hw : IntKind.i64.wrap ((i : Int) + 1) = ((i + 1 : Nat) : Int) := by rw [wrap_small _ (by omega) (by omega)]; rfl
    have hg : grantOk l[i] = true := hok _ (List.getElem_mem h)
    have hnext := take_next l i h
    rcases hgi : l[i] with ⟨⟨s, au⟩, w, rt, en⟩
    rw [hgi] at hr hg hnext
    generalize hRR : (l.take i).foldl takeR first = R at *
    have hF : (l.take (i + 1)).foldl takeR first = takeR R ⟨⟨s, au⟩, w, rt, en⟩ := by rw [hnext, List.foldl_append, hRR]; rfl
    have hE : rows ++ [[.bool (takeOk R ⟨⟨s, au⟩, w, rt, en⟩)]] = (effs first (l.take (i + 1))).map encB := by rw [hnext, effs_snoc, List.map_append, ← hrows, hRR]; rfl
    have hcw := callWith_root1 (call := CL) (x := .ptr 1 0) (st := [some (.rw 4 rows), some (.bx (cells3 R)), some (.bx [.int .i64 s, .int .i64 au, .int .i64 w, .int .i64 rt, .bool en])]) rfl rfl rfl rfl (take_c _ _ _ _ _ _ _ _ hg) rfl rfl
    simp only [go_sem, Nat.reduceEqDiff, ↓reduceIte, reduceCtorEq, Nat.reduceAdd, Nat.reduceSub, Nat.reduceLeDiff, Nat.reduceMul, Nat.reduceLT, Int.reduceLT, Int.reduceLE, Int.reduceNeg, c1, c2, c4, hr, hw, encG, hcw, hlen]
    exact IH (i + 1, _) _ ⟨by simp only; omega, hE⟩ (by simp only; omega) (by simp only; rw [hF, renorm_eq]; simp only [List.map_cons, List.map_nil, go_sem, Nat.reduceEqDiff, ↓reduceIte, reduceCtorEq, Nat.reduceAdd, Nat.reduceSub, Nat.reduceLeDiff, Nat.reduceMul, Nat.reduceLT, Int.reduceLT, Int.reduceLE, Int.reduceNeg]; rfl) rfl
  · have c1 : decide ((i : Int) < l.length) = false := decide_eq_false (by omega)
    have hil : i = l.length := by omega
    simp only [go_sem, Nat.reduceEqDiff, ↓reduceIte, reduceCtorEq, Nat.reduceAdd, Nat.reduceSub, Nat.reduceLeDiff, Nat.reduceMul, Nat.reduceLT, Int.reduceLT, Int.reduceLE, Int.reduceNeg, c1]
    refine OUT _ _ (by simp) ?_
    simp only [go_sem, Nat.reduceEqDiff, ↓reduceIte, reduceCtorEq, Nat.reduceAdd, Nat.reduceSub, Nat.reduceLeDiff, Nat.reduceMul, Nat.reduceLT, Int.reduceLT, Int.reduceLE, Int.reduceNeg]
    have e : effGrants l = effs first l := by simp only [effGrants, hv, if_true]
    rw [e, effs_len, ← hil, hrows, hil, List.take_length]
    rfl

theorem fnExactRightAt_law {dd : List D} (h : ArgsTy [kG, (false, [.int .i64]), (true, [.int .i64, .int .i64])] dd) : CL 4 dd [] = some (.bool true, []) := by
  obtain ⟨a, b, c, rfl, ha, hb, hc⟩ := args3 h
  obtain ⟨l, rfl, hl⟩ := arg_grants ha
  obtain ⟨who, rfl, _⟩ := arg_i64 hb
  obtain ⟨t1, t2, rfl, _⟩ := arg_stamp hc
  refine callL_W _ _ _ (F := v4) rfl ?_
  have hz := szGrantS_c l 1048576 hl (by decide) (by decide)
  by_cases h : l.length ≤ 1048576
  · have c1 : ((1048576 : Int) - l.length < 0) = False := eq_false (by omega)
    have h1 := toGrantS_c l h
    have h2 := eqGrantS_c l l h h
    simp only [v4, go_sem, Nat.reduceEqDiff, ↓reduceIte, reduceCtorEq, Nat.reduceAdd, Nat.reduceSub, Nat.reduceLeDiff, Nat.reduceMul, Nat.reduceLT, Int.reduceLT, Int.reduceLE, Int.reduceNeg, hz, c1, h1, h2, toStamp_c, rightAt_s l h, rightAt_c l h, bne_self_eq_false]
  · have c1 : ((1048576 : Int) - l.length < 0) = True := eq_true (by omega)
    simp only [v4, go_sem, Nat.reduceEqDiff, ↓reduceIte, reduceCtorEq, Nat.reduceAdd, Nat.reduceSub, Nat.reduceLeDiff, Nat.reduceMul, Nat.reduceLT, Int.reduceLT, Int.reduceLE, Int.reduceNeg, hz, c1]
end Go.Vi.Code
