/- Contracts: the law RightAt. -/
import Derived.Test.YtojgihheepdgdaaViG14
set_option linter.unusedSimpArgs false
set_option linter.unusedVariables false
namespace Go.Vi.Code
theorem get_put_same (r : R3) (i n : Int) (h : i = 0 ∨ i = 1 ∨ i = 2) : (r.put i n).get i = n := by rcases h with rfl | rfl | rfl <;> rfl
theorem get_put_other (r : R3) (i j n : Int) (h : i = 0 ∨ i = 1 ∨ i = 2) (k : j = 0 ∨ j = 1 ∨ j = 2) (hne : j ≠ i) : (r.put i n).get j = r.get j := by
  rcases h with rfl | rfl | rfl <;> rcases k with rfl | rfl | rfl <;> first | rfl | exact absurd rfl hne
set_option maxRecDepth 20000 in
set_option maxHeartbeats 1000000 in
theorem fnRightAt_law {dd : List D} (h : ArgsTy [kC] dd) : CL 10 dd [] = some (.bool true, []) := by
  obtain ⟨_, rfl, hA⟩ := args1 h
  obtain ⟨xs, rfl, hb, _⟩ := arg_code hA
  refine callL_W _ _ _ (F := v10) rfl ?_
  by_cases hx : xs.length ≤ 1048576
  case neg =>
    have d1 : decide ((xs.length : Int) > 1048576) = true := decide_eq_true (by omega)
    simp only [v10, go_sem, Nat.reduceEqDiff, ↓reduceIte, reduceCtorEq, Nat.reduceAdd, Nat.reduceSub, Nat.reduceLeDiff, Nat.reduceMul, Nat.reduceLT, Int.reduceLT, Int.reduceLE, Int.reduceNeg, Int.cast_ofNat_Int, Int.reduceToNat, Int.toNat_zero, ne_eq, not_false_eq_true, Int.reduceEq, d1, List.length_map]
  have d1 : decide ((xs.length : Int) > 1048576) = false := decide_eq_false (by omega)
  obtain ⟨l, hg, hd⟩ := drawEff_e xs hb hx
  have es := effGrants_s l (by omega)
  have ec := effGrants_c l (by omega)
  have hr : (effGrants l).length ≤ 1048576 := by have := effGrants_len l; omega
  have eqr := equalBools_c (effGrants l) (effGrants l) hr hr
  simp only [decide_true] at eqr
  have hvc := validGrants_c l (by omega)
  by_cases hv : validGrants l = true
  case neg =>
    rw [if_neg hv] at ec
    have hv' : validGrants l = false := by simpa using hv
    have hmg : effGrants l = [] := by simp only [effGrants, hv, if_false]; rfl
    rw [hmg] at es eqr
    simp only [List.map_nil] at es eqr
    simp only [v10, go_sem, Nat.reduceEqDiff, ↓reduceIte, reduceCtorEq, Nat.reduceAdd, Nat.reduceSub, Nat.reduceLeDiff, Nat.reduceMul, Nat.reduceLT, Int.reduceLT, Int.reduceLE, Int.reduceNeg, Int.cast_ofNat_Int, Int.reduceToNat, Int.toNat_zero, ne_eq, not_false_eq_true, Int.reduceEq, d1, hd, es, ec, eqr, hvc, hv', List.length_map, Bool.not_true, Bool.not_false]
  rw [if_pos hv] at ec
  obtain ⟨hok, hsort, _⟩ := valid_spec hv
  have hE : effGrants l = effs first l := by simp only [effGrants, hv, if_true]
  rw [hE] at es ec eqr
  simp only [v10, go_sem, Nat.reduceEqDiff, ↓reduceIte, reduceCtorEq, Nat.reduceAdd, Nat.reduceSub, Nat.reduceLeDiff, Nat.reduceMul, Nat.reduceLT, Int.reduceLT, Int.reduceLE, Int.reduceNeg, Int.cast_ofNat_Int, Int.reduceToNat, Int.toNat_zero, ne_eq, not_false_eq_true, Int.reduceEq, d1, hd, es, ec, eqr, hvc, hv, List.length_map, Bool.not_true]
  refine W_rounds (T := Nat) (fun i => ⟨ofL [(3, .sl (l.map encG)), (4, .sl ((effs first l).map encB)), (5, .int .i64 i)], [], 0⟩) (fun i => i ≤ l.length) (fun i => l.length - i) 0 rfl rfl (Nat.zero_le _) ?_
  rintro i hi Q1 IH OUT
  by_cases h : i < l.length
  · have c1 : decide ((i : Int) < l.length) = true := decide_eq_true (by omega)
    have c2 : (0 : Int) ≤ i := by omega
    have hw : IntKind.i64.wrap ((i : Int) + 1) = ((i + 1 : Nat) : Int) := by rw [wrap_small _ (by omega) (by omega)]; rfl
    have hrow : (List.map encG l)[i]? = some (encG l[i]) := by simp [h]
    have hrb : (List.map encB (effs first l))[i]? = some [.bool (takeOk ((l.take i).foldl takeR first) l[i])] := by rw [List.getElem?_map, effs_at first l i h]; rfl
    have hown := rightsAt_own hsort i h
    have hnx := rightsAt_next hsort i h
    rw [take_next l i h, List.foldl_append] at hnx
    have hgr := hok _ (List.getElem_mem h)
    generalize hgi : l[i] = gg at hrow hrb hown hnx hgr
    obtain ⟨⟨s, au⟩, w, rt, en⟩ := gg
    obtain ⟨_, h1, h2, h3, h4⟩ := grantOk_spec hgr
    simp only at h1 h2 h3 h4
    have wa : IntKind.i64.wrap (au + 1) = au + 1 := wrap_small _ (by omega) (by omega)
    generalize (l.take i).foldl takeR first = R at hrb hown hnx
    simp only [List.foldl_cons, List.foldl_nil] at hnx hown
    simp only [go_sem, Nat.reduceEqDiff, ↓reduceIte, reduceCtorEq, Nat.reduceAdd, Nat.reduceSub, Nat.reduceLeDiff, Nat.reduceMul, Nat.reduceLT, Int.reduceLT, Int.reduceLE, Int.reduceNeg, Int.cast_ofNat_Int, Int.reduceToNat, Int.toNat_zero, ne_eq, not_false_eq_true, Int.reduceEq, c1, c2, hw, hrow, encG, wa, List.length_map]
    refine W_rounds (T := Nat) (fun k => ⟨ofL [(3, .sl (l.map encG)), (4, .sl ((effs first l).map encB)), (5, .int .i64 i), (6, .ptr 0 0), (7, .ptr 1 0), (8, .int .i64 k)], [some (.bx [.int .i64 s, .int .i64 au, .int .i64 w, .int .i64 rt, .bool en]), some (.bx [.int .i64 s, .int .i64 (au + 1)])], 0⟩) (fun k => k ≤ 3) (fun k => 3 - k) 0 (by rw [renorm_eq]; simp only [List.map_cons, List.map_nil, go_sem, Nat.reduceEqDiff, ↓reduceIte, reduceCtorEq, Nat.reduceAdd, Nat.reduceSub, Nat.reduceLeDiff, Nat.reduceMul, Nat.reduceLT, Int.reduceLT, Int.reduceLE, Int.reduceNeg]; rfl) rfl (Nat.zero_le _) ?_
    rintro k hk Q2 IH2 OUT2
    by_cases hk3 : k < 3
    · have c3 : decide ((k : Int) < 3) = true := decide_eq_true (by omega)
      have wk : IntKind.i64.wrap ((k : Int) + 1) = ((k + 1 : Nat) : Int) := by rw [wrap_small _ (by omega) (by omega)]; rfl
      have hka : isAuthor (k : Int) = true := by simp only [isAuthor, decide_eq_true_eq]; omega
      have hkc := author_cases hka
      have ho := rightAt_c l (by omega) k s au
      have hn := rightAt_c l (by omega) k s (au + 1)
      have e1 : rightAt l k ⟨s, au⟩ = R.get k := by simp only [rightAt, hv, hka, and_self, if_true]; rw [hown]
      have e2 : rightAt l k ⟨s, au + 1⟩ = (takeR R ⟨⟨s, au⟩, w, rt, en⟩).get k := by simp only [rightAt, hv, hka, and_self, if_true]; rw [hnx]
      rw [e1] at ho
      rw [e2] at hn
      have fin : ∀ σ', renorm [3, 4, 5, 6, 7, 8] σ' = ⟨ofL [(3, .sl (l.map encG)), (4, .sl ((effs first l).map encB)), (5, .int .i64 i), (6, .ptr 0 0), (7, .ptr 1 0), (8, .int .i64 ((k + 1 : Nat) : Int))], [some (.bx [.int .i64 s, .int .i64 au, .int .i64 w, .int .i64 rt, .bool en]), some (.bx [.int .i64 s, .int .i64 (au + 1)])], 0⟩ → rootsLive σ'.m σ'.st = true → Q2 .normal σ' := fun σ' a b => IH2 (k + 1) σ' (by omega) (by omega) a b
      clear IH IH2 OUT
      by_cases hT : takeOk R ⟨⟨s, au⟩, w, rt, en⟩ = true
      · by_cases hkw : (k : Int) = w
        · have t1 : ((k : Int) == w) = true := by simp [hkw]
          rw [hT] at hrb
          have e3 : (takeR R ⟨⟨s, au⟩, w, rt, en⟩).get k = if en = true then max (R.get k) rt else min (R.get k) (rt - 1) := by
            unfold takeR; rw [if_pos hT, hkw]; simp only; rw [get_put_same _ _ _ h2]
          rw [e3] at hn
          cases en
          · simp only [Bool.false_eq_true, if_false] at hn
            generalize R.get k = o at ho hn
            generalize hm : min o (rt - 1) = m at hn
            have t2 : decide (m ≥ rt) = false := decide_eq_false (by omega)
            have t3 : decide (m > o) = false := decide_eq_false (by omega)
            simp only [go_sem, Nat.reduceEqDiff, ↓reduceIte, reduceCtorEq, Nat.reduceAdd, Nat.reduceSub, Nat.reduceLeDiff, Nat.reduceMul, Nat.reduceLT, Int.reduceLT, Int.reduceLE, Int.reduceNeg, Int.cast_ofNat_Int, Int.reduceToNat, Int.toNat_zero, ne_eq, not_false_eq_true, Int.reduceEq, c1, c2, c3, wk, hw, hrow, hrb, ho, hn, t1, t2, t3, List.length_map]
            exact fin _ (by rw [renorm_eq]; simp only [List.map_cons, List.map_nil, go_sem, Nat.reduceEqDiff, ↓reduceIte, reduceCtorEq, Nat.reduceAdd, Nat.reduceSub, Nat.reduceLeDiff, Nat.reduceMul, Nat.reduceLT, Int.reduceLT, Int.reduceLE, Int.reduceNeg]; rfl) rfl
          · simp only [if_true] at hn
            generalize R.get k = o at ho hn
            generalize hm : max o rt = m at hn
            have t2 : decide (m < rt) = false := decide_eq_false (by omega)
            have t3 : decide (m < o) = false := decide_eq_false (by omega)
            simp only [go_sem, Nat.reduceEqDiff, ↓reduceIte, reduceCtorEq, Nat.reduceAdd, Nat.reduceSub, Nat.reduceLeDiff, Nat.reduceMul, Nat.reduceLT, Int.reduceLT, Int.reduceLE, Int.reduceNeg, Int.cast_ofNat_Int, Int.reduceToNat, Int.toNat_zero, ne_eq, not_false_eq_true, Int.reduceEq, c1, c2, c3, wk, hw, hrow, hrb, ho, hn, t1, t2, t3, List.length_map]
            exact fin _ (by rw [renorm_eq]; simp only [List.map_cons, List.map_nil, go_sem, Nat.reduceEqDiff, ↓reduceIte, reduceCtorEq, Nat.reduceAdd, Nat.reduceSub, Nat.reduceLeDiff, Nat.reduceMul, Nat.reduceLT, Int.reduceLT, Int.reduceLE, Int.reduceNeg]; rfl) rfl
        · have t1 : ((k : Int) == w) = false := by simp [hkw]
          rw [hT] at hrb
          have e3 : (takeR R ⟨⟨s, au⟩, w, rt, en⟩).get k = R.get k := by
            unfold takeR; rw [if_pos hT]; exact get_put_other _ _ _ _ h2 hkc hkw
          rw [e3] at hn
          simp only [go_sem, Nat.reduceEqDiff, ↓reduceIte, reduceCtorEq, Nat.reduceAdd, Nat.reduceSub, Nat.reduceLeDiff, Nat.reduceMul, Nat.reduceLT, Int.reduceLT, Int.reduceLE, Int.reduceNeg, Int.cast_ofNat_Int, Int.reduceToNat, Int.toNat_zero, ne_eq, not_false_eq_true, Int.reduceEq, c1, c2, c3, wk, hw, hrow, hrb, ho, hn, t1, bne_self_eq_false, List.length_map]
          exact fin _ (by rw [renorm_eq]; simp only [List.map_cons, List.map_nil, go_sem, Nat.reduceEqDiff, ↓reduceIte, reduceCtorEq, Nat.reduceAdd, Nat.reduceSub, Nat.reduceLeDiff, Nat.reduceMul, Nat.reduceLT, Int.reduceLT, Int.reduceLE, Int.reduceNeg]; rfl) rfl
      · have hT' : takeOk R ⟨⟨s, au⟩, w, rt, en⟩ = false := by simpa using hT
        rw [hT'] at hrb
        have e3 : (takeR R ⟨⟨s, au⟩, w, rt, en⟩).get k = R.get k := by
          unfold takeR; rw [if_neg hT]
        rw [e3] at hn
        simp only [go_sem, Nat.reduceEqDiff, ↓reduceIte, reduceCtorEq, Nat.reduceAdd, Nat.reduceSub, Nat.reduceLeDiff, Nat.reduceMul, Nat.reduceLT, Int.reduceLT, Int.reduceLE, Int.reduceNeg, Int.cast_ofNat_Int, Int.reduceToNat, Int.toNat_zero, ne_eq, not_false_eq_true, Int.reduceEq, c1, c2, c3, wk, hw, hrow, hrb, ho, hn, bne_self_eq_false, List.length_map]
        exact fin _ (by rw [renorm_eq]; simp only [List.map_cons, List.map_nil, go_sem, Nat.reduceEqDiff, ↓reduceIte, reduceCtorEq, Nat.reduceAdd, Nat.reduceSub, Nat.reduceLeDiff, Nat.reduceMul, Nat.reduceLT, Int.reduceLT, Int.reduceLE, Int.reduceNeg]; rfl) rfl
    · have c3 : decide ((k : Int) < 3) = false := decide_eq_false (by omega)
      simp only [go_sem, Nat.reduceEqDiff, ↓reduceIte, reduceCtorEq, Nat.reduceAdd, Nat.reduceSub, Nat.reduceLeDiff, Nat.reduceMul, Nat.reduceLT, Int.reduceLT, Int.reduceLE, Int.reduceNeg, Int.cast_ofNat_Int, Int.reduceToNat, Int.toNat_zero, ne_eq, not_false_eq_true, Int.reduceEq, c3]
      refine OUT2 _ _ (by simp) ?_
      simp only [go_sem, Nat.reduceEqDiff, ↓reduceIte, reduceCtorEq, Nat.reduceAdd, Nat.reduceSub, Nat.reduceLeDiff, Nat.reduceMul, Nat.reduceLT, Int.reduceLT, Int.reduceLE, Int.reduceNeg, Int.cast_ofNat_Int, Int.reduceToNat, Int.toNat_zero, ne_eq, not_false_eq_true, Int.reduceEq, hw]
      exact IH (i + 1) _ (by omega) (by omega) rfl rfl
  · have c1 : decide ((i : Int) < l.length) = false := decide_eq_false (by omega)
    simp only [go_sem, Nat.reduceEqDiff, ↓reduceIte, reduceCtorEq, Nat.reduceAdd, Nat.reduceSub, Nat.reduceLeDiff, Nat.reduceMul, Nat.reduceLT, Int.reduceLT, Int.reduceLE, Int.reduceNeg, c1, List.length_map]
    refine OUT _ _ (by simp) ?_
    simp only [go_sem, Nat.reduceEqDiff, ↓reduceIte, reduceCtorEq, Nat.reduceAdd, Nat.reduceSub, Nat.reduceLeDiff, Nat.reduceMul, Nat.reduceLT, Int.reduceLT, Int.reduceLE, Int.reduceNeg, Int.cast_ofNat_Int, Int.reduceToNat, Int.toNat_zero, ne_eq, not_false_eq_true, Int.reduceEq]
end Go.Vi.Code
