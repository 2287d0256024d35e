/- Contracts: the law GrantOrder. -/
import Derived.Test.YtojgihheepdgdaaViG16
set_option linter.unusedSimpArgs false
set_option linter.unusedVariables false
namespace Go.Vi.Code
set_option maxRecDepth 20000 in
set_option maxHeartbeats 1000000 in
theorem fnGrantOrder_law {dd : List D} (h : ArgsTy [kC] dd) : CL 6 dd [] = some (.bool true, []) := by
  obtain ⟨_, rfl, hA⟩ := args1 h
  obtain ⟨xs, rfl, hb, _⟩ := arg_code hA
  refine callL_W _ _ _ (F := v6) rfl ?_
  by_cases hx : xs.length ≤ 1048576
  case neg =>
    have d1 : decide ((xs.length : Int) > 1048576) = true := decide_eq_true (by omega)
    simp only [v6, go_sem, Nat.reduceEqDiff, ↓reduceIte, reduceCtorEq, Nat.reduceAdd, Nat.reduceSub, Nat.reduceLeDiff, Nat.reduceMul, Nat.reduceLT, Int.reduceLT, Int.reduceLE, Int.reduceNeg, Int.cast_ofNat_Int, Int.reduceToNat, Int.toNat_zero, ne_eq, not_false_eq_true, Int.reduceEq, d1, List.length_map]
  have d1 : decide ((xs.length : Int) > 1048576) = false := decide_eq_false (by omega)
  obtain ⟨a, b, la, lb, hd⟩ := drawMerge_e xs hb hx
  have ms := merge_s a b (by omega) (by omega)
  have mc := merge_c a b (by omega) (by omega)
  by_cases hv : validGrants a = true ∧ validGrants b = true
  case neg =>
    rw [if_neg hv] at mc
    have hmg : mergeG a b = ([], false) := by simp only [mergeG, hv, if_false]
    rw [hmg] at ms
    have eq := equalGrants_c [] [] (by simp) (by simp)
    simp only [List.map_nil, decide_true] at ms eq
    simp only [v6, go_sem, Nat.reduceEqDiff, ↓reduceIte, reduceCtorEq, Nat.reduceAdd, Nat.reduceSub, Nat.reduceLeDiff, Nat.reduceMul, Nat.reduceLT, Int.reduceLT, Int.reduceLE, Int.reduceNeg, Int.cast_ofNat_Int, Int.reduceToNat, Int.toNat_zero, ne_eq, not_false_eq_true, Int.reduceEq, d1, hd, ms, mc, eq, List.length_map, Bool.not_true, Bool.not_false, bne_self_eq_false, beq_self_eq_true]
  rw [if_pos hv] at mc
  obtain ⟨oa, sa, _⟩ := valid_spec hv.1
  obtain ⟨ob, sb, _⟩ := valid_spec hv.2
  by_cases hl : (mergeI a b).length ≤ 20
  case neg =>
    have hmg : mergeG a b = (a, false) := by simp only [mergeG, hv, and_self, if_true, hl, if_false]
    rw [hmg] at ms mc
    have eq := equalGrants_c a a (by omega) (by omega)
    simp only [decide_true] at eq
    simp only [v6, go_sem, Nat.reduceEqDiff, ↓reduceIte, reduceCtorEq, Nat.reduceAdd, Nat.reduceSub, Nat.reduceLeDiff, Nat.reduceMul, Nat.reduceLT, Int.reduceLT, Int.reduceLE, Int.reduceNeg, Int.cast_ofNat_Int, Int.reduceToNat, Int.toNat_zero, ne_eq, not_false_eq_true, Int.reduceEq, d1, hd, ms, mc, eq, List.length_map, Bool.not_true, Bool.not_false, bne_self_eq_false, beq_self_eq_true]
  have hmg : mergeG a b = (mergeI a b, true) := by simp only [mergeG, hv, and_self, if_true, hl]
  rw [hmg] at ms mc
  have eqm := equalGrants_c (mergeI a b) (mergeI a b) (by omega) (by omega)
  simp only [decide_true] at eqm
  have hcom : (∀ x ∈ a, ∀ y ∈ b, x.id = y.id → x = y) → CL 24 [.sl (b.map encG), .sl (a.map encG)] [] = some (.tup [.osl 0 0 (mergeI a b).length, .bool true], [some (.rw 41 ((mergeI a b).map encG))]) := by
    intro hc
    have := merge_c b a (by omega) (by omega)
    rw [if_pos ⟨hv.2, hv.1⟩] at this
    have e : mergeG b a = (mergeI a b, true) := by
      simp only [mergeG, hv, and_self, if_true, ← mergeI_comm a b sa sb hc, hl]
    rw [e] at this
    exact this
  generalize mergeI a b = m at *
  simp only [v6, go_sem, Nat.reduceEqDiff, ↓reduceIte, reduceCtorEq, Nat.reduceAdd, Nat.reduceSub, Nat.reduceLeDiff, Nat.reduceMul, Nat.reduceLT, Int.reduceLT, Int.reduceLE, Int.reduceNeg, Int.cast_ofNat_Int, Int.reduceToNat, Int.toNat_zero, ne_eq, not_false_eq_true, Int.reduceEq, d1, hd, ms, mc, eqm, List.length_map, Bool.not_true, Bool.not_false, bne_self_eq_false, beq_self_eq_true]
  refine W_rounds (T := Nat) (fun i => ⟨ofL [(3, .sl (a.map encG)), (4, .sl (b.map encG)), (5, .sl (m.map encG)), (9, .int .i64 i)], [], 0⟩) (fun i => i ≤ a.length ∧ ∀ j (h : j < a.length), j < i → ∀ y ∈ b, a[j].id = y.id → a[j] = y) (fun i => a.length - i) 0 (by rw [renorm_eq]; simp only [List.map_cons, List.map_nil, go_sem, Nat.reduceEqDiff, ↓reduceIte, reduceCtorEq, Nat.reduceAdd, Nat.reduceSub, Nat.reduceLeDiff, Nat.reduceMul, Nat.reduceLT, Int.reduceLT, Int.reduceLE, Int.reduceNeg]; rfl) rfl ⟨Nat.zero_le _, fun j h h0 => by omega⟩ ?_
  rintro i ⟨hi, hpre⟩ Q1 IH OUT
  by_cases h : i < a.length
  case neg =>
    have c1 : decide ((i : Int) < a.length) = false := decide_eq_false (by omega)
    have hbm := hcom (fun x hx y hy e => by
      obtain ⟨j, hj, rfl⟩ := List.getElem_of_mem hx
      exact hpre j hj (by omega) y hy e)
    simp only [go_sem, Nat.reduceEqDiff, ↓reduceIte, reduceCtorEq, Nat.reduceAdd, Nat.reduceSub, Nat.reduceLeDiff, Nat.reduceMul, Nat.reduceLT, Int.reduceLT, Int.reduceLE, Int.reduceNeg, c1, List.length_map]
    refine OUT _ _ (by simp) ?_
    simp only [go_sem, Nat.reduceEqDiff, ↓reduceIte, reduceCtorEq, Nat.reduceAdd, Nat.reduceSub, Nat.reduceLeDiff, Nat.reduceMul, Nat.reduceLT, Int.reduceLT, Int.reduceLE, Int.reduceNeg, Int.cast_ofNat_Int, Int.reduceToNat, Int.toNat_zero, ne_eq, not_false_eq_true, Int.reduceEq, hbm, eqm, List.length_map]
  have c1 : decide ((i : Int) < a.length) = true := decide_eq_true (by omega)
  have hw : IntKind.i64.wrap ((i : Int) + 1) = ((i + 1 : Nat) : Int) := by rw [wrap_small _ (by omega) (by omega)]; rfl
  have ci : (0 : Int) ≤ i := by omega
  have hra : (List.map encG a)[i]? = some (encG a[i]) := by simp [h]
  have hpre2 := fun (hy : ∀ y ∈ b, a[i].id = y.id → a[i] = y) j (hj : j < a.length) (hji : j < i + 1) => (show ∀ y ∈ b, a[j].id = y.id → a[j] = y from by
    rcases Nat.lt_succ_iff_lt_or_eq.1 hji with h3 | h3
    · exact hpre j hj h3
    · subst h3; exact hy)
  generalize a[i] = ga at hra hpre2
  obtain ⟨⟨s, au⟩, w, rt, en⟩ := ga
  simp only [go_sem, Nat.reduceEqDiff, ↓reduceIte, reduceCtorEq, Nat.reduceAdd, Nat.reduceSub, Nat.reduceLeDiff, Nat.reduceMul, Nat.reduceLT, Int.reduceLT, Int.reduceLE, Int.reduceNeg, Int.cast_ofNat_Int, Int.reduceToNat, Int.toNat_zero, ne_eq, not_false_eq_true, Int.reduceEq, c1, List.length_map]
  refine W_rounds (T := Nat) (fun k => ⟨ofL [(3, .sl (a.map encG)), (4, .sl (b.map encG)), (5, .sl (m.map encG)), (9, .int .i64 i), (10, .int .i64 k)], [], 0⟩) (fun k => k ≤ b.length ∧ ∀ j (h : j < b.length), j < k → (⟨s, au⟩ : Stamp) = b[j].id → (⟨⟨s, au⟩, w, rt, en⟩ : Grant) = b[j]) (fun k => b.length - k) 0 (by rw [renorm_eq]; simp only [List.map_cons, List.map_nil, go_sem, Nat.reduceEqDiff, ↓reduceIte, reduceCtorEq, Nat.reduceAdd, Nat.reduceSub, Nat.reduceLeDiff, Nat.reduceMul, Nat.reduceLT, Int.reduceLT, Int.reduceLE, Int.reduceNeg]; rfl) rfl ⟨Nat.zero_le _, fun j h h0 => by omega⟩ ?_
  rintro k ⟨hk, hin⟩ Q2 IH2 OUT2
  by_cases hkb : k < b.length
  case neg =>
    have d3 : decide ((k : Int) < b.length) = false := decide_eq_false (by omega)
    simp only [go_sem, Nat.reduceEqDiff, ↓reduceIte, reduceCtorEq, Nat.reduceAdd, Nat.reduceSub, Nat.reduceLeDiff, Nat.reduceMul, Nat.reduceLT, Int.reduceLT, Int.reduceLE, Int.reduceNeg, d3, List.length_map]
    refine OUT2 _ _ (by simp) ?_
    simp only [go_sem, Nat.reduceEqDiff, ↓reduceIte, reduceCtorEq, Nat.reduceAdd, Nat.reduceSub, Nat.reduceLeDiff, Nat.reduceMul, Nat.reduceLT, Int.reduceLT, Int.reduceLE, Int.reduceNeg, Int.cast_ofNat_Int, Int.reduceToNat, Int.toNat_zero, ne_eq, not_false_eq_true, Int.reduceEq, hw]
    exact IH (i + 1) _ ⟨by omega, hpre2 (fun y hy e => by
      obtain ⟨j, hj, rfl⟩ := List.getElem_of_mem hy
      exact hin j hj (by omega) e)⟩ (by omega) (by rw [renorm_eq]; simp only [List.map_cons, List.map_nil, go_sem, Nat.reduceEqDiff, ↓reduceIte, reduceCtorEq, Nat.reduceAdd, Nat.reduceSub, Nat.reduceLeDiff, Nat.reduceMul, Nat.reduceLT, Int.reduceLT, Int.reduceLE, Int.reduceNeg]; rfl) rfl
  have d3 : decide ((k : Int) < b.length) = true := decide_eq_true (by omega)
  have ck : (0 : Int) ≤ k := by omega
  have wk : IntKind.i64.wrap ((k : Int) + 1) = ((k + 1 : Nat) : Int) := by rw [wrap_small _ (by omega) (by omega)]; rfl
  have hrb : (List.map encG b)[k]? = some (encG b[k]) := by simp [hkb]
  have hin2 := fun (hy : (⟨s, au⟩ : Stamp) = b[k].id → (⟨⟨s, au⟩, w, rt, en⟩ : Grant) = b[k]) j (hj : j < b.length) (hji : j < k + 1) => (show (⟨s, au⟩ : Stamp) = b[j].id → (⟨⟨s, au⟩, w, rt, en⟩ : Grant) = b[j] from by
    rcases Nat.lt_succ_iff_lt_or_eq.1 hji with h3 | h3
    · exact hin j hj h3
    · subst h3; exact hy)
  generalize b[k] = gb at hrb hin2
  obtain ⟨⟨s2, au2⟩, w2, rt2, en2⟩ := gb
  have fin : ∀ σ', ((⟨s, au⟩ : Stamp) = ⟨s2, au2⟩ → (⟨⟨s, au⟩, w, rt, en⟩ : Grant) = ⟨⟨s2, au2⟩, w2, rt2, en2⟩) → renorm [3, 4, 5, 9, 10] σ' = ⟨ofL [(3, .sl (a.map encG)), (4, .sl (b.map encG)), (5, .sl (m.map encG)), (9, .int .i64 i), (10, .int .i64 ((k + 1 : Nat) : Int))], [], 0⟩ → rootsLive σ'.m σ'.st = true → Q2 .normal σ' :=
    fun σ' h1 h2 h3 => IH2 (k + 1) σ' ⟨by omega, hin2 h1⟩ (by omega) h2 h3
  by_cases he : s = s2 ∧ au = au2
  · obtain ⟨rfl, rfl⟩ := he
    by_cases hg : w = w2 ∧ rt = rt2 ∧ en = en2
    · obtain ⟨rfl, rfl, rfl⟩ := hg
      simp only [go_sem, Nat.reduceEqDiff, ↓reduceIte, reduceCtorEq, Nat.reduceAdd, Nat.reduceSub, Nat.reduceLeDiff, Nat.reduceMul, Nat.reduceLT, Int.reduceLT, Int.reduceLE, Int.reduceNeg, Int.cast_ofNat_Int, Int.reduceToNat, Int.toNat_zero, ne_eq, not_false_eq_true, Int.reduceEq, d3, ck, ci, wk, hra, hrb, encG, List.length_map, beq_self_eq_true]
      exact fin _ (fun _ => rfl) (by rw [renorm_eq]; simp only [List.map_cons, List.map_nil, go_sem, Nat.reduceEqDiff, ↓reduceIte, reduceCtorEq, Nat.reduceAdd, Nat.reduceSub, Nat.reduceLeDiff, Nat.reduceMul, Nat.reduceLT, Int.reduceLT, Int.reduceLE, Int.reduceNeg]; rfl) rfl
    · have hf : (w == w2 && (rt == rt2 && (en == en2))) = false := by
        rw [Bool.eq_false_iff]; simpa using hg
      have hf2 : (w == w2 && (rt == rt2 && (en == en2 && true))) = false := by
        rw [Bool.eq_false_iff]; simpa using hg
      simp only [go_sem, Nat.reduceEqDiff, ↓reduceIte, reduceCtorEq, Nat.reduceAdd, Nat.reduceSub, Nat.reduceLeDiff, Nat.reduceMul, Nat.reduceLT, Int.reduceLT, Int.reduceLE, Int.reduceNeg, Int.cast_ofNat_Int, Int.reduceToNat, Int.toNat_zero, ne_eq, not_false_eq_true, Int.reduceEq, d3, ck, ci, wk, hra, hrb, encG, List.length_map, beq_self_eq_true, hf, hf2]
      refine OUT2 _ _ (by simp) ?_
      simp only [go_sem, Nat.reduceEqDiff, ↓reduceIte, reduceCtorEq, Nat.reduceAdd, Nat.reduceSub, Nat.reduceLeDiff, Nat.reduceMul, Nat.reduceLT, Int.reduceLT, Int.reduceLE, Int.reduceNeg, Int.cast_ofNat_Int, Int.reduceToNat, Int.toNat_zero, ne_eq, not_false_eq_true, Int.reduceEq]
      refine OUT _ _ (by simp) ?_
      simp only [go_sem, Nat.reduceEqDiff, ↓reduceIte, reduceCtorEq, Nat.reduceAdd, Nat.reduceSub, Nat.reduceLeDiff, Nat.reduceMul, Nat.reduceLT, Int.reduceLT, Int.reduceLE, Int.reduceNeg, Int.cast_ofNat_Int, Int.reduceToNat, Int.toNat_zero, ne_eq, not_false_eq_true, Int.reduceEq]
  · have hf : (s == s2 && (au == au2)) = false := by
      rw [Bool.eq_false_iff]; simpa using he
    have hf2 : (s == s2 && (au == au2 && true)) = false := by
      rw [Bool.eq_false_iff]; simpa using he
    simp only [go_sem, Nat.reduceEqDiff, ↓reduceIte, reduceCtorEq, Nat.reduceAdd, Nat.reduceSub, Nat.reduceLeDiff, Nat.reduceMul, Nat.reduceLT, Int.reduceLT, Int.reduceLE, Int.reduceNeg, Int.cast_ofNat_Int, Int.reduceToNat, Int.toNat_zero, ne_eq, not_false_eq_true, Int.reduceEq, d3, ck, ci, wk, hra, hrb, encG, List.length_map, hf, hf2]
    exact fin _ (fun e => absurd (by injection e with e1 e2; exact ⟨e1, e2⟩) he) (by rw [renorm_eq]; simp only [List.map_cons, List.map_nil, go_sem, Nat.reduceEqDiff, ↓reduceIte, reduceCtorEq, Nat.reduceAdd, Nat.reduceSub, Nat.reduceLeDiff, Nat.reduceMul, Nat.reduceLT, Int.reduceLT, Int.reduceLE, Int.reduceNeg]; rfl) rfl
end Go.Vi.Code
