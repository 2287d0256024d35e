/- Contracts: GrantMerge, both. -/
import Derived.Test.YtojgihheepdgdaaViG8
set_option linter.unusedSimpArgs false
set_option linter.unusedVariables false
namespace Go.Vi.Code
theorem foldIns_len (b a : List Grant) : (b.foldl insertG a).length ≤ a.length + b.length := by
  induction b generalizing a with
  | nil => simp
  | cons y b ih => rw [List.foldl_cons]; have := ih (insertG a y); have := insertG_len a y; simp; omega
theorem drop_next {α : Type} (l : List α) (i : Nat) (h : i < l.length) : l.drop i = l[i] :: l.drop (i + 1) := by simp
theorem merge_s (a b : List Grant) (ha : a.length ≤ 1048576) (hb : b.length ≤ 1048576) : CL 25 [.sl (a.map encG), .sl (b.map encG)] [] = some (.tup [.sl ((mergeG a b).1.map encG), .bool (mergeG a b).2], []) := by
  refine callL_W _ _ _ (F := v25) rfl ?_
  have hva := validGrants_s a ha
  have hvb := validGrants_s b hb
  by_cases v1 : validGrants a = true
  case neg =>
    have v1' : validGrants a = false := by simpa using v1
    simp only [v25, go_sem, Nat.reduceEqDiff, ↓reduceIte, reduceCtorEq, Nat.reduceAdd, Nat.reduceSub, Nat.reduceLeDiff, Nat.reduceMul, Nat.reduceLT, Int.reduceLT, Int.reduceLE, Int.reduceNeg, hva, v1', Bool.not_false]
    simp only [mergeG, v1', Bool.false_eq_true, false_and, if_false]
    rfl
  by_cases v2 : validGrants b = true
  case neg =>
    have v2' : validGrants b = false := by simpa using v2
    simp only [v25, go_sem, Nat.reduceEqDiff, ↓reduceIte, reduceCtorEq, Nat.reduceAdd, Nat.reduceSub, Nat.reduceLeDiff, Nat.reduceMul, Nat.reduceLT, Int.reduceLT, Int.reduceLE, Int.reduceNeg, hva, v1, hvb, v2', Bool.not_false, Bool.not_true]
    simp only [mergeG, v2', Bool.false_eq_true, and_false, if_false]
    rfl
  obtain ⟨_, _, la⟩ := valid_spec v1
  obtain ⟨_, sb, lb⟩ := valid_spec v2
  have ra := all_encG a
  have m1 : a.length ≤ rowMax := by simp only [rowMax]; omega
  have ta : List.take a.length (List.map encG a) = List.map encG a := List.take_of_length_le (by simp)
  simp only [v25, go_sem, Nat.reduceEqDiff, ↓reduceIte, reduceCtorEq, Nat.reduceAdd, Nat.reduceSub, Nat.reduceLeDiff, Nat.reduceMul, Nat.reduceLT, Int.reduceLT, Int.reduceLE, Int.reduceNeg, Int.cast_ofNat_Int, Int.reduceToNat, Int.toNat_zero, ne_eq, not_false_eq_true, hva, v1, hvb, v2, Bool.not_true, ra, m1, ta, List.length_map, beq_self_eq_true]
  refine W_rounds (T := Nat) (fun i => ⟨ofL [(0, .sl (a.map encG)), (1, .sl (b.map encG)), (6, .sl (((b.take i).foldl insertG a).map encG)), (7, .int .i64 i)], [], 0⟩) (fun i => i ≤ b.length) (fun i => b.length - i) 0 rfl rfl (Nat.zero_le _) ?_
  rintro i hi Q1 IH OUT
  by_cases h : i < b.length
  · have c1 : decide ((i : Int) < b.length) = true := decide_eq_true (by omega)
    have c2 : (0 : Int) ≤ i := by omega
    have hr : (List.map encG b)[i]? = some (encG b[i]) := by simp [h]
    have hw : IntKind.i64.wrap ((i : Int) + 1) = ((i + 1 : Nat) : Int) := by rw [wrap_small _ (by omega) (by omega)]; rfl
    have hnext := take_next b i h
    rcases hgi : b[i] with ⟨⟨s, au⟩, w, rt, en⟩
    rw [hgi] at hr hnext
    have hF : (b.take (i + 1)).foldl insertG a = insertG ((b.take i).foldl insertG a) ⟨⟨s, au⟩, w, rt, en⟩ := by rw [hnext, List.foldl_append]; rfl
    have hlo := foldIns_len (b.take i) a
    rw [List.length_take] at hlo
    have hin := insertGrant_c ((b.take i).foldl insertG a) (by omega) s au w rt en
    simp only [go_sem, Nat.reduceEqDiff, ↓reduceIte, reduceCtorEq, Nat.reduceAdd, Nat.reduceSub, Nat.reduceLeDiff, Nat.reduceMul, Nat.reduceLT, Int.reduceLT, Int.reduceLE, Int.reduceNeg, c1, c2, hr, hw, encG, hin]
    exact IH (i + 1) _ (by omega) (by omega) (by rw [hF]; rfl) rfl
  · have c1 : decide ((i : Int) < b.length) = false := decide_eq_false (by omega)
    have hil : i = b.length := by omega
    simp only [go_sem, Nat.reduceEqDiff, ↓reduceIte, reduceCtorEq, Nat.reduceAdd, Nat.reduceSub, Nat.reduceLeDiff, Nat.reduceMul, Nat.reduceLT, Int.reduceLT, Int.reduceLE, Int.reduceNeg, c1]
    refine OUT _ _ (by simp) ?_
    have hm : (b.take i).foldl insertG a = mergeI a b := by rw [hil, List.take_length, merge_fold b a sb]
    rw [hm]
    by_cases hl : (mergeI a b).length ≤ 20
    · have c3 : decide ((((mergeI a b).length : Nat) : Int) > 20) = false := decide_eq_false (by omega)
      simp only [go_sem, Nat.reduceEqDiff, ↓reduceIte, reduceCtorEq, Nat.reduceAdd, Nat.reduceSub, Nat.reduceLeDiff, Nat.reduceMul, Nat.reduceLT, Int.reduceLT, Int.reduceLE, Int.reduceNeg, Int.cast_ofNat_Int, Int.reduceToNat, Int.toNat_zero, ne_eq, not_false_eq_true, c3, List.length_map]
      simp only [mergeG, v1, v2, and_self, if_true, hl]
      rfl
    · have c3 : decide ((((mergeI a b).length : Nat) : Int) > 20) = true := decide_eq_true (by omega)
      simp only [go_sem, Nat.reduceEqDiff, ↓reduceIte, reduceCtorEq, Nat.reduceAdd, Nat.reduceSub, Nat.reduceLeDiff, Nat.reduceMul, Nat.reduceLT, Int.reduceLT, Int.reduceLE, Int.reduceNeg, Int.cast_ofNat_Int, Int.reduceToNat, Int.toNat_zero, ne_eq, not_false_eq_true, c3, ra, m1, ta, List.length_map, beq_self_eq_true]
      simp only [mergeG, v1, v2, and_self, if_true, hl, if_false]
      rfl

theorem merge_c (a b : List Grant) (ha : a.length ≤ 1048576) (hb : b.length ≤ 1048576) : CL 24 [.sl (a.map encG), .sl (b.map encG)] [] =
    some (if validGrants a = true ∧ validGrants b = true then (.tup [.osl 0 0 (mergeG a b).1.length, .bool (mergeG a b).2], [some (.rw 41 ((mergeG a b).1.map encG))]) else (.tup [.nsl, .bool false], [])) := by
  refine callL_W _ _ _ (F := v24) rfl ?_
  have hva := validGrants_c a ha
  have hvb := validGrants_c b hb
  by_cases v1 : validGrants a = true
  case neg =>
    have v1' : validGrants a = false := by simpa using v1
    simp only [v24, go_sem, Nat.reduceEqDiff, ↓reduceIte, reduceCtorEq, Nat.reduceAdd, Nat.reduceSub, Nat.reduceLeDiff, Nat.reduceMul, Nat.reduceLT, Int.reduceLT, Int.reduceLE, Int.reduceNeg, hva, v1', Bool.not_false]
    rfl
  by_cases v2 : validGrants b = true
  case neg =>
    have v2' : validGrants b = false := by simpa using v2
    simp only [v24, go_sem, Nat.reduceEqDiff, ↓reduceIte, reduceCtorEq, Nat.reduceAdd, Nat.reduceSub, Nat.reduceLeDiff, Nat.reduceMul, Nat.reduceLT, Int.reduceLT, Int.reduceLE, Int.reduceNeg, hva, v1, hvb, v2', Bool.not_false, Bool.not_true]
    rfl
  obtain ⟨_, _, la⟩ := valid_spec v1
  obtain ⟨_, sb, lb⟩ := valid_spec v2
  have ra := all_encG a
  have m1 : a.length ≤ rowMax := by simp only [rowMax]; omega
  simp only [v24, go_sem, Nat.reduceEqDiff, ↓reduceIte, reduceCtorEq, Nat.reduceAdd, Nat.reduceSub, Nat.reduceLeDiff, Nat.reduceMul, Nat.reduceLT, Int.reduceLT, Int.reduceLE, Int.reduceNeg, Int.cast_ofNat_Int, Int.reduceToNat, Int.toNat_zero, ne_eq, not_false_eq_true, hva, v1, hvb, v2, Bool.not_true, beq_self_eq_true]
  refine W_rounds (T := Nat × Nat × List Grant) (fun t => ⟨ofL [(0, .sl (a.map encG)), (1, .sl (b.map encG)), (6, .osl 0 0 t.2.2.length), (7, .int .i64 t.1), (8, .int .i64 t.2.1)], [some (.rw 41 (t.2.2.map encG))], 0⟩)
    (fun t => t.1 ≤ a.length ∧ t.2.1 ≤ b.length ∧ t.2.2.length ≤ t.1 + t.2.1 ∧ t.2.2 ++ mergeI (a.drop t.1) (b.drop t.2.1) = mergeI a b) (fun t => (a.length - t.1) + (b.length - t.2.1)) (0, 0, []) rfl rfl ⟨Nat.zero_le _, Nat.zero_le _, Nat.zero_le _, rfl⟩ ?_
  rintro ⟨i, k, o⟩ ⟨hi, hk, hol, hm⟩ Q1 IH OUT
  simp only at hi hk hol hm
  have wi : i < a.length → IntKind.i64.wrap ((i : Int) + 1) = ((i + 1 : Nat) : Int) := fun _ => by rw [wrap_small _ (by omega) (by omega)]; rfl
  have wk : k < b.length → IntKind.i64.wrap ((k : Int) + 1) = ((k + 1 : Nat) : Int) := fun _ => by rw [wrap_small _ (by omega) (by omega)]; rfl
  have ci : (0 : Int) ≤ i := by omega
  have ck : (0 : Int) ≤ k := by omega
  have c4 : o.length + 1 ≤ rowMax := by simp only [rowMax]; omega
  have fin : ∀ (i' k' : Nat) (o' : List Grant) σ', i' ≤ a.length → k' ≤ b.length → o'.length ≤ i' + k' → o' ++ mergeI (a.drop i') (b.drop k') = mergeI a b → (a.length - i') + (b.length - k') < (a.length - i) + (b.length - k) →
      renorm [0, 1, 6, 7, 8] σ' = ⟨ofL [(0, .sl (a.map encG)), (1, .sl (b.map encG)), (6, .osl 0 0 o'.length), (7, .int .i64 i'), (8, .int .i64 k')], [some (.rw 41 (o'.map encG))], 0⟩ → rootsLive σ'.m σ'.st = true → Q1 .normal σ' :=
    fun i' k' o' σ' h1 h2 h3 h4 h5 h6 h7 => IH (i', k', o') σ' ⟨h1, h2, h3, h4⟩ h5 h6 h7
  by_cases h : i < a.length
  · have c1 : decide ((i : Int) < a.length) = true := decide_eq_true (by omega)
    have e1 : ((i : Int) == (a.length : Int)) = false := by simp; omega
    have hr : (List.map encG a)[i]? = some (encG a[i]) := by simp [h]
    have hd := drop_next a i h
    rcases hgi : a[i] with ⟨⟨s, au⟩, w, rt, en⟩
    rw [hgi] at hr hd
    have fa : ∀ σ', mergeI (a.drop i) (b.drop k) = ⟨⟨s, au⟩, w, rt, en⟩ :: mergeI (a.drop (i + 1)) (b.drop k) → renorm [0, 1, 6, 7, 8] σ' = ⟨ofL [(0, .sl (a.map encG)), (1, .sl (b.map encG)), (6, .osl 0 0 (o.length + 1)), (7, .int .i64 ((i + 1 : Nat) : Int)), (8, .int .i64 k)], [some (.rw 41 (o.map encG ++ [[.int .i64 s, .int .i64 au, .int .i64 w, .int .i64 rt, .bool en]]))], 0⟩ → rootsLive σ'.m σ'.st = true → Q1 .normal σ' := by
      intro σ' h1 h2 h3
      refine fin (i + 1) k (o ++ [⟨⟨s, au⟩, w, rt, en⟩]) σ' (by omega) hk (by simp; omega) ?_ (by omega) (by rw [h2]; simp [encG]) h3
      rw [← hm, h1]; simp
    by_cases h' : k < b.length
    · have c2 : decide ((k : Int) < b.length) = true := decide_eq_true (by omega)
      have e2 : ((k : Int) == (b.length : Int)) = false := by simp; omega
      have hr2 : (List.map encG b)[k]? = some (encG b[k]) := by simp [h']
      have hd2 := drop_next b k h'
      rcases hgk : b[k] with ⟨⟨s2, au2⟩, w2, rt2, en2⟩
      rw [hgk] at hr2 hd2
      by_cases l1 : stampLess ⟨s, au⟩ ⟨s2, au2⟩ = true
      · simp only [go_sem, Nat.reduceEqDiff, ↓reduceIte, reduceCtorEq, Nat.reduceAdd, Nat.reduceSub, Nat.reduceLeDiff, Nat.reduceMul, Nat.reduceLT, Int.reduceLT, Int.reduceLE, Int.reduceNeg, Int.cast_ofNat_Int, Int.reduceToNat, Int.toNat_zero, ne_eq, not_false_eq_true, c1, c2, e1, e2, ci, ck, hr, hr2, wi h, wk h', encG, stampLess_c, l1, beq_self_eq_true, List.length_map, c4]
        exact fa _ (by rw [hd, hd2, mergeI_lt _ _ l1]) (by rw [renorm_eq]; simp only [List.map_cons, List.map_nil, go_sem, Nat.reduceEqDiff, ↓reduceIte, reduceCtorEq, Nat.reduceAdd, Nat.reduceSub, Nat.reduceLeDiff, Nat.reduceMul, Nat.reduceLT, Int.reduceLT, Int.reduceLE, Int.reduceNeg]; rfl) rfl
      · have l1' : stampLess ⟨s, au⟩ ⟨s2, au2⟩ = false := by simpa using l1
        by_cases l2 : stampLess ⟨s2, au2⟩ ⟨s, au⟩ = true
        · simp only [go_sem, Nat.reduceEqDiff, ↓reduceIte, reduceCtorEq, Nat.reduceAdd, Nat.reduceSub, Nat.reduceLeDiff, Nat.reduceMul, Nat.reduceLT, Int.reduceLT, Int.reduceLE, Int.reduceNeg, Int.cast_ofNat_Int, Int.reduceToNat, Int.toNat_zero, ne_eq, not_false_eq_true, c1, c2, e1, e2, ci, ck, hr, hr2, wi h, wk h', encG, stampLess_c, l1', l2, beq_self_eq_true, List.length_map, c4]
          refine fin i (k + 1) (o ++ [⟨⟨s2, au2⟩, w2, rt2, en2⟩]) _ hi (by omega) (by simp; omega) ?_ (by omega) ?_ rfl
          · rw [← hm, hd, hd2, mergeI_gt _ _ l2]; simp
          · rw [renorm_eq]; simp only [List.map_cons, List.map_nil, go_sem, Nat.reduceEqDiff, ↓reduceIte, reduceCtorEq, Nat.reduceAdd, Nat.reduceSub, Nat.reduceLeDiff, Nat.reduceMul, Nat.reduceLT, Int.reduceLT, Int.reduceLE, Int.reduceNeg, List.map_append, List.length_append]; rfl
        · have l2' : stampLess ⟨s2, au2⟩ ⟨s, au⟩ = false := by simpa using l2
          simp only [go_sem, Nat.reduceEqDiff, ↓reduceIte, reduceCtorEq, Nat.reduceAdd, Nat.reduceSub, Nat.reduceLeDiff, Nat.reduceMul, Nat.reduceLT, Int.reduceLT, Int.reduceLE, Int.reduceNeg, Int.cast_ofNat_Int, Int.reduceToNat, Int.toNat_zero, ne_eq, not_false_eq_true, c1, c2, e1, e2, ci, ck, hr, hr2, wi h, wk h', encG, stampLess_c, l1', l2', beq_self_eq_true, List.length_map, c4]
          refine fin i (k + 1) o _ hi (by omega) (by omega) ?_ (by omega) (by rw [renorm_eq]; simp only [List.map_cons, List.map_nil, go_sem, Nat.reduceEqDiff, ↓reduceIte, reduceCtorEq, Nat.reduceAdd, Nat.reduceSub, Nat.reduceLeDiff, Nat.reduceMul, Nat.reduceLT, Int.reduceLT, Int.reduceLE, Int.reduceNeg]; rfl) rfl
          rw [← hm, hd, hd2, mergeI_eq _ _ l1 l2]
    · have c2 : decide ((k : Int) < b.length) = false := decide_eq_false (by omega)
      have e2 : ((k : Int) == (b.length : Int)) = true := by simp; omega
      have hdk : b.drop k = [] := List.drop_eq_nil_of_le (by omega)
      simp only [go_sem, Nat.reduceEqDiff, ↓reduceIte, reduceCtorEq, Nat.reduceAdd, Nat.reduceSub, Nat.reduceLeDiff, Nat.reduceMul, Nat.reduceLT, Int.reduceLT, Int.reduceLE, Int.reduceNeg, Int.cast_ofNat_Int, Int.reduceToNat, Int.toNat_zero, ne_eq, not_false_eq_true, c1, c2, e1, e2, ci, ck, hr, wi h, encG, stampLess_c, beq_self_eq_true, List.length_map, c4]
      exact fa _ (by rw [hd, hdk, mergeI_nil, mergeI_nil]) (by rw [renorm_eq]; simp only [List.map_cons, List.map_nil, go_sem, Nat.reduceEqDiff, ↓reduceIte, reduceCtorEq, Nat.reduceAdd, Nat.reduceSub, Nat.reduceLeDiff, Nat.reduceMul, Nat.reduceLT, Int.reduceLT, Int.reduceLE, Int.reduceNeg]; rfl) rfl
  · have c1 : decide ((i : Int) < a.length) = false := decide_eq_false (by omega)
    have e1 : ((i : Int) == (a.length : Int)) = true := by simp; omega
    have hdi : a.drop i = [] := List.drop_eq_nil_of_le (by omega)
    by_cases h' : k < b.length
    · have c2 : decide ((k : Int) < b.length) = true := decide_eq_true (by omega)
      have e2 : ((k : Int) == (b.length : Int)) = false := by simp; omega
      have hr2 : (List.map encG b)[k]? = some (encG b[k]) := by simp [h']
      have hd2 := drop_next b k h'
      rcases hgk : b[k] with ⟨⟨s2, au2⟩, w2, rt2, en2⟩
      rw [hgk] at hr2 hd2
      simp only [go_sem, Nat.reduceEqDiff, ↓reduceIte, reduceCtorEq, Nat.reduceAdd, Nat.reduceSub, Nat.reduceLeDiff, Nat.reduceMul, Nat.reduceLT, Int.reduceLT, Int.reduceLE, Int.reduceNeg, Int.cast_ofNat_Int, Int.reduceToNat, Int.toNat_zero, ne_eq, not_false_eq_true, c1, c2, e1, e2, ci, ck, hr2, wk h', encG, stampLess_c, beq_self_eq_true, List.length_map, c4]
      refine fin i (k + 1) (o ++ [⟨⟨s2, au2⟩, w2, rt2, en2⟩]) _ hi (by omega) (by simp; omega) ?_ (by omega) ?_ rfl
      · rw [← hm, hdi, hd2]; simp [mergeI]
      · rw [renorm_eq]; simp only [List.map_cons, List.map_nil, go_sem, Nat.reduceEqDiff, ↓reduceIte, reduceCtorEq, Nat.reduceAdd, Nat.reduceSub, Nat.reduceLeDiff, Nat.reduceMul, Nat.reduceLT, Int.reduceLT, Int.reduceLE, Int.reduceNeg, List.map_append, List.length_append]; rfl
    · have c2 : decide ((k : Int) < b.length) = false := decide_eq_false (by omega)
      have hdk : b.drop k = [] := List.drop_eq_nil_of_le (by omega)
      have ho : o = mergeI a b := by rw [← hm, hdi, hdk]; simp [mergeI]
      simp only [go_sem, Nat.reduceEqDiff, ↓reduceIte, reduceCtorEq, Nat.reduceAdd, Nat.reduceSub, Nat.reduceLeDiff, Nat.reduceMul, Nat.reduceLT, Int.reduceLT, Int.reduceLE, Int.reduceNeg, c1, c2]
      refine OUT _ _ (by simp) ?_
      by_cases hl : (mergeI a b).length ≤ 20
      · have c3 : decide ((o.length : Int) > 20) = false := decide_eq_false (by rw [ho]; omega)
        simp only [go_sem, Nat.reduceEqDiff, ↓reduceIte, reduceCtorEq, Nat.reduceAdd, Nat.reduceSub, Nat.reduceLeDiff, Nat.reduceMul, Nat.reduceLT, Int.reduceLT, Int.reduceLE, Int.reduceNeg, Int.cast_ofNat_Int, Int.reduceToNat, Int.toNat_zero, ne_eq, not_false_eq_true, c3, List.length_map]
        have hl2 : o.length ≤ 20 := by rw [ho]; exact hl
        simp only [mergeG, v1, v2, and_self, if_true, ← ho, hl2]
        rfl
      · have c3 : decide ((o.length : Int) > 20) = true := decide_eq_true (by rw [ho]; omega)
        simp only [go_sem, Nat.reduceEqDiff, ↓reduceIte, reduceCtorEq, Nat.reduceAdd, Nat.reduceSub, Nat.reduceLeDiff, Nat.reduceMul, Nat.reduceLT, Int.reduceLT, Int.reduceLE, Int.reduceNeg, Int.cast_ofNat_Int, Int.reduceToNat, Int.toNat_zero, ne_eq, not_false_eq_true, c3, ra, m1, List.length_map, beq_self_eq_true]
        simp only [mergeG, v1, v2, and_self, if_true, hl, if_false]
        rfl
end Go.Vi.Code
