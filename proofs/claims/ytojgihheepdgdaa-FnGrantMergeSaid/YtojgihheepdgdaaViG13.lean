/- Contracts: any grants; the draws of the laws on grants. -/
import Derived.Test.YtojgihheepdgdaaViG12
set_option linter.unusedSimpArgs false
set_option linter.unusedVariables false
namespace Go.Vi.Code
theorem fin_rd_osl (l : List Int) (p : Int) (e n : Nat) (rows : List (List D)) (rest : Store) : finishO 1 (some (rd l p) :: some (.rw e rows) :: rest) (.osl 1 0 n) = some (.osl 1 0 n, [some (rd l p), some (.rw e rows)]) := rfl
set_option maxRecDepth 20000 in
set_option maxHeartbeats 1000000 in
theorem anyGrants_e {l : List Int} (hl : Bytes l) (p : Int) (hp : 0 ≤ p) (hp2 : p ≤ 100000) :
    ∃ (g : List Grant) (q : Int), g.length ≤ 8 ∧ p ≤ q ∧ q ≤ p + 300 ∧ CL 60 [.ptr 0 0] [some (rd l p)] = some (.osl 1 0 g.length, [some (rd l q), some (.rw 41 (g.map encG))]) := by
  obtain ⟨g, q, hg, hq, hq2, hr0⟩ := randomGrants_e hl p hp hp2
  have hr := callWith_root_own (e := 41) rfl rfl hr0
  by_cases h : 0 < g.length
  case neg =>
    have d1 : decide ((g.length : Int) > 0) = false := decide_eq_false (by omega)
    refine ⟨g, q, hg, hq, by omega, callL_W _ _ _ (F := v60) rfl ?_⟩
    simp only [v60, go_sem, Nat.reduceEqDiff, ↓reduceIte, reduceCtorEq, Nat.reduceAdd, Nat.reduceSub, Nat.reduceLeDiff, Nat.reduceMul, Nat.reduceLT, Int.reduceLT, Int.reduceLE, Int.reduceNeg, Int.cast_ofNat_Int, Int.reduceToNat, Int.toNat_zero, ne_eq, not_false_eq_true, Int.reduceEq, hr, d1, fin_rd_osl]
  have d1 : decide ((g.length : Int) > 0) = true := decide_eq_true (by omega)
  obtain ⟨⟨k0, k1⟩, hk⟩ := pick_c hl q g.length (by omega) (by omega) (by omega) (by omega)
  obtain ⟨_, hj⟩ := pick_c hl (q + 1) 16 (by omega) (by omega) (by omega) (by omega)
  generalize pickV l q g.length = k at *
  generalize pickV l (q + 1) 16 = j at *
  have hkn : k.toNat < g.length := by omega
  have hrow : (g.map encG)[k.toNat]? = some (encG g[k.toNat]) := by simp [hkn]
  have hset : ∀ (a1 a2 a3 a4 : Int) (a5 : Bool), (g.map encG).set k.toNat [.int .i64 a1, .int .i64 a2, .int .i64 a3, .int .i64 a4, .bool a5] = (g.set k.toNat ⟨⟨a1, a2⟩, a3, a4, a5⟩).map encG := fun a1 a2 a3 a4 a5 => by rw [List.map_set]; rfl
  rcases hgk : g[k.toNat] with ⟨⟨s, au⟩, w, rt, en⟩
  rw [hgk] at hrow
  have done : ∀ (x : Grant) (q' : Int), q ≤ q' → q' ≤ q + 10 → CL 60 [.ptr 0 0] [some (rd l p)] = some (.osl 1 0 g.length, [some (rd l q'), some (.rw 41 ((g.set k.toNat x).map encG))]) →
      ∃ (g : List Grant) (q : Int), g.length ≤ 8 ∧ p ≤ q ∧ q ≤ p + 300 ∧ CL 60 [.ptr 0 0] [some (rd l p)] = some (.osl 1 0 g.length, [some (rd l q), some (.rw 41 (g.map encG))]) := by
    intro x q' h1 h2 h3
    refine ⟨g.set k.toNat x, q', by simpa using hg, by omega, by omega, ?_⟩
    rw [List.length_set]; exact h3
  by_cases j0 : j = 0
  · have t0 : (j == 0) = true := by simp [j0]
    obtain ⟨x, hx0⟩ := one_e hl (q + 1 + 1) [-1, 3] (by omega) (by omega) (by simp) (by simp)
    have hx := root_cw hx0 rfl rfl rfl rfl
    simp only [List.map_cons, List.map_nil, enc1] at hx
    refine done ⟨⟨s, au⟩, x, rt, en⟩ (q + 1 + 1 + 1) (by omega) (by omega) (callL_W _ _ _ (F := v60) rfl ?_)
    simp only [v60, go_sem, Nat.reduceEqDiff, ↓reduceIte, reduceCtorEq, Nat.reduceAdd, Nat.reduceSub, Nat.reduceLeDiff, Nat.reduceMul, Nat.reduceLT, Int.reduceLT, Int.reduceLE, Int.reduceNeg, Int.cast_ofNat_Int, Int.reduceToNat, Int.toNat_zero, ne_eq, not_false_eq_true, Int.reduceEq, hr, d1, hk, hj, t0, hx, k0, k1, hrow, encG, List.length_map, beq_self_eq_true]
    rw [hset, fin_rd_osl]
  have t0 : (j == 0) = false := by simp [j0]
  by_cases j1 : j = 1
  · have t1 : (j == 1) = true := by simp [j1]
    obtain ⟨x, hx0⟩ := one_e hl (q + 1 + 1) [0, 4] (by omega) (by omega) (by simp) (by simp)
    have hx := root_cw hx0 rfl rfl rfl rfl
    simp only [List.map_cons, List.map_nil, enc1] at hx
    refine done ⟨⟨s, au⟩, w, x, en⟩ (q + 1 + 1 + 1) (by omega) (by omega) (callL_W _ _ _ (F := v60) rfl ?_)
    simp only [v60, go_sem, Nat.reduceEqDiff, ↓reduceIte, reduceCtorEq, Nat.reduceAdd, Nat.reduceSub, Nat.reduceLeDiff, Nat.reduceMul, Nat.reduceLT, Int.reduceLT, Int.reduceLE, Int.reduceNeg, Int.cast_ofNat_Int, Int.reduceToNat, Int.toNat_zero, ne_eq, not_false_eq_true, Int.reduceEq, hr, d1, hk, hj, t0, t1, hx, k0, k1, hrow, encG, List.length_map, beq_self_eq_true]
    rw [hset, fin_rd_osl]
  have t1 : (j == 1) = false := by simp [j1]
  by_cases j2 : j = 2
  · have t2 : (j == 2) = true := by simp [j2]
    obtain ⟨a, b, q', h1, h2, hx0⟩ := anyStamp_e hl (q + 1 + 1) (by omega) (by omega)
    have hx := root_cw hx0 rfl rfl rfl rfl
    refine done ⟨⟨a, b⟩, w, rt, en⟩ q' (by omega) (by omega) (callL_W _ _ _ (F := v60) rfl ?_)
    simp only [v60, go_sem, Nat.reduceEqDiff, ↓reduceIte, reduceCtorEq, Nat.reduceAdd, Nat.reduceSub, Nat.reduceLeDiff, Nat.reduceMul, Nat.reduceLT, Int.reduceLT, Int.reduceLE, Int.reduceNeg, Int.cast_ofNat_Int, Int.reduceToNat, Int.toNat_zero, ne_eq, not_false_eq_true, Int.reduceEq, hr, d1, hk, hj, t0, t1, t2, hx, k0, k1, hrow, encG, List.length_map, beq_self_eq_true]
    rw [hset, fin_rd_osl]
  have t2 : (j == 2) = false := by simp [j2]
  refine ⟨g, q + 1 + 1, hg, by omega, by omega, callL_W _ _ _ (F := v60) rfl ?_⟩
  simp only [v60, go_sem, Nat.reduceEqDiff, ↓reduceIte, reduceCtorEq, Nat.reduceAdd, Nat.reduceSub, Nat.reduceLeDiff, Nat.reduceMul, Nat.reduceLT, Int.reduceLT, Int.reduceLE, Int.reduceNeg, Int.cast_ofNat_Int, Int.reduceToNat, Int.toNat_zero, ne_eq, not_false_eq_true, Int.reduceEq, hr, d1, hk, hj, t0, t1, t2, fin_rd_osl]

theorem drawEff_e (xs : List Int) (hb : ∀ x ∈ xs, 0 ≤ x ∧ x ≤ 255) (hl : xs.length ≤ 1048576) : ∃ g : List Grant, g.length ≤ 8 ∧ CL 30 [.sl (xs.map enc8)] [] = some (.sl (g.map encG), []) := by
  obtain ⟨l, hB, hn⟩ := newReader_e xs hb hl
  obtain ⟨g, q, hg, _, _, hr0⟩ := anyGrants_e hB 0 (by omega) (by omega)
  have hr := callWith_root_frz (call := CL) (id := 0) (st := [some (rd l 0)]) rfl rfl rfl (by simp) hr0
  refine ⟨g, hg, callL_W _ _ _ (F := v30) rfl ?_⟩
  simp only [v30, go_sem, Nat.reduceEqDiff, ↓reduceIte, reduceCtorEq, Nat.reduceAdd, Nat.reduceSub, Nat.reduceLeDiff, Nat.reduceMul, Nat.reduceLT, Int.reduceLT, Int.reduceLE, Int.reduceNeg, Int.cast_ofNat_Int, Int.reduceToNat, Int.toNat_zero, ne_eq, not_false_eq_true, Int.reduceEq, hn, hr]
theorem drawMerge_e (xs : List Int) (hb : ∀ x ∈ xs, 0 ≤ x ∧ x ≤ 255) (hl : xs.length ≤ 1048576) : ∃ a b : List Grant, a.length ≤ 8 ∧ b.length ≤ 8 ∧ CL 23 [.sl (xs.map enc8)] [] = some (.tup [.sl (a.map encG), .sl (b.map encG)], []) := by
  obtain ⟨l, hB, hn⟩ := newReader_e xs hb hl
  obtain ⟨a, p, ha, hp, hp2, hr0⟩ := anyGrants_e hB 0 (by omega) (by omega)
  have hr := callWith_root_frz (call := CL) (id := 0) (st := [some (rd l 0)]) rfl rfl rfl (by simp) hr0
  obtain ⟨b, q, hb', hq, hq2, hs0⟩ := anyGrants_e hB p (by omega) (by omega)
  have hs := callWith_root_frz (call := CL) (id := 0) (st := [some (rd l p)]) rfl rfl rfl (by simp) hs0
  obtain ⟨_, hk⟩ := pick_c hB q 3 (by omega) (by omega) (by omega) (by omega)
  by_cases h : pickV l q 3 = 0
  · have t0 : (pickV l q 3 == 0) = true := by simp [h]
    obtain ⟨⟨k0, k1⟩, hk2⟩ := pick_c hB (q + 1) (a.length + 1) (by omega) (by omega) (by omega) (by omega)
    have w1 : IntKind.i64.wrap ((a.length : Int) + 1) = a.length + 1 := wrap_small _ (by omega) (by omega)
    generalize pickV l (q + 1) (a.length + 1) = k at *
    have kle : k ≤ a.length := by omega
    have rf := fits_encG a 0
    have ra := all_encG (a.take k.toNat)
    rw [List.map_take] at ra
    have mn : min k.toNat a.length = k.toNat := by omega
    have m1 : k.toNat ≤ rowMax := by simp only [rowMax]; omega
    refine ⟨a, a.take k.toNat, ha, by simp; omega, callL_W _ _ _ (F := v23) rfl ?_⟩
    simp only [v23, go_sem, Nat.reduceEqDiff, ↓reduceIte, reduceCtorEq, Nat.reduceAdd, Nat.reduceSub, Nat.reduceLeDiff, Nat.reduceMul, Nat.reduceLT, Int.reduceLT, Int.reduceLE, Int.reduceNeg, Int.cast_ofNat_Int, Int.reduceToNat, Int.toNat_zero, ne_eq, not_false_eq_true, Int.reduceEq, hn, hr, hs, hk, hk2, t0, w1, k0, kle, rf, ra, mn, m1, List.length_map, List.length_take, beq_self_eq_true, Nat.sub_zero]
    rw [List.map_take, List.take_take, Nat.min_self]
    rfl
  · have t0 : (pickV l q 3 == 0) = false := by simp [h]
    refine ⟨a, b, ha, hb', callL_W _ _ _ (F := v23) rfl ?_⟩
    simp only [v23, go_sem, Nat.reduceEqDiff, ↓reduceIte, reduceCtorEq, Nat.reduceAdd, Nat.reduceSub, Nat.reduceLeDiff, Nat.reduceMul, Nat.reduceLT, Int.reduceLT, Int.reduceLE, Int.reduceNeg, Int.cast_ofNat_Int, Int.reduceToNat, Int.toNat_zero, ne_eq, not_false_eq_true, Int.reduceEq, hn, hr, hs, hk, t0]
    rfl
theorem drawRight_e (xs : List Int) (hb : ∀ x ∈ xs, 0 ≤ x ∧ x ≤ 255) (hl : xs.length ≤ 1048576) : ∃ (g : List Grant) (who a b : Int), g.length ≤ 8 ∧ CL 27 [.sl (xs.map enc8)] [] = some (.tup [.sl (g.map encG), .int .i64 who, .agg [.int .i64 a, .int .i64 b]], []) := by
  obtain ⟨l, hB, hn⟩ := newReader_e xs hb hl
  obtain ⟨g, p, hg, hp, hp2, hr0⟩ := anyGrants_e hB 0 (by omega) (by omega)
  have hr := callWith_root_frz (call := CL) (id := 1) (st := [some (.bx [.int .i64 0, .int .i64 0]), some (rd l 0)]) rfl rfl rfl (by simp) hr0
  obtain ⟨x, hx0⟩ := one_e hB p [0, 1, 2, 1, 2, -1, 3] (by omega) (by omega) (by simp) (by simp)
  have hx := callWith_root1 (call := CL) (x := .ptr 1 0) (st := [some (.bx [.int .i64 0, .int .i64 0]), some (rd l p)]) rfl rfl rfl rfl hx0 rfl rfl
  simp only [List.map_cons, List.map_nil, enc1] at hx
  obtain ⟨a, b, q, _, _, hs0⟩ := anyStamp_e hB (p + 1) (by omega) (by omega)
  have hs := callWith_root1 (call := CL) (x := .ptr 1 0) (st := [some (.bx [.int .i64 0, .int .i64 0]), some (rd l (p + 1))]) rfl rfl rfl rfl hs0 rfl rfl
  refine ⟨g, x, a, b, hg, callL_W _ _ _ (F := v27) rfl ?_⟩
  simp only [v27, go_sem, Nat.reduceEqDiff, ↓reduceIte, reduceCtorEq, Nat.reduceAdd, Nat.reduceSub, Nat.reduceLeDiff, Nat.reduceMul, Nat.reduceLT, Int.reduceLT, Int.reduceLE, Int.reduceNeg, Int.cast_ofNat_Int, Int.reduceToNat, Int.toNat_zero, ne_eq, not_false_eq_true, Int.reduceEq, hn, hr, hx, hs, beq_self_eq_true]
  exact ⟨_, rfl, rfl⟩

theorem equalGrants_c (a b : List Grant) (hl : a.length ≤ 1048576) (hb : b.length ≤ 1048576) : CL 26 [.sl (a.map encG), .sl (b.map encG)] [] = some (.bool (decide (a = b)), []) := by
  refine callL_W _ _ _ (F := v26) rfl ?_
  simp only [v26, go_sem, Nat.reduceEqDiff, ↓reduceIte, reduceCtorEq, Nat.reduceAdd, Nat.reduceSub, Nat.reduceLeDiff, Nat.reduceMul, Nat.reduceLT, Int.reduceLT, Int.reduceLE, Int.reduceNeg]
  split
  · rename_i h
    have : a ≠ b := by rintro rfl; simp at h
    rw [decide_eq_false this]
  · rename_i h
    have hab : a.length = b.length := by
      have : (a.length : Int) = b.length := by simpa using h
      omega
    refine W_rounds (T := Nat) (fun i => ⟨ofL [(0, .sl (a.map encG)), (1, .sl (b.map encG)), (5, .int .i64 i)], [], 0⟩) (fun i => i ≤ a.length ∧ ∀ j : Nat, j < i → a[j]? = b[j]?) (fun i => a.length - i) 0 rfl rfl ⟨Nat.zero_le _, fun j h => by omega⟩ ?_
    rintro i ⟨hi, he⟩ Q1 IH OUT
    by_cases h : i < a.length
    · have hb' : i < b.length := by omega
      have c3 : decide ((i : Int) < a.length) = true := decide_eq_true (by omega)
      have c4 : (0 : Int) ≤ i := by omega
      have hr : (List.map encG a)[i]? = some (encG a[i]) := by simp [h]
      have hr2 : (List.map encG b)[i]? = some (encG b[i]) := by simp [hb']
      have hw : IntKind.i64.wrap ((i : Int) + 1) = ((i + 1 : Nat) : Int) := by rw [wrap_small _ (by omega) (by omega)]; rfl
      rcases hga : a[i] with ⟨⟨a1, a2⟩, a3, a4, a5⟩
      rcases hgb : b[i] with ⟨⟨b1, b2⟩, b3, b4, b5⟩
      rw [hga] at hr
      rw [hgb] at hr2
      simp only [go_sem, Nat.reduceEqDiff, ↓reduceIte, reduceCtorEq, Nat.reduceAdd, Nat.reduceSub, Nat.reduceLeDiff, Nat.reduceMul, Nat.reduceLT, Int.reduceLT, Int.reduceLE, Int.reduceNeg, c3, c4, hr, hr2, hw, encG]
      split
      · rename_i hne
        refine OUT _ _ (by simp) ?_
        have : a ≠ b := by
          rintro rfl
          rw [hga] at hgb
          injection hgb with h1 h2 h3 h4
          injection h1 with h5 h6
          subst h5; subst h6; subst h2; subst h3; subst h4
          simp at hne
        simp only [go_sem, Nat.reduceEqDiff, ↓reduceIte, reduceCtorEq, Nat.reduceAdd, Nat.reduceSub, Nat.reduceLeDiff, Nat.reduceMul, Nat.reduceLT, Int.reduceLT, Int.reduceLE, Int.reduceNeg, decide_eq_false this]
      · rename_i hne
        have heq : a[i] = b[i] := by
          rw [hga, hgb]
          simp at hne
          obtain ⟨rfl, rfl, rfl, rfl, rfl⟩ := hne
          rfl
        refine IH (i + 1) _ ⟨by omega, fun j hj => ?_⟩ (by omega) rfl rfl
        rcases Nat.lt_succ_iff_lt_or_eq.1 hj with h3 | rfl
        · exact he j h3
        · simp [h, hb', heq]
    · have c3 : decide ((i : Int) < a.length) = false := decide_eq_false (by omega)
      simp only [go_sem, Nat.reduceEqDiff, ↓reduceIte, reduceCtorEq, Nat.reduceAdd, Nat.reduceSub, Nat.reduceLeDiff, Nat.reduceMul, Nat.reduceLT, Int.reduceLT, Int.reduceLE, Int.reduceNeg, c3]
      refine OUT _ _ (by simp) ?_
      have : a = b := List.ext_getElem? fun j => by
        by_cases hj : j < i
        · exact he j hj
        · rw [List.getElem?_eq_none (by omega), List.getElem?_eq_none (by omega)]
      simp only [go_sem, Nat.reduceEqDiff, ↓reduceIte, reduceCtorEq, Nat.reduceAdd, Nat.reduceSub, Nat.reduceLeDiff, Nat.reduceMul, Nat.reduceLT, Int.reduceLT, Int.reduceLE, Int.reduceNeg, decide_eq_true this]
end Go.Vi.Code
