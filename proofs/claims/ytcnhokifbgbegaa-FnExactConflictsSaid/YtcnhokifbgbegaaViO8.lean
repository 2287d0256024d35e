/- Contracts: marks laid into operations. -/
import Derived.Test.YtcnhokifbgbegaaViO7
set_option linter.unusedSimpArgs false
set_option linter.unusedVariables false
namespace Go.Vi.Code
theorem cvbs_one (st : Store) (v : Int) : cvbsD st (.sl [[.int .u8 v]]) = some (.str [UInt8.ofNat v.toNat]) := rfl
theorem markText_e (k : Int) (hk : 0 < k) (hk2 : k < 10000000000) : ∃ s : List UInt8, CL 59 [.int .i64 k] [] = some (.str s, []) := by
  suffices h : ∃ r, (∃ s : List UInt8, r = (D.str s, ([] : Store))) ∧ CL 59 [.int .i64 k] [] = some r by
    obtain ⟨r, ⟨s, rfl⟩, h⟩ := h
    exact ⟨s, h⟩
  refine callL_We _ _ _ (F := v59) rfl ?_
  have d : decide (k ≤ 0) = false := decide_eq_false (by omega)
  simp only [v59, go_sem, Nat.reduceEqDiff, ↓reduceIte, reduceCtorEq, Nat.reduceAdd, Nat.reduceSub, Nat.reduceLeDiff, Nat.reduceMul, Nat.reduceLT, Int.reduceLT, Int.reduceLE, Int.reduceNeg, Int.cast_ofNat_Int, Int.reduceToNat, Int.toNat_zero, ne_eq, not_false_eq_true, Int.reduceEq, d]
  refine W_rounds (T := Int × List UInt8 × Nat) (fun t => ⟨ofL [(0, .int .i64 t.1), (3, .str t.2.1)], [], 0⟩) (fun t => 0 ≤ t.1 ∧ t.1 ≤ 10000000000 ∧ t.1 < 10 ^ t.2.2 ∧ t.2.1.length + t.2.2 ≤ 12) (fun t => t.1.toNat) (k, [], 10) rfl rfl ⟨by simp only; omega, by simp only; omega, by simp only; omega, by simp⟩ ?_
  rintro ⟨n, s, m⟩ ⟨h0, h1, h2, h3⟩ Q1 IH OUT
  simp only at h0 h1 h2 h3
  by_cases h : n > 0
  · have c1 : decide (n > 0) = true := decide_eq_true h
    have c2 : 1 + s.length < strMax := by simp only [strMax]; omega
    have hq0 : 0 ≤ n.tdiv 10 := Int.tdiv_nonneg h0 (by omega)
    have hqe : n.tdiv 10 = n / 10 := Int.tdiv_eq_ediv_of_nonneg h0
    have wq : IntKind.i64.wrap (n.tdiv 10) = n.tdiv 10 := wrap_small _ (by omega) (by omega)
    cases m with
    | zero => simp at h2; omega
    | succ m =>
      simp only [go_sem, Nat.reduceEqDiff, ↓reduceIte, reduceCtorEq, Nat.reduceAdd, Nat.reduceSub, Nat.reduceLeDiff, Nat.reduceMul, Nat.reduceLT, Int.reduceLT, Int.reduceLE, Int.reduceNeg, Int.cast_ofNat_Int, Int.reduceToNat, Int.toNat_zero, ne_eq, not_false_eq_true, Int.reduceEq, c1, c2, wq, List.singleton_append, cvbs_one, beq_self_eq_true]
      refine IH (n.tdiv 10, _ :: s, m) _ ⟨by simp only; omega, by simp only; omega, ?_, by simp only [List.length_cons]; omega⟩ (by simp only; omega) rfl rfl
      simp only
      have : (10 : Int) ^ (m + 1) = 10 ^ m * 10 := by rw [Int.pow_succ]
      omega
  · have c1 : decide (n > 0) = false := decide_eq_false h
    have c2 : 1 + s.length < strMax := by simp only [strMax]; omega
    simp only [go_sem, Nat.reduceEqDiff, ↓reduceIte, reduceCtorEq, Nat.reduceAdd, Nat.reduceSub, Nat.reduceLeDiff, Nat.reduceMul, Nat.reduceLT, Int.reduceLT, Int.reduceLE, Int.reduceNeg, c1]
    refine OUT _ _ (by simp) ?_
    simp only [go_sem, Nat.reduceEqDiff, ↓reduceIte, reduceCtorEq, Nat.reduceAdd, Nat.reduceSub, Nat.reduceLeDiff, Nat.reduceMul, Nat.reduceLT, Int.reduceLT, Int.reduceLE, Int.reduceNeg, Int.cast_ofNat_Int, Int.reduceToNat, Int.toNat_zero, ne_eq, not_false_eq_true, Int.reduceEq, c2]
    refine ⟨(.str (109 :: s), []), ⟨_, rfl⟩, ?_⟩
    simp only [go_sem, Nat.reduceEqDiff, ↓reduceIte, reduceCtorEq, Nat.reduceAdd, Nat.reduceSub, Nat.reduceLeDiff, Nat.reduceMul, Nat.reduceLT, Int.reduceLT, Int.reduceLE, Int.reduceNeg, Int.cast_ofNat_Int, Int.reduceToNat, Int.toNat_zero, ne_eq, not_false_eq_true, Int.reduceEq]
noncomputable def textV (k : Int) : List UInt8 := match CL 59 [.int .i64 k] [] with | some (.str s, _) => s | _ => []
theorem markText_c (k : Int) (hk : 0 < k) (hk2 : k < 10000000000) : CL 59 [.int .i64 k] [] = some (.str (textV k), []) := by
  obtain ⟨s, h⟩ := markText_e k hk hk2
  have : textV k = s := by unfold textV; rw [h]
  rw [this]; exact h
noncomputable def mkO (k : Int) : Op := ⟨⟨k, k + 1⟩, k + 1 + 1, ⟨k + 1 + 1 + 1, k + 1 + 1 + 1 + 1⟩, ⟨k + 1 + 1 + 1 + 1 + 1, k + 1 + 1 + 1 + 1 + 1 + 1⟩, ⟨k + 1 + 1 + 1 + 1 + 1 + 1 + 1, k + 1 + 1 + 1 + 1 + 1 + 1 + 1 + 1⟩, k + 1 + 1 + 1 + 1 + 1 + 1 + 1 + 1 + 1, (k + 1 + 1 + 1 + 1 + 1 + 1 + 1 + 1 + 1 + 1).tmod 3 == 0, textV (k + 1 + 1 + 1 + 1 + 1 + 1 + 1 + 1 + 1 + 1 + 1)⟩
noncomputable def marksO (k : Int) (n : Nat) : List Op := (List.range n).map fun i => mkO (k + 12 * (i : Nat))
theorem marksO_len (k : Int) (n : Nat) : (marksO k n).length = n := by simp [marksO]
theorem marksO_at (k : Int) (n i : Nat) (h : i < n) : (marksO k n)[i]? = some (mkO (k + 12 * (i : Nat))) := by simp [marksO, h]
set_option maxRecDepth 20000 in
set_option maxHeartbeats 1000000 in
theorem markO_c (l : List Op) (k : Int) (hl : l.length ≤ 1048576) (hk : 0 < k) (hk2 : k ≤ 100000000) : CL 20 [.osl 0 0 l.length, .int .i64 k] [some (.rw 39 (l.map encO))] =
    some (.int .i64 (k + 12 * (l.length : Nat)), [some (.rw 39 ((marksO k l.length).map encO))]) := by
  refine callL_W _ _ _ (F := v20) rfl ?_
  simp only [v20, go_sem, Nat.reduceEqDiff, ↓reduceIte, reduceCtorEq, Nat.reduceAdd, Nat.reduceSub, Nat.reduceLeDiff, Nat.reduceMul, Nat.reduceLT, Int.reduceLT, Int.reduceLE, Int.reduceNeg]
  refine W_rounds (T := Nat × Int × List Op) (fun t => ⟨ofL [(0, .osl 0 0 l.length), (1, .int .i64 t.2.1), (5, .int .i64 t.1)], [some (.rw 39 (t.2.2.map encO))], 1⟩)
    (fun t => t.1 ≤ l.length ∧ t.2.1 = k + 12 * (t.1 : Nat) ∧ t.2.2.length = l.length ∧ ∀ j, j < t.1 → t.2.2[j]? = some (mkO (k + 12 * (j : Nat)))) (fun t => l.length - t.1) (0, k, l) rfl rfl ⟨Nat.zero_le _, by simp, rfl, fun j h => by omega⟩ ?_
  rintro ⟨i, K, L⟩ ⟨hi, hK, hL, hm⟩ Q1 IH OUT
  simp only at hi hK hL hm
  by_cases h : i < l.length
  · have c1 : decide ((i : Int) < l.length) = true := decide_eq_true (by omega)
    have c2 : (0 : Int) ≤ i := by omega
    have c3 : (i : Int) < l.length := by omega
    have hiL : i < L.length := by omega
    have hw : IntKind.i64.wrap ((i : Int) + 1) = ((i + 1 : Nat) : Int) := by rw [wrap_small _ (by omega) (by omega)]; rfl
    have w1 : IntKind.i64.wrap (K + 1) = K + 1 := wrap_small _ (by omega) (by omega)
    have w2 : IntKind.i64.wrap (K + 1 + 1) = K + 1 + 1 := wrap_small _ (by omega) (by omega)
    have w3 : IntKind.i64.wrap (K + 1 + 1 + 1) = K + 1 + 1 + 1 := wrap_small _ (by omega) (by omega)
    have w4 : IntKind.i64.wrap (K + 1 + 1 + 1 + 1) = K + 1 + 1 + 1 + 1 := wrap_small _ (by omega) (by omega)
    have w5 : IntKind.i64.wrap (K + 1 + 1 + 1 + 1 + 1) = K + 1 + 1 + 1 + 1 + 1 := wrap_small _ (by omega) (by omega)
    have w6 : IntKind.i64.wrap (K + 1 + 1 + 1 + 1 + 1 + 1) = K + 1 + 1 + 1 + 1 + 1 + 1 := wrap_small _ (by omega) (by omega)
    have w7 : IntKind.i64.wrap (K + 1 + 1 + 1 + 1 + 1 + 1 + 1) = K + 1 + 1 + 1 + 1 + 1 + 1 + 1 := wrap_small _ (by omega) (by omega)
    have w8 : IntKind.i64.wrap (K + 1 + 1 + 1 + 1 + 1 + 1 + 1 + 1) = K + 1 + 1 + 1 + 1 + 1 + 1 + 1 + 1 := wrap_small _ (by omega) (by omega)
    have w9 : IntKind.i64.wrap (K + 1 + 1 + 1 + 1 + 1 + 1 + 1 + 1 + 1) = K + 1 + 1 + 1 + 1 + 1 + 1 + 1 + 1 + 1 := wrap_small _ (by omega) (by omega)
    have w10 : IntKind.i64.wrap (K + 1 + 1 + 1 + 1 + 1 + 1 + 1 + 1 + 1 + 1) = K + 1 + 1 + 1 + 1 + 1 + 1 + 1 + 1 + 1 + 1 := wrap_small _ (by omega) (by omega)
    have w11 : IntKind.i64.wrap (K + 1 + 1 + 1 + 1 + 1 + 1 + 1 + 1 + 1 + 1 + 1) = K + 1 + 1 + 1 + 1 + 1 + 1 + 1 + 1 + 1 + 1 + 1 := wrap_small _ (by omega) (by omega)
    have w12 : IntKind.i64.wrap (K + 1 + 1 + 1 + 1 + 1 + 1 + 1 + 1 + 1 + 1 + 1 + 1) = K + 1 + 1 + 1 + 1 + 1 + 1 + 1 + 1 + 1 + 1 + 1 + 1 := wrap_small _ (by omega) (by omega)
    have hr : (List.map encO L)[i]? = some (encO L[i]) := by simp [hiL]
    have hs : ∀ r : List D, ((List.map encO L).set i r)[i]? = some r := fun r => List.getElem?_set_self (by simpa using hiL)
    have htx := markText_c (K + 1 + 1 + 1 + 1 + 1 + 1 + 1 + 1 + 1 + 1 + 1) (by omega) (by omega)
    generalize L[i] = g at hr
    obtain ⟨⟨s1, s2⟩, kd, ⟨t1, t2⟩, ⟨f1, f2⟩, ⟨p1, p2⟩, vl, en, tx⟩ := g
    have hrow : (List.map encO L).set i [.int .i64 K, .int .i64 (K + 1), .int .i64 (K + 1 + 1), .int .i64 (K + 1 + 1 + 1), .int .i64 (K + 1 + 1 + 1 + 1), .int .i64 (K + 1 + 1 + 1 + 1 + 1), .int .i64 (K + 1 + 1 + 1 + 1 + 1 + 1), .int .i64 (K + 1 + 1 + 1 + 1 + 1 + 1 + 1), .int .i64 (K + 1 + 1 + 1 + 1 + 1 + 1 + 1 + 1), .int .i64 (K + 1 + 1 + 1 + 1 + 1 + 1 + 1 + 1 + 1), .bool ((K + 1 + 1 + 1 + 1 + 1 + 1 + 1 + 1 + 1 + 1).tmod 3 == 0), .str (textV (K + 1 + 1 + 1 + 1 + 1 + 1 + 1 + 1 + 1 + 1 + 1))] = (L.set i (mkO K)).map encO := by
      rw [List.map_set]; rfl
    simp only [go_sem, Nat.reduceEqDiff, ↓reduceIte, reduceCtorEq, Nat.reduceAdd, Nat.reduceSub, Nat.reduceLeDiff, Nat.reduceMul, Nat.reduceLT, Int.reduceLT, Int.reduceLE, Int.reduceNeg, Int.cast_ofNat_Int, Int.reduceToNat, Int.toNat_zero, ne_eq, not_false_eq_true, Int.reduceEq, c1, c2, c3, hw, w1, w2, w3, w4, w5, w6, w7, w8, w9, w10, w11, w12, hr, hs, htx, encO, List.set_set, hrow, List.length_map]
    refine IH (i + 1, K + 1 + 1 + 1 + 1 + 1 + 1 + 1 + 1 + 1 + 1 + 1 + 1, L.set i (mkO K)) _ ⟨by simp only; omega, by simp only; omega, by simpa using hL, fun j hj => ?_⟩ (by simp only; omega) (by rw [renorm_eq]; simp only [List.map_cons, List.map_nil, go_sem, Nat.reduceEqDiff, ↓reduceIte, reduceCtorEq, Nat.reduceAdd, Nat.reduceSub, Nat.reduceLeDiff, Nat.reduceMul, Nat.reduceLT, Int.reduceLT, Int.reduceLE, Int.reduceNeg]; rfl) rfl
    simp only
    by_cases hji : j = i
    · subst hji
      rw [List.getElem?_set_self hiL, ← hK]
    · rw [List.getElem?_set_ne (by omega)]
      exact hm j (by omega)
  · have c1 : decide ((i : Int) < l.length) = false := decide_eq_false (by omega)
    have hil : i = l.length := by omega
    simp only [go_sem, Nat.reduceEqDiff, ↓reduceIte, reduceCtorEq, Nat.reduceAdd, Nat.reduceSub, Nat.reduceLeDiff, Nat.reduceMul, Nat.reduceLT, Int.reduceLT, Int.reduceLE, Int.reduceNeg, c1]
    refine OUT _ _ (by simp) ?_
    have hLm : L = marksO k l.length := by
      apply List.ext_getElem?
      intro j
      by_cases hj : j < l.length
      · rw [hm j (by omega), marksO_at _ _ _ hj]
      · rw [List.getElem?_eq_none (by omega), List.getElem?_eq_none (by rw [marksO_len]; omega)]
    simp only [go_sem, Nat.reduceEqDiff, ↓reduceIte, reduceCtorEq, Nat.reduceAdd, Nat.reduceSub, Nat.reduceLeDiff, Nat.reduceMul, Nat.reduceLT, Int.reduceLT, Int.reduceLE, Int.reduceNeg]
    rw [hLm, hK, hil]
    rfl
set_option maxRecDepth 20000 in
set_option maxHeartbeats 1000000 in
theorem heldO_c (n : Nat) (k : Int) (hl : n ≤ 1048576) (hk : 0 < k) (hk2 : k ≤ 100000000) : CL 21 [.sl ((marksO k n).map encO), .int .i64 k] [] = some (.int .i64 (k + 12 * (n : Nat)), []) := by
  refine callL_W _ _ _ (F := v21) rfl ?_
  simp only [v21, go_sem, Nat.reduceEqDiff, ↓reduceIte, reduceCtorEq, Nat.reduceAdd, Nat.reduceSub, Nat.reduceLeDiff, Nat.reduceMul, Nat.reduceLT, Int.reduceLT, Int.reduceLE, Int.reduceNeg]
  refine W_rounds (T := Nat × Int) (fun t => ⟨ofL [(0, .sl ((marksO k n).map encO)), (1, .int .i64 t.2), (5, .int .i64 t.1)], [], 0⟩) (fun t => t.1 ≤ n ∧ t.2 = k + 12 * (t.1 : Nat)) (fun t => n - t.1) (0, k) rfl rfl ⟨Nat.zero_le _, by simp⟩ ?_
  rintro ⟨i, K⟩ ⟨hi, hK⟩ Q1 IH OUT
  simp only at hi hK
  by_cases h : i < n
  · have c1 : decide ((i : Int) < n) = true := decide_eq_true (by omega)
    have c2 : (0 : Int) ≤ i := by omega
    have hw : IntKind.i64.wrap ((i : Int) + 1) = ((i + 1 : Nat) : Int) := by rw [wrap_small _ (by omega) (by omega)]; rfl
    have w1 : IntKind.i64.wrap (K + 1) = K + 1 := wrap_small _ (by omega) (by omega)
    have w2 : IntKind.i64.wrap (K + 1 + 1) = K + 1 + 1 := wrap_small _ (by omega) (by omega)
    have w3 : IntKind.i64.wrap (K + 1 + 1 + 1) = K + 1 + 1 + 1 := wrap_small _ (by omega) (by omega)
    have w4 : IntKind.i64.wrap (K + 1 + 1 + 1 + 1) = K + 1 + 1 + 1 + 1 := wrap_small _ (by omega) (by omega)
    have w5 : IntKind.i64.wrap (K + 1 + 1 + 1 + 1 + 1) = K + 1 + 1 + 1 + 1 + 1 := wrap_small _ (by omega) (by omega)
    have w6 : IntKind.i64.wrap (K + 1 + 1 + 1 + 1 + 1 + 1) = K + 1 + 1 + 1 + 1 + 1 + 1 := wrap_small _ (by omega) (by omega)
    have w7 : IntKind.i64.wrap (K + 1 + 1 + 1 + 1 + 1 + 1 + 1) = K + 1 + 1 + 1 + 1 + 1 + 1 + 1 := wrap_small _ (by omega) (by omega)
    have w8 : IntKind.i64.wrap (K + 1 + 1 + 1 + 1 + 1 + 1 + 1 + 1) = K + 1 + 1 + 1 + 1 + 1 + 1 + 1 + 1 := wrap_small _ (by omega) (by omega)
    have w9 : IntKind.i64.wrap (K + 1 + 1 + 1 + 1 + 1 + 1 + 1 + 1 + 1) = K + 1 + 1 + 1 + 1 + 1 + 1 + 1 + 1 + 1 := wrap_small _ (by omega) (by omega)
    have w10 : IntKind.i64.wrap (K + 1 + 1 + 1 + 1 + 1 + 1 + 1 + 1 + 1 + 1) = K + 1 + 1 + 1 + 1 + 1 + 1 + 1 + 1 + 1 + 1 := wrap_small _ (by omega) (by omega)
    have w11 : IntKind.i64.wrap (K + 1 + 1 + 1 + 1 + 1 + 1 + 1 + 1 + 1 + 1 + 1) = K + 1 + 1 + 1 + 1 + 1 + 1 + 1 + 1 + 1 + 1 + 1 := wrap_small _ (by omega) (by omega)
    have w12 : IntKind.i64.wrap (K + 1 + 1 + 1 + 1 + 1 + 1 + 1 + 1 + 1 + 1 + 1 + 1) = K + 1 + 1 + 1 + 1 + 1 + 1 + 1 + 1 + 1 + 1 + 1 + 1 := wrap_small _ (by omega) (by omega)
    have htx := markText_c (K + 1 + 1 + 1 + 1 + 1 + 1 + 1 + 1 + 1 + 1 + 1) (by omega) (by omega)
    have hr : (List.map encO (marksO k n))[i]? = some [.int .i64 K, .int .i64 (K + 1), .int .i64 (K + 1 + 1), .int .i64 (K + 1 + 1 + 1), .int .i64 (K + 1 + 1 + 1 + 1), .int .i64 (K + 1 + 1 + 1 + 1 + 1), .int .i64 (K + 1 + 1 + 1 + 1 + 1 + 1), .int .i64 (K + 1 + 1 + 1 + 1 + 1 + 1 + 1), .int .i64 (K + 1 + 1 + 1 + 1 + 1 + 1 + 1 + 1), .int .i64 (K + 1 + 1 + 1 + 1 + 1 + 1 + 1 + 1 + 1), .bool ((K + 1 + 1 + 1 + 1 + 1 + 1 + 1 + 1 + 1 + 1).tmod 3 == 0), .str (textV (K + 1 + 1 + 1 + 1 + 1 + 1 + 1 + 1 + 1 + 1 + 1))] := by
      rw [List.getElem?_map, marksO_at _ _ _ h, ← hK]; rfl
    simp only [go_sem, Nat.reduceEqDiff, ↓reduceIte, reduceCtorEq, Nat.reduceAdd, Nat.reduceSub, Nat.reduceLeDiff, Nat.reduceMul, Nat.reduceLT, Int.reduceLT, Int.reduceLE, Int.reduceNeg, Int.cast_ofNat_Int, Int.reduceToNat, Int.toNat_zero, ne_eq, not_false_eq_true, Int.reduceEq, c1, c2, hw, w1, w2, w3, w4, w5, w6, w7, w8, w9, w10, w11, w12, hr, htx, marksO_len, List.length_map, bne_self_eq_false]
    exact IH (i + 1, K + 1 + 1 + 1 + 1 + 1 + 1 + 1 + 1 + 1 + 1 + 1 + 1) _ ⟨by simp only; omega, by simp only; omega⟩ (by simp only; omega) (by rw [renorm_eq]; simp only [List.map_cons, List.map_nil, go_sem, Nat.reduceEqDiff, ↓reduceIte, reduceCtorEq, Nat.reduceAdd, Nat.reduceSub, Nat.reduceLeDiff, Nat.reduceMul, Nat.reduceLT, Int.reduceLT, Int.reduceLE, Int.reduceNeg]; rfl) rfl
  · have c1 : decide ((i : Int) < n) = false := decide_eq_false (by omega)
    have hil : i = n := by omega
    simp only [go_sem, Nat.reduceEqDiff, ↓reduceIte, reduceCtorEq, Nat.reduceAdd, Nat.reduceSub, Nat.reduceLeDiff, Nat.reduceMul, Nat.reduceLT, Int.reduceLT, Int.reduceLE, Int.reduceNeg, c1, marksO_len, List.length_map]
    refine OUT _ _ (by simp) ?_
    simp only [go_sem, Nat.reduceEqDiff, ↓reduceIte, reduceCtorEq, Nat.reduceAdd, Nat.reduceSub, Nat.reduceLeDiff, Nat.reduceMul, Nat.reduceLT, Int.reduceLT, Int.reduceLE, Int.reduceNeg]
    rw [hK, hil]
end Go.Vi.Code
