/- Contracts: the laws ExactCommonLog, ExactLogDifference. -/
import Derived.Test.YtcnhokifbgbegaaViO10
set_option linter.unusedSimpArgs false
set_option linter.unusedVariables false
namespace Go.Vi.Code
set_option maxRecDepth 20000 in
set_option maxHeartbeats 2000000 in
theorem fnExactCommonLog_law {dd : List D} (h : ArgsTy [kO, kO] dd) : CL 3 dd [] = some (.bool true, []) := by
  obtain ⟨_, _, rfl, hA, hB⟩ := args2 h
  obtain ⟨a, rfl, hla, hta⟩ := arg_ops hA
  obtain ⟨b, rfl, hlb, htb⟩ := arg_ops hB
  refine callL_W _ _ _ (F := v3) rfl ?_
  have hz := szOpS_c a 1048576 hla hta (by decide) (by decide)
  obtain ⟨e1, e2, e3⟩ := szL_le a 1048576 (by decide)
  generalize szL 1048576 a = n at hz e1 e2 e3
  by_cases h : n < 0
  · rw [e3 h] at hz
    simp only [v3, go_sem, Nat.reduceEqDiff, ↓reduceIte, reduceCtorEq, Nat.reduceAdd, Nat.reduceSub, Nat.reduceLeDiff, Nat.reduceMul, Nat.reduceLT, Int.reduceLT, Int.reduceLE, Int.reduceNeg, Int.cast_ofNat_Int, Int.reduceToNat, Int.toNat_zero, ne_eq, not_false_eq_true, Int.reduceEq, hz, neg1']
  obtain ⟨la, ta⟩ := e2 (by omega)
  have d1 : decide (n < 0) = false := decide_eq_false h
  have hz2 := szOpS_c b n hlb htb (by omega) (by omega)
  obtain ⟨g1, g2, g3⟩ := szL_le b n (by omega)
  generalize szL n b = m at hz2 g1 g2 g3
  by_cases h' : m < 0
  · rw [g3 h'] at hz2
    simp only [v3, go_sem, Nat.reduceEqDiff, ↓reduceIte, reduceCtorEq, Nat.reduceAdd, Nat.reduceSub, Nat.reduceLeDiff, Nat.reduceMul, Nat.reduceLT, Int.reduceLT, Int.reduceLE, Int.reduceNeg, Int.cast_ofNat_Int, Int.reduceToNat, Int.toNat_zero, ne_eq, not_false_eq_true, Int.reduceEq, hz, d1, hz2, neg1']
  obtain ⟨lb, tb⟩ := g2 (by omega)
  have d2 : decide (m < 0) = false := decide_eq_false h'
  have la' : a.length ≤ 1048576 := by omega
  have lb' : b.length ≤ 1048576 := by omega
  have txa : TX a := fun o ho => by have := ta o ho; omega
  have txb : TX b := fun o ho => by have := tb o ho; omega
  have tac := toOpS_c a la'
  have tbc := toOpS_c b lb'
  have ss := CommonLog_s a b la' lb' txa txb
  have sc := CommonLog_c a b la' lb' txa txb
  have eqa := eqOpS_c a a la' la'
  have eqb := eqOpS_c b b lb' lb'
  have hr : (logInH a b true).length ≤ 1048576 := by
    unfold logInH; split
    · exact Nat.le_trans (List.length_filter_le _ _) la'
    · simp
  have eqr := eqOpS_c (logInH a b true) (logInH a b true) hr hr
  simp only [decide_true] at eqa eqb eqr
  have ss : CL 16 [.sl (a.map encO), .sl (b.map encO)] [] = some (if validLog a = true ∧ validLog b = true then (.osl 0 0 (logInH a b true).length, [some (.rw 39 ((logInH a b true).map encO))]) else (.sl ((logInH a b true).map encO), [])) := by
    rw [ss]
    by_cases hv : validLog a = true ∧ validLog b = true
    · rw [if_pos hv, if_pos hv, show logInH a b true = logInL a b true from if_pos hv]
    · rw [if_neg hv, if_neg hv, show logInH a b true = [] from if_neg hv]; rfl
  generalize logInH a b true = r at ss sc hr eqr
  have ba := bare_encO 39 r
  have m1 := markO_c a 1 la' (by omega) (by omega)
  have m2 := markO_c b (1 + 12 * (a.length : Nat)) lb' (by omega) (by omega)
  have m3 := markO_c r 1 hr (by omega) (by omega)
  have hd := heldO_c r.length 1 hr (by omega) (by omega)
  have k1 : decide (1 + 12 * (a.length : Int) + 12 * (b.length : Int) < 0) = false := decide_eq_false (by omega)
  have k2 : decide (1 + 12 * (r.length : Int) < 0) = false := decide_eq_false (by omega)
  have tm : List.take r.length (List.map encO (marksO 1 r.length)) = List.map encO (marksO 1 r.length) := List.take_of_length_le (by simp [marksO_len])
  have r1 := callWith_root1 (call := CL) (x := .osl 0 0 a.length) (st := [some (.rw 39 (a.map encO)), some (.rw 39 (b.map encO)), some (.rw 39 (r.map encO))]) rfl rfl rfl rfl m1 rfl rfl
  have r2 := callWith_root1 (call := CL) (x := .osl 1 0 b.length) (st := [some (.rw 39 ((marksO 1 a.length).map encO)), some (.rw 39 (b.map encO)), some (.rw 39 (r.map encO))]) rfl rfl rfl rfl m2 rfl rfl
  have r3 := callWith_root1 (call := CL) (x := .osl 2 0 r.length) (st := [some (.rw 39 ((marksO 1 a.length).map encO)), some (.rw 39 ((marksO (1 + 12 * (a.length : Nat)) b.length).map encO)), some (.rw 39 (r.map encO))]) rfl rfl rfl rfl m3 rfl rfl
  by_cases hv : validLog a = true ∧ validLog b = true
  · rw [if_pos hv] at ss
    simp only [v3, go_sem, Nat.reduceEqDiff, ↓reduceIte, reduceCtorEq, Nat.reduceAdd, Nat.reduceSub, Nat.reduceLeDiff, Nat.reduceMul, Nat.reduceLT, Int.reduceLT, Int.reduceLE, Int.reduceNeg, Int.cast_ofNat_Int, Int.reduceToNat, Int.toNat_zero, ne_eq, not_false_eq_true, Int.reduceEq, hz, d1, hz2, d2, tac, tbc, ss, sc, eqa, eqb, eqr, ba, r1, r2, r3, k1, k2, hd, tm, marksO_len, List.length_map, bne_self_eq_false, Bool.not_true]
  · rw [if_neg hv] at ss
    simp only [v3, go_sem, Nat.reduceEqDiff, ↓reduceIte, reduceCtorEq, Nat.reduceAdd, Nat.reduceSub, Nat.reduceLeDiff, Nat.reduceMul, Nat.reduceLT, Int.reduceLT, Int.reduceLE, Int.reduceNeg, Int.cast_ofNat_Int, Int.reduceToNat, Int.toNat_zero, ne_eq, not_false_eq_true, Int.reduceEq, hz, d1, hz2, d2, tac, tbc, ss, sc, eqa, eqb, eqr, ba, r1, r2, r3, k1, k2, hd, tm, marksO_len, List.length_map, bne_self_eq_false, Bool.not_true]
set_option maxRecDepth 20000 in
set_option maxHeartbeats 2000000 in
theorem fnExactLogDifference_law {dd : List D} (h : ArgsTy [kO, kO] dd) : CL 4 dd [] = some (.bool true, []) := by
  obtain ⟨_, _, rfl, hA, hB⟩ := args2 h
  obtain ⟨a, rfl, hla, hta⟩ := arg_ops hA
  obtain ⟨b, rfl, hlb, htb⟩ := arg_ops hB
  refine callL_W _ _ _ (F := v4) rfl ?_
  have hz := szOpS_c a 1048576 hla hta (by decide) (by decide)
  obtain ⟨e1, e2, e3⟩ := szL_le a 1048576 (by decide)
  generalize szL 1048576 a = n at hz e1 e2 e3
  by_cases h : n < 0
  · rw [e3 h] at hz
    simp only [v4, go_sem, Nat.reduceEqDiff, ↓reduceIte, reduceCtorEq, Nat.reduceAdd, Nat.reduceSub, Nat.reduceLeDiff, Nat.reduceMul, Nat.reduceLT, Int.reduceLT, Int.reduceLE, Int.reduceNeg, Int.cast_ofNat_Int, Int.reduceToNat, Int.toNat_zero, ne_eq, not_false_eq_true, Int.reduceEq, hz, neg1']
  obtain ⟨la, ta⟩ := e2 (by omega)
  have d1 : decide (n < 0) = false := decide_eq_false h
  have hz2 := szOpS_c b n hlb htb (by omega) (by omega)
  obtain ⟨g1, g2, g3⟩ := szL_le b n (by omega)
  generalize szL n b = m at hz2 g1 g2 g3
  by_cases h' : m < 0
  · rw [g3 h'] at hz2
    simp only [v4, go_sem, Nat.reduceEqDiff, ↓reduceIte, reduceCtorEq, Nat.reduceAdd, Nat.reduceSub, Nat.reduceLeDiff, Nat.reduceMul, Nat.reduceLT, Int.reduceLT, Int.reduceLE, Int.reduceNeg, Int.cast_ofNat_Int, Int.reduceToNat, Int.toNat_zero, ne_eq, not_false_eq_true, Int.reduceEq, hz, d1, hz2, neg1']
  obtain ⟨lb, tb⟩ := g2 (by omega)
  have d2 : decide (m < 0) = false := decide_eq_false h'
  have la' : a.length ≤ 1048576 := by omega
  have lb' : b.length ≤ 1048576 := by omega
  have txa : TX a := fun o ho => by have := ta o ho; omega
  have txb : TX b := fun o ho => by have := tb o ho; omega
  have tac := toOpS_c a la'
  have tbc := toOpS_c b lb'
  have ss := LogDifference_s a b la' lb' txa txb
  have sc := LogDifference_c a b la' lb' txa txb
  have eqa := eqOpS_c a a la' la'
  have eqb := eqOpS_c b b lb' lb'
  have hr : (logInH a b false).length ≤ 1048576 := by
    unfold logInH; split
    · exact Nat.le_trans (List.length_filter_le _ _) la'
    · simp
  have eqr := eqOpS_c (logInH a b false) (logInH a b false) hr hr
  simp only [decide_true] at eqa eqb eqr
  generalize logInH a b false = r at ss sc hr eqr
  have ba := bare_encO 39 r
  have m1 := markO_c a 1 la' (by omega) (by omega)
  have m2 := markO_c b (1 + 12 * (a.length : Nat)) lb' (by omega) (by omega)
  have m3 := markO_c r 1 hr (by omega) (by omega)
  have hd := heldO_c r.length 1 hr (by omega) (by omega)
  have k1 : decide (1 + 12 * (a.length : Int) + 12 * (b.length : Int) < 0) = false := decide_eq_false (by omega)
  have k2 : decide (1 + 12 * (r.length : Int) < 0) = false := decide_eq_false (by omega)
  have tm : List.take r.length (List.map encO (marksO 1 r.length)) = List.map encO (marksO 1 r.length) := List.take_of_length_le (by simp [marksO_len])
  have r1 := callWith_root1 (call := CL) (x := .osl 0 0 a.length) (st := [some (.rw 39 (a.map encO)), some (.rw 39 (b.map encO)), some (.rw 39 (r.map encO))]) rfl rfl rfl rfl m1 rfl rfl
  have r2 := callWith_root1 (call := CL) (x := .osl 1 0 b.length) (st := [some (.rw 39 ((marksO 1 a.length).map encO)), some (.rw 39 (b.map encO)), some (.rw 39 (r.map encO))]) rfl rfl rfl rfl m2 rfl rfl
  have r3 := callWith_root1 (call := CL) (x := .osl 2 0 r.length) (st := [some (.rw 39 ((marksO 1 a.length).map encO)), some (.rw 39 ((marksO (1 + 12 * (a.length : Nat)) b.length).map encO)), some (.rw 39 (r.map encO))]) rfl rfl rfl rfl m3 rfl rfl
  simp only [v4, go_sem, Nat.reduceEqDiff, ↓reduceIte, reduceCtorEq, Nat.reduceAdd, Nat.reduceSub, Nat.reduceLeDiff, Nat.reduceMul, Nat.reduceLT, Int.reduceLT, Int.reduceLE, Int.reduceNeg, Int.cast_ofNat_Int, Int.reduceToNat, Int.toNat_zero, ne_eq, not_false_eq_true, Int.reduceEq, hz, d1, hz2, d2, tac, tbc, ss, sc, eqa, eqb, eqr, ba, r1, r2, r3, k1, k2, hd, tm, marksO_len, List.length_map, bne_self_eq_false, Bool.not_true]
end Go.Vi.Code
