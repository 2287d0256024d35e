/- Contracts: the laws ExactGrantMerge and ExactEffectiveGrants. -/
import Derived.Test.YtojgihheepdgdaaViG10
set_option linter.unusedSimpArgs false
set_option linter.unusedVariables false
namespace Go.Vi.Code
theorem bare_encG (e : Nat) (l : List Grant) : bareO (some (.rw e (l.map encG))) = true := by
  simp only [bareO, List.all_eq_true]
  intro r hr
  obtain ⟨g, _, rfl⟩ := List.mem_map.1 hr
  simp [encG, bare]
theorem bare_encB (e : Nat) (l : List Bool) : bareO (some (.rw e (l.map encB))) = true := by
  simp only [bareO, List.all_eq_true]
  intro r hr
  obtain ⟨g, _, rfl⟩ := List.mem_map.1 hr
  simp [encB, bare]
theorem mergeG_len (a b : List Grant) (ha : a.length ≤ 1048576) : (mergeG a b).1.length ≤ 1048576 := by
  unfold mergeG
  split
  · split
    · simp only; omega
    · exact ha
  · simp
set_option maxRecDepth 20000 in
set_option maxHeartbeats 1000000 in
theorem fnExactGrantMerge_law {dd : List D} (h : ArgsTy [kG, kG] dd) : CL 8 dd [] = some (.bool true, []) := by
  obtain ⟨_, _, rfl, hA, hB⟩ := args2 h
  obtain ⟨a, rfl, hla⟩ := arg_grants hA
  obtain ⟨b, rfl, hlb⟩ := arg_grants hB
  refine callL_W _ _ _ (F := v8) rfl ?_
  have hz := szGrantS_c a 1048576 hla (by decide) (by decide)
  by_cases h : a.length ≤ 1048576
  case neg =>
    have c1 : ((1048576 : Int) - a.length < 0) = True := eq_true (by omega)
    simp only [v8, go_sem, Nat.reduceEqDiff, ↓reduceIte, reduceCtorEq, Nat.reduceAdd, Nat.reduceSub, Nat.reduceLeDiff, Nat.reduceMul, Nat.reduceLT, Int.reduceLT, Int.reduceLE, Int.reduceNeg, hz, c1]
  have c1 : ((1048576 : Int) - a.length < 0) = False := eq_false (by omega)
  have d1 : decide ((1048576 : Int) - a.length < 0) = false := decide_eq_false (by omega)
  have hz2 := szGrantS_c b (1048576 - a.length) hlb (by omega) (by omega)
  by_cases h' : a.length + b.length ≤ 1048576
  case neg =>
    have c2 : ((1048576 : Int) - a.length - b.length < 0) = True := eq_true (by omega)
    simp only [v8, go_sem, Nat.reduceEqDiff, ↓reduceIte, reduceCtorEq, Nat.reduceAdd, Nat.reduceSub, Nat.reduceLeDiff, Nat.reduceMul, Nat.reduceLT, Int.reduceLT, Int.reduceLE, Int.reduceNeg, hz, c1, d1, hz2, c2]
  have c2 : ((1048576 : Int) - a.length - b.length < 0) = False := eq_false (by omega)
  have d2 : decide ((1048576 : Int) - a.length - b.length < 0) = false := decide_eq_false (by omega)
  have hb' : b.length ≤ 1048576 := by omega
  have ta := toGrantS_c a h
  have tb := toGrantS_c b hb'
  have ms := merge_s a b h hb'
  have mc := merge_c a b h hb'
  have eqa := eqGrantS_c a a h h
  have eqb := eqGrantS_c b b hb' hb'
  have hr := mergeG_len a b h
  have eqr := eqGrantS_c (mergeG a b).1 (mergeG a b).1 hr hr
  simp only [decide_true] at eqa eqb eqr
  have ba := bare_encG 41 (mergeG a b).1
  have m1 := markG_c a 1 h (by omega) (by omega)
  have m2 := markG_c b (1 + 5 * (a.length : Nat)) hb' (by omega) (by omega)
  have m3 := markG_c (mergeG a b).1 1 hr (by omega) (by omega)
  have hd := heldG_c (mergeG a b).1.length 1 hr (by omega) (by omega)
  have k1 : decide (1 + 5 * (a.length : Int) + 5 * (b.length : Int) < 0) = false := decide_eq_false (by omega)
  have k2 : decide (1 + 5 * ((mergeG a b).1.length : Int) < 0) = false := decide_eq_false (by omega)
  have tm : List.take (mergeG a b).1.length (List.map encG (marksG 1 (mergeG a b).1.length)) = List.map encG (marksG 1 (mergeG a b).1.length) := List.take_of_length_le (by simp [marksG_len])
  have r1 := callWith_root1 (call := CL) (x := .osl 0 0 a.length) (st := [some (.rw 41 (a.map encG)), some (.rw 41 (b.map encG)), some (.rw 41 ((mergeG a b).1.map encG))]) rfl rfl rfl rfl m1 rfl rfl
  have r2 := callWith_root1 (call := CL) (x := .osl 1 0 b.length) (st := [some (.rw 41 ((marksG 1 a.length).map encG)), some (.rw 41 (b.map encG)), some (.rw 41 ((mergeG a b).1.map encG))]) rfl rfl rfl rfl m2 rfl rfl
  have r3 := callWith_root1 (call := CL) (x := .osl 2 0 (mergeG a b).1.length) (st := [some (.rw 41 ((marksG 1 a.length).map encG)), some (.rw 41 ((marksG (1 + 5 * (a.length : Nat)) b.length).map encG)), some (.rw 41 ((mergeG a b).1.map encG))]) rfl rfl rfl rfl m3 rfl rfl
  by_cases hv : validGrants a = true ∧ validGrants b = true
  · rw [if_pos hv] at mc
    simp only [v8, go_sem, Nat.reduceEqDiff, ↓reduceIte, reduceCtorEq, Nat.reduceAdd, Nat.reduceSub, Nat.reduceLeDiff, Nat.reduceMul, Nat.reduceLT, Int.reduceLT, Int.reduceLE, Int.reduceNeg, Int.cast_ofNat_Int, Int.reduceToNat, Int.toNat_zero, ne_eq, not_false_eq_true, Int.reduceEq, hz, c1, d1, hz2, c2, d2, ta, tb, ms, mc, eqa, eqb, eqr, ba, r1, r2, r3, k1, k2, hd, tm, marksG_len, List.length_map, bne_self_eq_false, Bool.not_true]
  · rw [if_neg hv] at mc
    have hmg : mergeG a b = ([], false) := by simp only [mergeG, hv, if_false]
    rw [hmg] at ms eqr r1 r2 r3 hd k2 tm
    simp only [List.length_nil, List.map_nil] at ms eqr r1 r2 r3 hd k2 tm
    simp only [v8, go_sem, Nat.reduceEqDiff, ↓reduceIte, reduceCtorEq, Nat.reduceAdd, Nat.reduceSub, Nat.reduceLeDiff, Nat.reduceMul, Nat.reduceLT, Int.reduceLT, Int.reduceLE, Int.reduceNeg, Int.cast_ofNat_Int, Int.reduceToNat, Int.toNat_zero, ne_eq, not_false_eq_true, Int.reduceEq, hz, c1, d1, hz2, c2, d2, ta, tb, ms, mc, eqa, eqb, eqr, r1, r2, r3, k1, k2, hd, tm, marksG_len, List.length_map, List.length_nil, bne_self_eq_false, Bool.not_true]
    simp
theorem effGrants_len (l : List Grant) : (effGrants l).length ≤ l.length := by
  unfold effGrants
  split
  · rw [effs_len]; exact Nat.le_refl _
  · simp
set_option maxRecDepth 20000 in
set_option maxHeartbeats 1000000 in
theorem fnExactEffectiveGrants_law {dd : List D} (h : ArgsTy [kG] dd) : CL 11 dd [] = some (.bool true, []) := by
  obtain ⟨_, rfl, hA⟩ := args1 h
  obtain ⟨a, rfl, hla⟩ := arg_grants hA
  refine callL_W _ _ _ (F := v11) rfl ?_
  have hz := szGrantS_c a 1048576 hla (by decide) (by decide)
  by_cases h : a.length ≤ 1048576
  case neg =>
    have c1 : ((1048576 : Int) - a.length < 0) = True := eq_true (by omega)
    simp only [v11, go_sem, Nat.reduceEqDiff, ↓reduceIte, reduceCtorEq, Nat.reduceAdd, Nat.reduceSub, Nat.reduceLeDiff, Nat.reduceMul, Nat.reduceLT, Int.reduceLT, Int.reduceLE, Int.reduceNeg, hz, c1]
  have c1 : ((1048576 : Int) - a.length < 0) = False := eq_false (by omega)
  have d1 : decide ((1048576 : Int) - a.length < 0) = false := decide_eq_false (by omega)
  have ta := toGrantS_c a h
  have es := effGrants_s a h
  have ec := effGrants_c a h
  have eqa := eqGrantS_c a a h h
  have hr := Nat.le_trans (effGrants_len a) h
  have eqr := eqBoolS_c (effGrants a) (effGrants a) hr hr
  simp only [decide_true] at eqa eqr
  have ba := bare_encB 4 (effGrants a)
  have m1 := markG_c a 1 h (by omega) (by omega)
  have m3 := markB_c (effGrants a) 1 hr (by omega) (by omega)
  have hd := heldB_c (effGrants a).length 1 hr (by omega) (by omega)
  have k1 : decide (1 + 5 * (a.length : Int) < 0) = false := decide_eq_false (by omega)
  have k2 : decide (1 + ((effGrants a).length : Int) < 0) = false := decide_eq_false (by omega)
  have tm : List.take (effGrants a).length (List.map encB (marksB 1 (effGrants a).length)) = List.map encB (marksB 1 (effGrants a).length) := List.take_of_length_le (by simp [marksB_len])
  have r1 := callWith_root1 (call := CL) (x := .osl 0 0 a.length) (st := [some (.rw 41 (a.map encG)), some (.rw 4 ((effGrants a).map encB))]) rfl rfl rfl rfl m1 rfl rfl
  have r3 := callWith_root1 (call := CL) (x := .osl 1 0 (effGrants a).length) (st := [some (.rw 41 ((marksG 1 a.length).map encG)), some (.rw 4 ((effGrants a).map encB))]) rfl rfl rfl rfl m3 rfl rfl
  by_cases hv : validGrants a = true
  · rw [if_pos hv] at ec
    simp only [v11, go_sem, Nat.reduceEqDiff, ↓reduceIte, reduceCtorEq, Nat.reduceAdd, Nat.reduceSub, Nat.reduceLeDiff, Nat.reduceMul, Nat.reduceLT, Int.reduceLT, Int.reduceLE, Int.reduceNeg, Int.cast_ofNat_Int, Int.reduceToNat, Int.toNat_zero, ne_eq, not_false_eq_true, Int.reduceEq, hz, c1, d1, ta, es, ec, eqa, eqr, ba, r1, r3, k1, k2, hd, tm, marksB_len, List.length_map, bne_self_eq_false, Bool.not_true]
  · rw [if_neg hv] at ec
    have hmg : effGrants a = [] := by simp only [effGrants, hv, if_false]; rfl
    rw [hmg] at es eqr r1 r3 hd k2 tm
    simp only [List.length_nil, List.map_nil] at es eqr r1 r3 hd k2 tm
    simp only [v11, go_sem, Nat.reduceEqDiff, ↓reduceIte, reduceCtorEq, Nat.reduceAdd, Nat.reduceSub, Nat.reduceLeDiff, Nat.reduceMul, Nat.reduceLT, Int.reduceLT, Int.reduceLE, Int.reduceNeg, Int.cast_ofNat_Int, Int.reduceToNat, Int.toNat_zero, ne_eq, not_false_eq_true, Int.reduceEq, hz, c1, d1, ta, es, ec, eqa, eqr, r1, r3, k1, k2, hd, tm, marksB_len, List.length_map, List.length_nil, bne_self_eq_false, Bool.not_true]
    try simp
end Go.Vi.Code
