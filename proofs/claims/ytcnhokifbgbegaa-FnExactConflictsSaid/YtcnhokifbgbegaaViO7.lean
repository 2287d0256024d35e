/- Contracts: LogContains; its law. -/
import Derived.Test.YtcnhokifbgbegaaViO6
set_option linter.unusedSimpArgs false
set_option linter.unusedVariables false
namespace Go.Vi.Code
theorem containsOps_s (a b : List Op) (ha : a.length ≤ 1048576) (hb : b.length ≤ 1048576) : CL 55 [.sl (a.map encO), .sl (b.map encO)] [] = some (.bool (b.all (inL a)), []) := by
  refine callL_W _ _ _ (F := v55) rfl ?_
  simp only [v55, go_sem, Nat.reduceEqDiff, ↓reduceIte, reduceCtorEq, Nat.reduceAdd, Nat.reduceSub, Nat.reduceLeDiff, Nat.reduceMul, Nat.reduceLT, Int.reduceLT, Int.reduceLE, Int.reduceNeg, Int.cast_ofNat_Int, Int.reduceToNat, Int.toNat_zero, ne_eq, not_false_eq_true, Int.reduceEq]
  refine W_rounds (T := Nat) (fun i => ⟨ofL [(0, .sl (a.map encO)), (1, .sl (b.map encO)), (5, .int .i64 i)], [], 0⟩) (fun i => i ≤ b.length ∧ ∀ j (h : j < b.length), j < i → inL a b[j] = true) (fun i => b.length - i) 0 rfl rfl ⟨Nat.zero_le _, fun j h h0 => by omega⟩ ?_
  rintro i ⟨hi, hlt⟩ Q1 IH OUT
  by_cases h : i < b.length
  · have c1 : decide ((i : Int) < b.length) = true := decide_eq_true (by omega)
    have c2 : (0 : Int) ≤ i := by omega
    have hr : (List.map encO b)[i]? = some (encO b[i]) := by simp [h]
    have hw : IntKind.i64.wrap ((i : Int) + 1) = ((i + 1 : Nat) : Int) := by rw [wrap_small _ (by omega) (by omega)]; rfl
    have hlt' := fun (hs : inL a b[i] = true) j (hj : j < b.length) (hji : j < i + 1) => (show inL a b[j] = true from by
      rcases Nat.lt_succ_iff_lt_or_eq.1 hji with h3 | h3
      · exact hlt j hj h3
      · subst h3; exact hs)
    have hbad := fun (hs : inL a b[i] = false) => all_false h hs
    have hss := fun k (hf : fidx a b[i].id = some k) g (hg : a[k]? = some g) => in_step a b[i] k hf g hg
    have hsn := fun (hf : fidx a b[i].id = none) => (show inL a b[i] = false from by unfold inL; rw [hf])
    generalize b[i] = x at hr hlt' hbad hss hsn
    obtain ⟨⟨s1, s2⟩, kd, ⟨t1, t2⟩, ⟨f1, f2⟩, ⟨p1, p2⟩, vl, en, tx⟩ := x
    have ho := findOp_s a ha s1 s2
    cases hf : fidx a ⟨s1, s2⟩ with
    | none =>
      rw [hf, show fI none = -1 from rfl] at ho
      simp only [go_sem, Nat.reduceEqDiff, ↓reduceIte, reduceCtorEq, Nat.reduceAdd, Nat.reduceSub, Nat.reduceLeDiff, Nat.reduceMul, Nat.reduceLT, Int.reduceLT, Int.reduceLE, Int.reduceNeg, Int.cast_ofNat_Int, Int.reduceToNat, Int.toNat_zero, ne_eq, not_false_eq_true, Int.reduceEq, c1, c2, hr, hw, encO, ho, neg1']
      refine OUT _ _ (by simp) ?_
      simp only [go_sem, Nat.reduceEqDiff, ↓reduceIte, reduceCtorEq, Nat.reduceAdd, Nat.reduceSub, Nat.reduceLeDiff, Nat.reduceMul, Nat.reduceLT, Int.reduceLT, Int.reduceLE, Int.reduceNeg, Int.cast_ofNat_Int, Int.reduceToNat, Int.toNat_zero, ne_eq, not_false_eq_true, Int.reduceEq]
      rw [hbad (hsn hf)]
    | some k =>
      have hk := fidx_lt hf
      rw [hf, show fI (some k) = (k : Int) from rfl] at ho
      have d : decide ((k : Int) < 0) = false := decide_eq_false (by omega)
      have ck : (0 : Int) ≤ k := by omega
      have hr2 : (List.map encO a)[k]? = some (encO a[k]) := by simp [hk]
      have hs := hss k hf a[k] (List.getElem?_eq_getElem hk)
      generalize a[k] = g at hr2 hs
      obtain ⟨⟨s1', s2'⟩, kd', ⟨t1', t2'⟩, ⟨f1', f2'⟩, ⟨p1', p2'⟩, vl', en', tx'⟩ := g
      by_cases hxy : (⟨⟨s1', s2'⟩, kd', ⟨t1', t2'⟩, ⟨f1', f2'⟩, ⟨p1', p2'⟩, vl', en', tx'⟩ : Op) = ⟨⟨s1, s2⟩, kd, ⟨t1, t2⟩, ⟨f1, f2⟩, ⟨p1, p2⟩, vl, en, tx⟩
      · have dt := decide_eq_true hxy
        rw [dt] at hs
        simp only [go_sem, Nat.reduceEqDiff, ↓reduceIte, reduceCtorEq, Nat.reduceAdd, Nat.reduceSub, Nat.reduceLeDiff, Nat.reduceMul, Nat.reduceLT, Int.reduceLT, Int.reduceLE, Int.reduceNeg, Int.cast_ofNat_Int, Int.reduceToNat, Int.toNat_zero, ne_eq, not_false_eq_true, Int.reduceEq, c1, c2, hr, hr2, hw, encO, ho, d, ck, eqO_t, eqO_n, dt, Bool.not_true]
        exact IH (i + 1) _ ⟨by omega, hlt' hs⟩ (by omega) (by rw [renorm_eq]; simp only [List.map_cons, List.map_nil, go_sem, Nat.reduceEqDiff, ↓reduceIte, reduceCtorEq, Nat.reduceAdd, Nat.reduceSub, Nat.reduceLeDiff, Nat.reduceMul, Nat.reduceLT, Int.reduceLT, Int.reduceLE, Int.reduceNeg]; rfl) rfl
      · have dt := decide_eq_false hxy
        rw [dt] at hs
        simp only [go_sem, Nat.reduceEqDiff, ↓reduceIte, reduceCtorEq, Nat.reduceAdd, Nat.reduceSub, Nat.reduceLeDiff, Nat.reduceMul, Nat.reduceLT, Int.reduceLT, Int.reduceLE, Int.reduceNeg, Int.cast_ofNat_Int, Int.reduceToNat, Int.toNat_zero, ne_eq, not_false_eq_true, Int.reduceEq, c1, c2, hr, hr2, hw, encO, ho, d, ck, eqO_t, eqO_n, dt, Bool.not_false]
        refine OUT _ _ (by simp) ?_
        simp only [go_sem, Nat.reduceEqDiff, ↓reduceIte, reduceCtorEq, Nat.reduceAdd, Nat.reduceSub, Nat.reduceLeDiff, Nat.reduceMul, Nat.reduceLT, Int.reduceLT, Int.reduceLE, Int.reduceNeg, Int.cast_ofNat_Int, Int.reduceToNat, Int.toNat_zero, ne_eq, not_false_eq_true, Int.reduceEq]
        rw [hbad hs]
  · have c1 : decide ((i : Int) < b.length) = false := decide_eq_false (by omega)
    have hall : b.all (inL a) = true := by
      rw [List.all_eq_true]
      intro x hx
      obtain ⟨j, hj, rfl⟩ := List.getElem_of_mem hx
      exact hlt j hj (by omega)
    simp only [go_sem, Nat.reduceEqDiff, ↓reduceIte, reduceCtorEq, Nat.reduceAdd, Nat.reduceSub, Nat.reduceLeDiff, Nat.reduceMul, Nat.reduceLT, Int.reduceLT, Int.reduceLE, Int.reduceNeg, c1]
    refine OUT _ _ (by simp) ?_
    simp only [go_sem, Nat.reduceEqDiff, ↓reduceIte, reduceCtorEq, Nat.reduceAdd, Nat.reduceSub, Nat.reduceLeDiff, Nat.reduceMul, Nat.reduceLT, Int.reduceLT, Int.reduceLE, Int.reduceNeg]
    rw [hall]
theorem filter_next {α : Type} (l : List α) (p : α → Bool) (i : Nat) (h : i < l.length) : (l.take (i + 1)).filter p = (l.take i).filter p ++ (if p l[i] = true then [l[i]] else []) := by
  rw [take_next l i h, List.filter_append]
  by_cases hp : p l[i] = true <;> simp [List.filter_cons, hp]
theorem bare_encO (e : Nat) (l : List Op) : bareO (some (.rw e (l.map encO))) = true := by
  simp only [bareO, List.all_eq_true]
  intro r hr
  obtain ⟨g, _, rfl⟩ := List.mem_map.1 hr
  simp [encO, bare]
end Go.Vi.Code
