/- Contracts: the laws Owner, EffectiveGrants, RightAt. -/
import Derived.Test.YtojgihheepdgdaaViG13
import Derived.Test.YtojgihheepdgdaaViG7
set_option linter.unusedSimpArgs false
set_option linter.unusedVariables false
namespace Go.Vi.Code
abbrev kC : Bool × List Ty := (false, [.sl [.int .u8]])
theorem arg_code {d : D} (h : ArgTy kC d) : ∃ xs : List Int, d = .sl (xs.map enc8) ∧ (∀ x ∈ xs, 0 ≤ x ∧ x ≤ 255) ∧ xs.length ≤ 9223372036854775807 := by
  obtain ⟨rows, rfl, hl, hr, h⟩ := arg_rows h
  have e1 : IntKind.u8.min = 0 := by decide
  have e2 : IntKind.u8.max = 255 := by decide
  have one : ∀ r ∈ rows, ∃ g : {x : Int // 0 ≤ x ∧ x ≤ 255}, r = enc8 g.1 := by
    intro r hm
    have h1 := hr r hm
    have h2 := h r hm
    obtain ⟨a, rfl⟩ : ∃ a, r = [a] := by
      match r, h1 with
      | [a], _ => exact ⟨a, rfl⟩
    have ha := h2 0 _ _ rfl rfl
    cases ha with
    | int _ n hn =>
      simp only [Lit.wf, e1, e2, Bool.and_eq_true, decide_eq_true_eq] at hn
      exact ⟨⟨n, hn⟩, rfl⟩
  obtain ⟨l, rfl⟩ := map_of (enc := fun g : {x : Int // 0 ≤ x ∧ x ≤ 255} => enc8 g.1) one
  refine ⟨l.map (·.1), by rw [List.map_map]; rfl, fun x hx => ?_, by simpa using Nat.le_trans hl (by decide)⟩
  obtain ⟨g, _, rfl⟩ := List.mem_map.1 hx
  exact g.2
/-- Three rights, each from 0 to 3, the first author's 3. -/
def RB (r : R3) : Prop := r.a = 3 ∧ 0 ≤ r.b ∧ r.b ≤ 3 ∧ 0 ≤ r.c ∧ r.c ≤ 3
theorem takeR_RB {r : R3} {g : Grant} (h : RB r) (hg : grantOk g = true) : RB (takeR r g) := by
  obtain ⟨_, _, h2, h3, h4⟩ := grantOk_spec hg
  obtain ⟨x, y, z⟩ := r
  obtain ⟨⟨s, au⟩, w, rt, en⟩ := g
  simp only [RB] at h
  simp only at h2 h3 h4
  unfold takeR
  split
  · rename_i hok
    simp only [takeOk, decide_eq_true_eq] at hok
    rcases h2 with rfl | rfl | rfl
    · exact absurd rfl hok.2
    · cases en <;> simp only [RB, R3.put, R3.get] <;> simp <;> omega
    · cases en <;> simp only [RB, R3.put, R3.get] <;> simp <;> omega
  · exact h
theorem fold_RB : ∀ (l : List Grant) (r : R3), RB r → (∀ g ∈ l, grantOk g = true) → RB (l.foldl takeR r)
  | [], r, h, _ => h
  | g :: l, r, h, hl => fold_RB l _ (takeR_RB h (hl g (by simp))) fun x hx => hl x (by simp [hx])
theorem rights_RB {l : List Grant} (h : ∀ g ∈ l, grantOk g = true) (t : Stamp) : RB (rightsAt l t) :=
  fold_RB _ _ ⟨rfl, by decide, by decide, by decide, by decide⟩ fun g hg => h g (List.mem_filter.1 hg).1
theorem RB_get {r : R3} (h : RB r) (i : Int) : 0 ≤ r.get i ∧ r.get i ≤ 3 := by
  obtain ⟨h1, h2, h3, h4, h5⟩ := h
  unfold R3.get
  split
  · omega
  · split <;> omega

theorem fnOwner_law {dd : List D} (h : ArgsTy [kC] dd) : CL 7 dd [] = some (.bool true, []) := by
  obtain ⟨_, rfl, hA⟩ := args1 h
  obtain ⟨xs, rfl, hb, _⟩ := arg_code hA
  refine callL_W _ _ _ (F := v7) rfl ?_
  by_cases hx : xs.length ≤ 1048576
  case neg =>
    have d1 : decide ((xs.length : Int) > 1048576) = true := decide_eq_true (by omega)
    simp only [v7, go_sem, Nat.reduceEqDiff, ↓reduceIte, reduceCtorEq, Nat.reduceAdd, Nat.reduceSub, Nat.reduceLeDiff, Nat.reduceMul, Nat.reduceLT, Int.reduceLT, Int.reduceLE, Int.reduceNeg, Int.cast_ofNat_Int, Int.reduceToNat, Int.toNat_zero, ne_eq, not_false_eq_true, Int.reduceEq, d1, List.length_map]
  have d1 : decide ((xs.length : Int) > 1048576) = false := decide_eq_false (by omega)
  obtain ⟨g, who, a, b, hg, hd⟩ := drawRight_e xs hb hx
  have hc := rightAt_c g (by omega) who a b
  have hs := rightAt_s g (by omega) who a b
  have h0 := rightAt_c g (by omega) 0 a b
  have hn := rightAt_c [] (by simp) who a b
  simp only [List.map_nil] at hn
  have hvc := validGrants_c g (by omega)
  by_cases hv : validGrants g = true
  case neg =>
    have hv' : validGrants g = false := by simpa using hv
    simp only [v7, go_sem, Nat.reduceEqDiff, ↓reduceIte, reduceCtorEq, Nat.reduceAdd, Nat.reduceSub, Nat.reduceLeDiff, Nat.reduceMul, Nat.reduceLT, Int.reduceLT, Int.reduceLE, Int.reduceNeg, Int.cast_ofNat_Int, Int.reduceToNat, Int.toNat_zero, ne_eq, not_false_eq_true, Int.reduceEq, d1, hd, hc, hs, hvc, hv', List.length_map, bne_self_eq_false, beq_self_eq_true, Bool.not_false]
  by_cases hw : who < 0
  · have d2 : decide (who < 0) = true := decide_eq_true hw
    simp only [v7, go_sem, Nat.reduceEqDiff, ↓reduceIte, reduceCtorEq, Nat.reduceAdd, Nat.reduceSub, Nat.reduceLeDiff, Nat.reduceMul, Nat.reduceLT, Int.reduceLT, Int.reduceLE, Int.reduceNeg, Int.cast_ofNat_Int, Int.reduceToNat, Int.toNat_zero, ne_eq, not_false_eq_true, Int.reduceEq, d1, hd, hc, hs, hvc, hv, d2, List.length_map, bne_self_eq_false, beq_self_eq_true, Bool.not_true]
  have d2 : decide (who < 0) = false := decide_eq_false hw
  by_cases hw3 : who ≥ 3
  · have d3 : decide (who ≥ 3) = true := decide_eq_true hw3
    simp only [v7, go_sem, Nat.reduceEqDiff, ↓reduceIte, reduceCtorEq, Nat.reduceAdd, Nat.reduceSub, Nat.reduceLeDiff, Nat.reduceMul, Nat.reduceLT, Int.reduceLT, Int.reduceLE, Int.reduceNeg, Int.cast_ofNat_Int, Int.reduceToNat, Int.toNat_zero, ne_eq, not_false_eq_true, Int.reduceEq, d1, hd, hc, hs, hvc, hv, d2, d3, List.length_map, bne_self_eq_false, beq_self_eq_true, Bool.not_true]
  have d3 : decide (who ≥ 3) = false := decide_eq_false hw3
  have ha : isAuthor who = true := by simp only [isAuthor, decide_eq_true_eq]; omega
  have ha0 : isAuthor 0 = true := by decide
  obtain ⟨hok, _, _⟩ := valid_spec hv
  have hRB := rights_RB hok ⟨a, b⟩
  have e1 : rightAt g who ⟨a, b⟩ = (rightsAt g ⟨a, b⟩).get who := by simp only [rightAt, hv, ha, and_self, if_true]
  have e2 : rightAt g 0 ⟨a, b⟩ = 3 := by simp only [rightAt, hv, ha0, and_self, if_true]; exact hRB.1
  have e3 : rightAt [] who ⟨a, b⟩ = first.get who := by
    have : validGrants [] = true := by decide
    simp only [rightAt, this, ha, and_self, if_true]; rfl
  obtain ⟨g0, g3⟩ := RB_get hRB who
  rw [← e1] at g0 g3
  have d4 : decide (rightAt g who ⟨a, b⟩ ≥ 0) = true := decide_eq_true g0
  have d5 : decide (rightAt g who ⟨a, b⟩ ≤ 3) = true := decide_eq_true g3
  have d6 : ((first.get who == 0) == decide (who > 0)) = true := by
    rcases author_cases ha with rfl | rfl | rfl <;> decide
  rw [e2] at h0
  rw [e3] at hn
  simp only [v7, go_sem, Nat.reduceEqDiff, ↓reduceIte, reduceCtorEq, Nat.reduceAdd, Nat.reduceSub, Nat.reduceLeDiff, Nat.reduceMul, Nat.reduceLT, Int.reduceLT, Int.reduceLE, Int.reduceNeg, Int.cast_ofNat_Int, Int.reduceToNat, Int.toNat_zero, ne_eq, not_false_eq_true, Int.reduceEq, d1, hd, hc, hs, hvc, hv, d2, d3, h0, hn, d4, d5, d6, List.length_map, bne_self_eq_false, beq_self_eq_true, Bool.not_true]

theorem equalBools_c (a b : List Bool) (hl : a.length ≤ 1048576) (hb : b.length ≤ 1048576) : CL 32 [.sl (a.map encB), .sl (b.map encB)] [] = some (.bool (decide (a = b)), []) := by
  refine callL_W _ _ _ (F := v32) rfl ?_
  simp only [v32, go_sem, Nat.reduceEqDiff, ↓reduceIte, reduceCtorEq, Nat.reduceAdd, Nat.reduceSub, Nat.reduceLeDiff, Nat.reduceMul, Nat.reduceLT, Int.reduceLT, Int.reduceLE, Int.reduceNeg]
  split
  · rename_i h
    have : a ≠ b := by rintro rfl; simp at h
    rw [decide_eq_false this]
  · rename_i h
    have hab : a.length = b.length := by
      have : (a.length : Int) = b.length := by simpa using h
      omega
    refine W_rounds (T := Nat) (fun i => ⟨ofL [(0, .sl (a.map encB)), (1, .sl (b.map encB)), (5, .int .i64 i)], [], 0⟩) (fun i => i ≤ a.length ∧ ∀ j : Nat, j < i → a[j]? = b[j]?) (fun i => a.length - i) 0 rfl rfl ⟨Nat.zero_le _, fun j h => by omega⟩ ?_
    rintro i ⟨hi, he⟩ Q1 IH OUT
    by_cases h : i < a.length
    · have hb' : i < b.length := by omega
      have c3 : decide ((i : Int) < a.length) = true := decide_eq_true (by omega)
      have c4 : (0 : Int) ≤ i := by omega
      have hr : (List.map encB a)[i]? = some (encB a[i]) := by simp [h]
      have hr2 : (List.map encB b)[i]? = some (encB b[i]) := by simp [hb']
      have hw : IntKind.i64.wrap ((i : Int) + 1) = ((i + 1 : Nat) : Int) := by rw [wrap_small _ (by omega) (by omega)]; rfl
      simp only [go_sem, Nat.reduceEqDiff, ↓reduceIte, reduceCtorEq, Nat.reduceAdd, Nat.reduceSub, Nat.reduceLeDiff, Nat.reduceMul, Nat.reduceLT, Int.reduceLT, Int.reduceLE, Int.reduceNeg, c3, c4, hr, hr2, hw, encB]
      split
      · rename_i hne
        refine OUT _ _ (by simp) ?_
        have : a ≠ b := by rintro rfl; simp at hne
        simp only [go_sem, Nat.reduceEqDiff, ↓reduceIte, reduceCtorEq, Nat.reduceAdd, Nat.reduceSub, Nat.reduceLeDiff, Nat.reduceMul, Nat.reduceLT, Int.reduceLT, Int.reduceLE, Int.reduceNeg, decide_eq_false this]
      · rename_i hne
        have heq : a[i] = b[i] := by simpa using hne
        refine IH (i + 1) _ ⟨by omega, fun j hj => ?_⟩ (by omega) rfl rfl
        rcases Nat.lt_succ_iff_lt_or_eq.1 hj with h3 | rfl
        · exact he j h3
        · simp [h, hb', heq]
    · have c3 : decide ((i : Int) < a.length) = false := decide_eq_false (by omega)
      simp only [go_sem, Nat.reduceEqDiff, ↓reduceIte, reduceCtorEq, Nat.reduceAdd, Nat.reduceSub, Nat.reduceLeDiff, Nat.reduceMul, Nat.reduceLT, Int.reduceLT, Int.reduceLE, Int.reduceNeg, c3]
      refine OUT _ _ (by simp) ?_
      have : a = b := List.ext_getElem? fun j => by
        by_cases hj : j < i
        · exact he j hj
        · rw [List.getElem?_eq_none (by omega), List.getElem?_eq_none (by omega)]
      simp only [go_sem, Nat.reduceEqDiff, ↓reduceIte, reduceCtorEq, Nat.reduceAdd, Nat.reduceSub, Nat.reduceLeDiff, Nat.reduceMul, Nat.reduceLT, Int.reduceLT, Int.reduceLE, Int.reduceNeg, decide_eq_true this]
theorem sorted_at {l : List Grant} (h : SortedG l) {i j : Nat} (hj : j < l.length) (hij : i < j) : stampLess (l[i]'(by omega)).id l[j].id = true := List.pairwise_iff_getElem.1 h i j (by omega) hj hij
theorem rightsAt_own {l : List Grant} (h : SortedG l) (i : Nat) (hi : i < l.length) : rightsAt l l[i].id = (l.take i).foldl takeR first := by
  unfold rightsAt
  rw [← before_filter h]
  have : before l l[i].id = l.take i := takeWhile_of _ l i (by omega) (fun j hj hji => sorted_at h hi hji) (fun _ => by simp [stampLess])
  rw [this]
theorem rightsAt_next {l : List Grant} (h : SortedG l) (i : Nat) (hi : i < l.length) : rightsAt l ⟨l[i].id.seq, l[i].id.author + 1⟩ = (l.take (i + 1)).foldl takeR first := by
  unfold rightsAt
  rw [← before_filter h]
  have : before l ⟨l[i].id.seq, l[i].id.author + 1⟩ = l.take (i + 1) := takeWhile_of _ l (i + 1) (by omega) (fun j hj hji => by
      rcases Nat.lt_succ_iff_lt_or_eq.1 hji with h3 | rfl
      · have := sorted_at h hi h3
        simp only [stampLess, decide_eq_true_eq] at this ⊢
        omega
      · have : (l[j].id.author : Int) < l[j].id.author + 1 := Int.lt_succ _
        simp only [stampLess, decide_eq_true_eq]
        exact .inr ⟨trivial, this⟩) (fun h2 => by
      have := sorted_at h h2 (Nat.lt_succ_self i)
      simp only [stampLess, decide_eq_true_eq, decide_eq_false_iff_not] at this ⊢
      omega)
  rw [this]
theorem effs_at : ∀ (r : R3) (l : List Grant) (i : Nat) (h : i < l.length), (effs r l)[i]? = some (takeOk ((l.take i).foldl takeR r) l[i])
  | r, g :: l, 0, _ => rfl
  | r, g :: l, i + 1, h => by
    have := effs_at (takeR r g) l i (by simpa using h)
    simpa [effs] using this

theorem effGrants_len (l : List Grant) : (effGrants l).length ≤ l.length := by
  unfold effGrants
  split
  · rw [effs_len]; exact Nat.le_refl _
  · simp
theorem fnEffectiveGrants_law {dd : List D} (h : ArgsTy [kC] dd) : CL 9 dd [] = some (.bool true, []) := by
  obtain ⟨_, rfl, hA⟩ := args1 h
  obtain ⟨xs, rfl, hb, _⟩ := arg_code hA
  refine callL_W _ _ _ (F := v9) rfl ?_
  by_cases hx : xs.length ≤ 1048576
  case neg =>
    have d1 : decide ((xs.length : Int) > 1048576) = true := decide_eq_true (by omega)
    simp only [v9, go_sem, Nat.reduceEqDiff, ↓reduceIte, reduceCtorEq, Nat.reduceAdd, Nat.reduceSub, Nat.reduceLeDiff, Nat.reduceMul, Nat.reduceLT, Int.reduceLT, Int.reduceLE, Int.reduceNeg, Int.cast_ofNat_Int, Int.reduceToNat, Int.toNat_zero, ne_eq, not_false_eq_true, Int.reduceEq, d1, List.length_map]
  have d1 : decide ((xs.length : Int) > 1048576) = false := decide_eq_false (by omega)
  obtain ⟨l, hg, hd⟩ := drawEff_e xs hb hx
  have es := effGrants_s l (by omega)
  have ec := effGrants_c l (by omega)
  have hr : (effGrants l).length ≤ 1048576 := by have := effGrants_len l; omega
  have eqr := equalBools_c (effGrants l) (effGrants l) hr hr
  simp only [decide_true] at eqr
  have hvc := validGrants_c l (by omega)
  by_cases hv : validGrants l = true
  case neg =>
    rw [if_neg hv] at ec
    have hv' : validGrants l = false := by simpa using hv
    have hmg : effGrants l = [] := by simp only [effGrants, hv, if_false]; rfl
    rw [hmg] at es eqr
    simp only [List.map_nil] at es eqr
    simp only [v9, go_sem, Nat.reduceEqDiff, ↓reduceIte, reduceCtorEq, Nat.reduceAdd, Nat.reduceSub, Nat.reduceLeDiff, Nat.reduceMul, Nat.reduceLT, Int.reduceLT, Int.reduceLE, Int.reduceNeg, Int.cast_ofNat_Int, Int.reduceToNat, Int.toNat_zero, ne_eq, not_false_eq_true, Int.reduceEq, d1, hd, es, ec, eqr, hvc, hv', List.length_map, Bool.not_true, Bool.not_false]
  rw [if_pos hv] at ec
  obtain ⟨hok, hsort, _⟩ := valid_spec hv
  have hE : effGrants l = effs first l := by simp only [effGrants, hv, if_true]
  rw [hE] at es ec eqr
  simp only [v9, go_sem, Nat.reduceEqDiff, ↓reduceIte, reduceCtorEq, Nat.reduceAdd, Nat.reduceSub, Nat.reduceLeDiff, Nat.reduceMul, Nat.reduceLT, Int.reduceLT, Int.reduceLE, Int.reduceNeg, Int.cast_ofNat_Int, Int.reduceToNat, Int.toNat_zero, ne_eq, not_false_eq_true, Int.reduceEq, d1, hd, es, ec, eqr, hvc, hv, List.length_map, Bool.not_true]
  refine W_rounds (T := Nat) (fun i => ⟨ofL [(3, .sl (l.map encG)), (4, .sl ((effs first l).map encB)), (5, .int .i64 i)], [], 0⟩) (fun i => i ≤ l.length) (fun i => l.length - i) 0 rfl rfl (Nat.zero_le _) ?_
  rintro i hi Q1 IH OUT
  by_cases h : i < l.length
  · have c1 : decide ((i : Int) < l.length) = true := decide_eq_true (by omega)
    have c2 : (0 : Int) ≤ i := by omega
    have hw : IntKind.i64.wrap ((i : Int) + 1) = ((i + 1 : Nat) : Int) := by rw [wrap_small _ (by omega) (by omega)]; rfl
    have hrow : (List.map encG l)[i]? = some (encG l[i]) := by simp [h]
    have hrb : (List.map encB (effs first l))[i]? = some [.bool (takeOk ((l.take i).foldl takeR first) l[i])] := by rw [List.getElem?_map, effs_at first l i h]; rfl
    have hown := rightsAt_own hsort i h
    have hgr := hok _ (List.getElem_mem h)
    generalize hgi : l[i] = gg at hrow hrb hown hgr
    obtain ⟨⟨s, au⟩, w, rt, en⟩ := gg
    obtain ⟨_, h1, _⟩ := grantOk_spec hgr
    have ha : isAuthor au = true := by simp only [isAuthor, decide_eq_true_eq]; simp only at h1; omega
    have hrc := rightAt_c l (by omega) au s au
    have e1 : rightAt l au ⟨s, au⟩ = ((l.take i).foldl takeR first).get au := by simp only [rightAt, hv, ha, and_self, if_true]; rw [← hown]
    rw [e1] at hrc
    by_cases hA3 : ((l.take i).foldl takeR first).get au = 3
    · have t1 : (((l.take i).foldl takeR first).get au == 3) = true := by simp [hA3]
      have t2 : takeOk ((l.take i).foldl takeR first) ⟨⟨s, au⟩, w, rt, en⟩ = (w != 0) := by
        by_cases hw0 : w = 0 <;> simp [takeOk, hA3, hw0]
      rw [t2] at hrb
      simp only [go_sem, Nat.reduceEqDiff, ↓reduceIte, reduceCtorEq, Nat.reduceAdd, Nat.reduceSub, Nat.reduceLeDiff, Nat.reduceMul, Nat.reduceLT, Int.reduceLT, Int.reduceLE, Int.reduceNeg, Int.cast_ofNat_Int, Int.reduceToNat, Int.toNat_zero, ne_eq, not_false_eq_true, Int.reduceEq, c1, c2, hw, hrow, hrb, encG, hrc, t1, List.length_map, bne_self_eq_false]
      exact IH (i + 1) _ (by omega) (by omega) rfl rfl
    · have t1 : (((l.take i).foldl takeR first).get au == 3) = false := by simp [hA3]
      have t2 : takeOk ((l.take i).foldl takeR first) ⟨⟨s, au⟩, w, rt, en⟩ = false := by simp [takeOk, hA3]
      rw [t2] at hrb
      simp only [go_sem, Nat.reduceEqDiff, ↓reduceIte, reduceCtorEq, Nat.reduceAdd, Nat.reduceSub, Nat.reduceLeDiff, Nat.reduceMul, Nat.reduceLT, Int.reduceLT, Int.reduceLE, Int.reduceNeg, Int.cast_ofNat_Int, Int.reduceToNat, Int.toNat_zero, ne_eq, not_false_eq_true, Int.reduceEq, c1, c2, hw, hrow, hrb, encG, hrc, t1, List.length_map, bne_self_eq_false]
      exact IH (i + 1) _ (by omega) (by omega) rfl rfl
  · have c1 : decide ((i : Int) < l.length) = false := decide_eq_false (by omega)
    simp only [go_sem, Nat.reduceEqDiff, ↓reduceIte, reduceCtorEq, Nat.reduceAdd, Nat.reduceSub, Nat.reduceLeDiff, Nat.reduceMul, Nat.reduceLT, Int.reduceLT, Int.reduceLE, Int.reduceNeg, c1]
    refine OUT _ _ (by simp) ?_
    have e : ((effs first l).length : Int) = l.length := by rw [effs_len]
    simp only [go_sem, Nat.reduceEqDiff, ↓reduceIte, reduceCtorEq, Nat.reduceAdd, Nat.reduceSub, Nat.reduceLeDiff, Nat.reduceMul, Nat.reduceLT, Int.reduceLT, Int.reduceLE, Int.reduceNeg, Int.cast_ofNat_Int, Int.reduceToNat, Int.toNat_zero, ne_eq, not_false_eq_true, Int.reduceEq, List.length_map, e, beq_self_eq_true]
end Go.Vi.Code
