/- Contracts: the laws GrantMerge and GrantOrder. -/
import Derived.Test.YtojgihheepdgdaaViG14
set_option linter.unusedSimpArgs false
set_option linter.unusedVariables false
namespace Go.Vi.Code
theorem valid_of {l : List Grant} (hok : ∀ g ∈ l, grantOk g = true) (hs : SortedG l) (hl : l.length ≤ 20) : validGrants l = true := by
  simp only [validGrants, Bool.and_eq_true, List.all_eq_true, List.mem_range, decide_eq_true_eq]
  refine ⟨fun i hi => ?_, hl⟩
  simp only [grantAt, List.getElem?_eq_getElem hi, Bool.and_eq_true]
  refine ⟨hok _ (List.getElem_mem hi), ?_⟩
  cases i with
  | zero => rfl
  | succ k =>
    simp only [List.getElem?_eq_getElem (show k < l.length by omega)]
    exact sorted_at hs hi (Nat.lt_succ_self k)
theorem mergeI_mem : ∀ (a b : List Grant) (g : Grant), g ∈ mergeI a b → g ∈ a ∨ g ∈ b
  | [], b, g, h => .inr (by simpa [mergeI] using h)
  | x :: a, b, g, h => by
    induction b with
    | nil => rw [mergeI_nil] at h; exact .inl h
    | cons y b ihb =>
      by_cases h1 : stampLess x.id y.id = true
      · rw [mergeI_lt _ _ h1, List.mem_cons] at h
        rcases h with rfl | h
        · exact .inl (by simp)
        · rcases mergeI_mem a (y :: b) g h with h | h
          · exact .inl (by simp [h])
          · exact .inr h
      · by_cases h2 : stampLess y.id x.id = true
        · rw [mergeI_gt _ _ h2, List.mem_cons] at h
          rcases h with rfl | h
          · exact .inr (by simp)
          · rcases ihb h with h | h
            · exact .inl h
            · exact .inr (by simp [h])
        · rw [mergeI_eq _ _ h1 h2] at h
          rcases ihb h with h | h
          · exact .inl h
          · exact .inr (by simp [h])
theorem mergeI_sorted : ∀ (a b : List Grant), SortedG a → SortedG b → SortedG (mergeI a b)
  | [], b, _, h => by simpa [mergeI] using h
  | x :: a, b, ha, hb => by
    induction b with
    | nil => rw [mergeI_nil]; exact ha
    | cons y b ihb =>
      obtain ⟨xa, sa⟩ := List.pairwise_cons.1 ha
      obtain ⟨yb, sb⟩ := List.pairwise_cons.1 hb
      by_cases h1 : stampLess x.id y.id = true
      · rw [mergeI_lt _ _ h1]
        refine List.pairwise_cons.2 ⟨fun g hg => ?_, mergeI_sorted a (y :: b) sa hb⟩
        rcases mergeI_mem _ _ _ hg with hg | hg
        · exact xa g hg
        · rcases List.mem_cons.1 hg with rfl | hg
          · exact h1
          · exact less_trans h1 (yb g hg)
      · by_cases h2 : stampLess y.id x.id = true
        · rw [mergeI_gt _ _ h2]
          refine List.pairwise_cons.2 ⟨fun g hg => ?_, ihb sb⟩
          rcases mergeI_mem _ _ _ hg with hg | hg
          · rcases List.mem_cons.1 hg with rfl | hg
            · exact h2
            · exact less_trans h2 (xa g hg)
          · exact yb g hg
        · rw [mergeI_eq _ _ h1 h2]
          exact ihb sb
theorem mergeI_has : ∀ (a b : List Grant), ∀ g : Grant, g ∈ a ∨ g ∈ b → ∃ x ∈ mergeI a b, x.id = g.id
  | [], b => fun g h => ⟨g, by simpa [mergeI] using h, rfl⟩
  | x :: a, b => by
    induction b with
    | nil => intro g h; rw [mergeI_nil]; exact ⟨g, by simpa using h, rfl⟩
    | cons y b ihb =>
      intro g h
      by_cases h1 : stampLess x.id y.id = true
      · rw [mergeI_lt _ _ h1]
        rcases h with h | h
        · rcases List.mem_cons.1 h with rfl | h
          · exact ⟨g, by simp, rfl⟩
          · obtain ⟨z, hz, e⟩ := mergeI_has a (y :: b) g (.inl h)
            exact ⟨z, by simp [hz], e⟩
        · obtain ⟨z, hz, e⟩ := mergeI_has a (y :: b) g (.inr h)
          exact ⟨z, by simp [hz], e⟩
      · by_cases h2 : stampLess y.id x.id = true
        · rw [mergeI_gt _ _ h2]
          rcases h with h | h
          · obtain ⟨z, hz, e⟩ := ihb g (.inl h)
            exact ⟨z, by simp [hz], e⟩
          · rcases List.mem_cons.1 h with rfl | h
            · exact ⟨g, by simp, rfl⟩
            · obtain ⟨z, hz, e⟩ := ihb g (.inr h)
              exact ⟨z, by simp [hz], e⟩
        · rw [mergeI_eq _ _ h1 h2]
          rcases h with h | h
          · exact ihb g (.inl h)
          · rcases List.mem_cons.1 h with e | h
            · obtain ⟨z, hz, e2⟩ := ihb x (.inl (by simp))
              exact ⟨z, hz, e2.trans (by rw [e]; exact less_tri h1 h2)⟩
            · exact ihb g (.inr h)
theorem mergeI_len : ∀ (a b : List Grant), (mergeI a b).length ≤ a.length + b.length
  | [], b => by simp [mergeI]
  | x :: a, b => by
    induction b with
    | nil => rw [mergeI_nil]; simp
    | cons y b ihb =>
      by_cases h1 : stampLess x.id y.id = true
      · rw [mergeI_lt _ _ h1]
        have := mergeI_len a (y :: b)
        simp only [List.length_cons] at this ⊢; omega
      · by_cases h2 : stampLess y.id x.id = true
        · rw [mergeI_gt _ _ h2]
          simp only [List.length_cons] at ihb ⊢; omega
        · rw [mergeI_eq _ _ h1 h2]
          simp only [List.length_cons] at ihb ⊢; omega
theorem mergeI_headL (x : Grant) (b a : List Grant) (h : ∀ w ∈ a, stampLess x.id w.id = true) : mergeI (x :: b) a = x :: mergeI b a := by
  cases a with
  | nil => rw [mergeI_nil, mergeI_nil]
  | cons w a => exact mergeI_lt _ _ (h w (by simp))
theorem mergeI_headR (x : Grant) (b a : List Grant) (h : ∀ w ∈ b, stampLess x.id w.id = true) : mergeI b (x :: a) = x :: mergeI b a := by
  cases b with
  | nil => simp [mergeI]
  | cons w b => exact mergeI_gt _ _ (h w (by simp))
theorem mergeI_self (a : List Grant) (h : SortedG a) : mergeI a a = a := by
  induction a with
  | nil => simp [mergeI]
  | cons x a ih =>
    obtain ⟨xa, sa⟩ := List.pairwise_cons.1 h
    rw [mergeI_eq _ _ (by rw [less_irrefl]; simp) (by rw [less_irrefl]; simp), mergeI_headL x a a xa, ih sa]
theorem mergeI_comm : ∀ (a b : List Grant), SortedG a → SortedG b → (∀ x ∈ a, ∀ y ∈ b, x.id = y.id → x = y) → mergeI a b = mergeI b a
  | [], b, _, _, _ => by rw [mergeI_nil]; simp [mergeI]
  | x :: a, b, ha, hb, hc => by
    induction b with
    | nil => rw [mergeI_nil]; simp [mergeI]
    | cons y b ihb =>
      obtain ⟨xa, sa⟩ := List.pairwise_cons.1 ha
      obtain ⟨yb, sb⟩ := List.pairwise_cons.1 hb
      by_cases h1 : stampLess x.id y.id = true
      · rw [mergeI_lt _ _ h1, mergeI_gt _ _ h1, mergeI_comm a (y :: b) sa hb fun u hu v hv => hc u (by simp [hu]) v hv]
      · by_cases h2 : stampLess y.id x.id = true
        · rw [mergeI_gt _ _ h2, mergeI_lt _ _ h2, ihb sb fun u hu v hv => hc u hu v (by simp [hv])]
        · have he := less_tri h1 h2
          have hxy := hc x (by simp) y (by simp) he
          subst hxy
          rw [mergeI_eq _ _ h1 h2, mergeI_eq _ _ h2 h1, mergeI_headL x a b yb, mergeI_headL x b a xa, mergeI_comm a b sa sb fun u hu v hv => hc u (by simp [hu]) v (by simp [hv])]

theorem any_next {α : Type} (l : List α) (p : α → Bool) (i : Nat) (h : i < l.length) : (l.take (i + 1)).any p = ((l.take i).any p || p l[i]) := by
  rw [take_next l i h, List.any_append]; simp
set_option maxRecDepth 20000 in
set_option maxHeartbeats 1000000 in
theorem fnGrantMerge_law {dd : List D} (h : ArgsTy [kC] dd) : CL 5 dd [] = some (.bool true, []) := by
  obtain ⟨_, rfl, hA⟩ := args1 h
  obtain ⟨xs, rfl, hb, _⟩ := arg_code hA
  refine callL_W _ _ _ (F := v5) rfl ?_
  by_cases hx : xs.length ≤ 1048576
  case neg =>
    have d1 : decide ((xs.length : Int) > 1048576) = true := decide_eq_true (by omega)
    simp only [v5, go_sem, Nat.reduceEqDiff, ↓reduceIte, reduceCtorEq, Nat.reduceAdd, Nat.reduceSub, Nat.reduceLeDiff, Nat.reduceMul, Nat.reduceLT, Int.reduceLT, Int.reduceLE, Int.reduceNeg, Int.cast_ofNat_Int, Int.reduceToNat, Int.toNat_zero, ne_eq, not_false_eq_true, Int.reduceEq, d1, List.length_map]
  have d1 : decide ((xs.length : Int) > 1048576) = false := decide_eq_false (by omega)
  obtain ⟨a, b, la, lb, hd⟩ := drawMerge_e xs hb hx
  have ms := merge_s a b (by omega) (by omega)
  have mc := merge_c a b (by omega) (by omega)
  by_cases hv : validGrants a = true ∧ validGrants b = true
  case neg =>
    rw [if_neg hv] at mc
    have hmg : mergeG a b = ([], false) := by simp only [mergeG, hv, if_false]
    rw [hmg] at ms
    have eq := equalGrants_c [] [] (by simp) (by simp)
    simp only [List.map_nil, decide_true] at ms eq
    simp only [v5, go_sem, Nat.reduceEqDiff, ↓reduceIte, reduceCtorEq, Nat.reduceAdd, Nat.reduceSub, Nat.reduceLeDiff, Nat.reduceMul, Nat.reduceLT, Int.reduceLT, Int.reduceLE, Int.reduceNeg, Int.cast_ofNat_Int, Int.reduceToNat, Int.toNat_zero, ne_eq, not_false_eq_true, Int.reduceEq, d1, hd, ms, mc, eq, List.length_map, Bool.not_true, Bool.not_false, bne_self_eq_false, beq_self_eq_true]
  rw [if_pos hv] at mc
  obtain ⟨oa, sa, _⟩ := valid_spec hv.1
  obtain ⟨ob, sb, _⟩ := valid_spec hv.2
  by_cases hl : (mergeI a b).length ≤ 20
  case neg =>
    have hmg : mergeG a b = (a, false) := by simp only [mergeG, hv, and_self, if_true, hl, if_false]
    rw [hmg] at ms mc
    have eq := equalGrants_c a a (by omega) (by omega)
    simp only [decide_true] at eq
    simp only [v5, go_sem, Nat.reduceEqDiff, ↓reduceIte, reduceCtorEq, Nat.reduceAdd, Nat.reduceSub, Nat.reduceLeDiff, Nat.reduceMul, Nat.reduceLT, Int.reduceLT, Int.reduceLE, Int.reduceNeg, Int.cast_ofNat_Int, Int.reduceToNat, Int.toNat_zero, ne_eq, not_false_eq_true, Int.reduceEq, d1, hd, ms, mc, eq, List.length_map, Bool.not_true, Bool.not_false, bne_self_eq_false, beq_self_eq_true]
  have hmg : mergeG a b = (mergeI a b, true) := by simp only [mergeG, hv, and_self, if_true, hl]
  have hms : mergeG a a = (a, true) := by simp only [mergeG, hv, and_self, if_true, mergeI_self a sa]; rw [if_pos (by omega)]
  have mself := merge_c a a (by omega) (by omega)
  rw [if_pos ⟨hv.1, hv.1⟩, hms] at mself
  rw [hmg] at ms mc
  have eqa := equalGrants_c a a (by omega) (by omega)
  have eqm := equalGrants_c (mergeI a b) (mergeI a b) (by omega) (by omega)
  simp only [decide_true] at eqa eqm
  have hvm := validGrants_c (mergeI a b) (by omega)
  have vm : validGrants (mergeI a b) = true := valid_of (fun g hg => by
    rcases mergeI_mem _ _ _ hg with h | h
    · exact oa g h
    · exact ob g h) (mergeI_sorted a b sa sb) hl
  rw [vm] at hvm
  have lm := mergeI_len a b
  have has := fun g hg => mergeI_has a b g hg
  generalize mergeI a b = m at *
  have wab : IntKind.i64.wrap ((a.length : Int) + b.length) = ((a.length + b.length : Nat) : Int) := by rw [wrap_small _ (by omega) (by omega)]; rfl
  simp only [v5, go_sem, Nat.reduceEqDiff, ↓reduceIte, reduceCtorEq, Nat.reduceAdd, Nat.reduceSub, Nat.reduceLeDiff, Nat.reduceMul, Nat.reduceLT, Int.reduceLT, Int.reduceLE, Int.reduceNeg, Int.cast_ofNat_Int, Int.reduceToNat, Int.toNat_zero, ne_eq, not_false_eq_true, Int.reduceEq, d1, hd, ms, mc, mself, eqa, eqm, List.length_map, Bool.not_true, Bool.not_false, bne_self_eq_false, beq_self_eq_true]
  refine W_rounds (T := Nat) (fun i => ⟨ofL [(3, .sl (a.map encG)), (4, .sl (b.map encG)), (5, .sl (m.map encG)), (9, .sl (a.map encG)), (10, .bool true), (11, .int .i64 i)], [], 0⟩) (fun i => i ≤ a.length + b.length) (fun i => a.length + b.length - i) 0 (by rw [renorm_eq]; simp only [List.map_cons, List.map_nil, go_sem, Nat.reduceEqDiff, ↓reduceIte, reduceCtorEq, Nat.reduceAdd, Nat.reduceSub, Nat.reduceLeDiff, Nat.reduceMul, Nat.reduceLT, Int.reduceLT, Int.reduceLE, Int.reduceNeg]; rfl) rfl (Nat.zero_le _) ?_
  rintro i hi Q1 IH OUT
  by_cases h : i < a.length + b.length
  case neg =>
    have c1 : decide ((i : Int) < ((a.length + b.length : Nat) : Int)) = false := decide_eq_false (by omega)
    have c2 : decide ((m.length : Int) ≤ ((a.length + b.length : Nat) : Int)) = true := decide_eq_true (by omega)
    simp only [go_sem, Nat.reduceEqDiff, ↓reduceIte, reduceCtorEq, Nat.reduceAdd, Nat.reduceSub, Nat.reduceLeDiff, Nat.reduceMul, Nat.reduceLT, Int.reduceLT, Int.reduceLE, Int.reduceNeg, c1, wab, List.length_map]
    refine OUT _ _ (by simp) ?_
    simp only [go_sem, Nat.reduceEqDiff, ↓reduceIte, reduceCtorEq, Nat.reduceAdd, Nat.reduceSub, Nat.reduceLeDiff, Nat.reduceMul, Nat.reduceLT, Int.reduceLT, Int.reduceLE, Int.reduceNeg, Int.cast_ofNat_Int, Int.reduceToNat, Int.toNat_zero, ne_eq, not_false_eq_true, Int.reduceEq, eqa, hvm, c2, wab, List.length_map]
  have c1 : decide ((i : Int) < ((a.length + b.length : Nat) : Int)) = true := decide_eq_true (by omega)
  have hw : IntKind.i64.wrap ((i : Int) + 1) = ((i + 1 : Nat) : Int) := by rw [wrap_small _ (by omega) (by omega)]; rfl
  have ci : (0 : Int) ≤ i := by omega
  obtain ⟨g, hgm, hcase⟩ : ∃ g, (g ∈ a ∨ g ∈ b) ∧ ((i < a.length ∧ (List.map encG a)[i]? = some (encG g)) ∨ (¬ i < a.length ∧ (List.map encG b)[i - a.length]? = some (encG g))) := by
    by_cases h' : i < a.length
    · exact ⟨a[i], .inl (List.getElem_mem h'), .inl ⟨h', by simp [h']⟩⟩
    · have h2 : i - a.length < b.length := by omega
      exact ⟨b[i - a.length], .inr (List.getElem_mem h2), .inr ⟨h', by simp [h2]⟩⟩
  obtain ⟨z, hz, hzi⟩ := has g hgm
  obtain ⟨⟨s, au⟩, w, rt, en⟩ := g
  have hany : m.any (fun x => decide (x.id = ⟨s, au⟩)) = true := List.any_eq_true.2 ⟨z, hz, by simpa using hzi⟩
  rcases hcase with ⟨h', hrow⟩ | ⟨h', hrow⟩
  · have c2 : decide ((i : Int) < a.length) = true := decide_eq_true (by omega)
    simp only [go_sem, Nat.reduceEqDiff, ↓reduceIte, reduceCtorEq, Nat.reduceAdd, Nat.reduceSub, Nat.reduceLeDiff, Nat.reduceMul, Nat.reduceLT, Int.reduceLT, Int.reduceLE, Int.reduceNeg, Int.cast_ofNat_Int, Int.reduceToNat, Int.toNat_zero, ne_eq, not_false_eq_true, Int.reduceEq, c1, c2, ci, wab, hrow, encG, List.length_map]
    refine W_rounds (T := Nat × Bool) (fun t => ⟨ofL [(3, .sl (a.map encG)), (4, .sl (b.map encG)), (5, .sl (m.map encG)), (9, .sl (a.map encG)), (10, .bool true), (11, .int .i64 i), (12, .ptr 0 0), (13, .bool t.2), (14, .int .i64 t.1)], [some (.bx [.int .i64 s, .int .i64 au, .int .i64 w, .int .i64 rt, .bool en])], 0⟩)
      (fun t => t.1 ≤ m.length ∧ t.2 = (m.take t.1).any fun x => decide (x.id = ⟨s, au⟩)) (fun t => m.length - t.1) (0, false) (by rw [renorm_eq]; simp only [List.map_cons, List.map_nil, go_sem, Nat.reduceEqDiff, ↓reduceIte, reduceCtorEq, Nat.reduceAdd, Nat.reduceSub, Nat.reduceLeDiff, Nat.reduceMul, Nat.reduceLT, Int.reduceLT, Int.reduceLE, Int.reduceNeg]; rfl) rfl ⟨Nat.zero_le _, by simp⟩ ?_
    rintro ⟨k, v⟩ ⟨hk, hvv⟩ Q2 IH2 OUT2
    simp only at hk hvv
    by_cases hkm : k < m.length
    · have d3 : decide ((k : Int) < m.length) = true := decide_eq_true (by omega)
      have ck : (0 : Int) ≤ k := by omega
      have wk : IntKind.i64.wrap ((k : Int) + 1) = ((k + 1 : Nat) : Int) := by rw [wrap_small _ (by omega) (by omega)]; rfl
      have hrm : (List.map encG m)[k]? = some (encG m[k]) := by simp [hkm]
      have hnx := any_next m (fun x => decide (x.id = ⟨s, au⟩)) k hkm
      rw [← hvv] at hnx
      generalize m[k] = gm at hrm hnx
      obtain ⟨⟨s2, au2⟩, w2, rt2, en2⟩ := gm
      have fin : ∀ (v' : Bool) σ', v' = (v || decide ((⟨s2, au2⟩ : Stamp) = ⟨s, au⟩)) → renorm [3, 4, 5, 9, 10, 11, 12, 13, 14] σ' = ⟨ofL [(3, .sl (a.map encG)), (4, .sl (b.map encG)), (5, .sl (m.map encG)), (9, .sl (a.map encG)), (10, .bool true), (11, .int .i64 i), (12, .ptr 0 0), (13, .bool v'), (14, .int .i64 ((k + 1 : Nat) : Int))], [some (.bx [.int .i64 s, .int .i64 au, .int .i64 w, .int .i64 rt, .bool en])], 0⟩ → rootsLive σ'.m σ'.st = true → Q2 .normal σ' :=
        fun v' σ' h1 h2 h3 => IH2 (k + 1, v') σ' ⟨by simp only; omega, by simp only; rw [hnx, h1]⟩ (by simp only; omega) h2 h3
      cases v
      · simp only [go_sem, Nat.reduceEqDiff, ↓reduceIte, reduceCtorEq, Nat.reduceAdd, Nat.reduceSub, Nat.reduceLeDiff, Nat.reduceMul, Nat.reduceLT, Int.reduceLT, Int.reduceLE, Int.reduceNeg, Int.cast_ofNat_Int, Int.reduceToNat, Int.toNat_zero, ne_eq, not_false_eq_true, Int.reduceEq, d3, ck, wk, hrm, encG, List.length_map]
        refine fin (s2 == s && au2 == au) _ ?_ (by rw [renorm_eq]; simp only [List.map_cons, List.map_nil, go_sem, Nat.reduceEqDiff, ↓reduceIte, reduceCtorEq, Nat.reduceAdd, Nat.reduceSub, Nat.reduceLeDiff, Nat.reduceMul, Nat.reduceLT, Int.reduceLT, Int.reduceLE, Int.reduceNeg]; rfl) rfl
        by_cases e1 : s2 = s <;> by_cases e2 : au2 = au <;> simp [e1, e2]
      · simp only [go_sem, Nat.reduceEqDiff, ↓reduceIte, reduceCtorEq, Nat.reduceAdd, Nat.reduceSub, Nat.reduceLeDiff, Nat.reduceMul, Nat.reduceLT, Int.reduceLT, Int.reduceLE, Int.reduceNeg, Int.cast_ofNat_Int, Int.reduceToNat, Int.toNat_zero, ne_eq, not_false_eq_true, Int.reduceEq, d3, ck, wk, hrm, encG, List.length_map]
        exact fin true _ (by simp) (by rw [renorm_eq]; simp only [List.map_cons, List.map_nil, go_sem, Nat.reduceEqDiff, ↓reduceIte, reduceCtorEq, Nat.reduceAdd, Nat.reduceSub, Nat.reduceLeDiff, Nat.reduceMul, Nat.reduceLT, Int.reduceLT, Int.reduceLE, Int.reduceNeg]; rfl) rfl
    · have d3 : decide ((k : Int) < m.length) = false := decide_eq_false (by omega)
      have hvt : v = true := by rw [hvv, List.take_of_length_le (by omega)]; exact hany
      subst hvt
      simp only [go_sem, Nat.reduceEqDiff, ↓reduceIte, reduceCtorEq, Nat.reduceAdd, Nat.reduceSub, Nat.reduceLeDiff, Nat.reduceMul, Nat.reduceLT, Int.reduceLT, Int.reduceLE, Int.reduceNeg, d3, List.length_map]
      refine OUT2 _ _ (by simp) ?_
      simp only [go_sem, Nat.reduceEqDiff, ↓reduceIte, reduceCtorEq, Nat.reduceAdd, Nat.reduceSub, Nat.reduceLeDiff, Nat.reduceMul, Nat.reduceLT, Int.reduceLT, Int.reduceLE, Int.reduceNeg, Int.cast_ofNat_Int, Int.reduceToNat, Int.toNat_zero, ne_eq, not_false_eq_true, Int.reduceEq, hw]
      exact IH (i + 1) _ (by omega) (by omega) (by rw [renorm_eq]; simp only [List.map_cons, List.map_nil, go_sem, Nat.reduceEqDiff, ↓reduceIte, reduceCtorEq, Nat.reduceAdd, Nat.reduceSub, Nat.reduceLeDiff, Nat.reduceMul, Nat.reduceLT, Int.reduceLT, Int.reduceLE, Int.reduceNeg]; rfl) rfl
  · have c2 : decide ((i : Int) < a.length) = false := decide_eq_false (by omega)
    have wsub : IntKind.i64.wrap ((i : Int) - a.length) = ((i - a.length : Nat) : Int) := by rw [wrap_small _ (by omega) (by omega)]; omega
    have cs : (0 : Int) ≤ ((i - a.length : Nat) : Int) := by omega
    simp only [go_sem, Nat.reduceEqDiff, ↓reduceIte, reduceCtorEq, Nat.reduceAdd, Nat.reduceSub, Nat.reduceLeDiff, Nat.reduceMul, Nat.reduceLT, Int.reduceLT, Int.reduceLE, Int.reduceNeg, Int.cast_ofNat_Int, Int.reduceToNat, Int.toNat_zero, ne_eq, not_false_eq_true, Int.reduceEq, c1, c2, ci, cs, wab, wsub, hrow, encG, List.length_map]
    refine W_rounds (T := Nat × Bool) (fun t => ⟨ofL [(3, .sl (a.map encG)), (4, .sl (b.map encG)), (5, .sl (m.map encG)), (9, .sl (a.map encG)), (10, .bool true), (11, .int .i64 i), (12, .ptr 0 0), (13, .bool t.2), (14, .int .i64 t.1)], [some (.bx [.int .i64 s, .int .i64 au, .int .i64 w, .int .i64 rt, .bool en])], 0⟩)
      (fun t => t.1 ≤ m.length ∧ t.2 = (m.take t.1).any fun x => decide (x.id = ⟨s, au⟩)) (fun t => m.length - t.1) (0, false) (by rw [renorm_eq]; simp only [List.map_cons, List.map_nil, go_sem, Nat.reduceEqDiff, ↓reduceIte, reduceCtorEq, Nat.reduceAdd, Nat.reduceSub, Nat.reduceLeDiff, Nat.reduceMul, Nat.reduceLT, Int.reduceLT, Int.reduceLE, Int.reduceNeg]; rfl) rfl ⟨Nat.zero_le _, by simp⟩ ?_
    rintro ⟨k, v⟩ ⟨hk, hvv⟩ Q2 IH2 OUT2
    simp only at hk hvv
    by_cases hkm : k < m.length
    · have d3 : decide ((k : Int) < m.length) = true := decide_eq_true (by omega)
      have ck : (0 : Int) ≤ k := by omega
      have wk : IntKind.i64.wrap ((k : Int) + 1) = ((k + 1 : Nat) : Int) := by rw [wrap_small _ (by omega) (by omega)]; rfl
      have hrm : (List.map encG m)[k]? = some (encG m[k]) := by simp [hkm]
      have hnx := any_next m (fun x => decide (x.id = ⟨s, au⟩)) k hkm
      rw [← hvv] at hnx
      generalize m[k] = gm at hrm hnx
      obtain ⟨⟨s2, au2⟩, w2, rt2, en2⟩ := gm
      have fin : ∀ (v' : Bool) σ', v' = (v || decide ((⟨s2, au2⟩ : Stamp) = ⟨s, au⟩)) → renorm [3, 4, 5, 9, 10, 11, 12, 13, 14] σ' = ⟨ofL [(3, .sl (a.map encG)), (4, .sl (b.map encG)), (5, .sl (m.map encG)), (9, .sl (a.map encG)), (10, .bool true), (11, .int .i64 i), (12, .ptr 0 0), (13, .bool v'), (14, .int .i64 ((k + 1 : Nat) : Int))], [some (.bx [.int .i64 s, .int .i64 au, .int .i64 w, .int .i64 rt, .bool en])], 0⟩ → rootsLive σ'.m σ'.st = true → Q2 .normal σ' :=
        fun v' σ' h1 h2 h3 => IH2 (k + 1, v') σ' ⟨by simp only; omega, by simp only; rw [hnx, h1]⟩ (by simp only; omega) h2 h3
      cases v
      · simp only [go_sem, Nat.reduceEqDiff, ↓reduceIte, reduceCtorEq, Nat.reduceAdd, Nat.reduceSub, Nat.reduceLeDiff, Nat.reduceMul, Nat.reduceLT, Int.reduceLT, Int.reduceLE, Int.reduceNeg, Int.cast_ofNat_Int, Int.reduceToNat, Int.toNat_zero, ne_eq, not_false_eq_true, Int.reduceEq, d3, ck, wk, hrm, encG, List.length_map]
        refine fin (s2 == s && au2 == au) _ ?_ (by rw [renorm_eq]; simp only [List.map_cons, List.map_nil, go_sem, Nat.reduceEqDiff, ↓reduceIte, reduceCtorEq, Nat.reduceAdd, Nat.reduceSub, Nat.reduceLeDiff, Nat.reduceMul, Nat.reduceLT, Int.reduceLT, Int.reduceLE, Int.reduceNeg]; rfl) rfl
        by_cases e1 : s2 = s <;> by_cases e2 : au2 = au <;> simp [e1, e2]
      · simp only [go_sem, Nat.reduceEqDiff, ↓reduceIte, reduceCtorEq, Nat.reduceAdd, Nat.reduceSub, Nat.reduceLeDiff, Nat.reduceMul, Nat.reduceLT, Int.reduceLT, Int.reduceLE, Int.reduceNeg, Int.cast_ofNat_Int, Int.reduceToNat, Int.toNat_zero, ne_eq, not_false_eq_true, Int.reduceEq, d3, ck, wk, hrm, encG, List.length_map]
        exact fin true _ (by simp) (by rw [renorm_eq]; simp only [List.map_cons, List.map_nil, go_sem, Nat.reduceEqDiff, ↓reduceIte, reduceCtorEq, Nat.reduceAdd, Nat.reduceSub, Nat.reduceLeDiff, Nat.reduceMul, Nat.reduceLT, Int.reduceLT, Int.reduceLE, Int.reduceNeg]; rfl) rfl
    · have d3 : decide ((k : Int) < m.length) = false := decide_eq_false (by omega)
      have hvt : v = true := by rw [hvv, List.take_of_length_le (by omega)]; exact hany
      subst hvt
      simp only [go_sem, Nat.reduceEqDiff, ↓reduceIte, reduceCtorEq, Nat.reduceAdd, Nat.reduceSub, Nat.reduceLeDiff, Nat.reduceMul, Nat.reduceLT, Int.reduceLT, Int.reduceLE, Int.reduceNeg, d3, List.length_map]
      refine OUT2 _ _ (by simp) ?_
      simp only [go_sem, Nat.reduceEqDiff, ↓reduceIte, reduceCtorEq, Nat.reduceAdd, Nat.reduceSub, Nat.reduceLeDiff, Nat.reduceMul, Nat.reduceLT, Int.reduceLT, Int.reduceLE, Int.reduceNeg, Int.cast_ofNat_Int, Int.reduceToNat, Int.toNat_zero, ne_eq, not_false_eq_true, Int.reduceEq, hw]
      exact IH (i + 1) _ (by omega) (by omega) (by rw [renorm_eq]; simp only [List.map_cons, List.map_nil, go_sem, Nat.reduceEqDiff, ↓reduceIte, reduceCtorEq, Nat.reduceAdd, Nat.reduceSub, Nat.reduceLeDiff, Nat.reduceMul, Nat.reduceLT, Int.reduceLT, Int.reduceLE, Int.reduceNeg]; rfl) rfl
end Go.Vi.Code
