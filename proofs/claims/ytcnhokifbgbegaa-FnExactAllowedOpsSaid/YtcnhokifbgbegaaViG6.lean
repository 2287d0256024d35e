/- Contracts: the specification's rights. -/
import Derived.Test.YtcnhokifbgbegaaViG5
set_option linter.unusedSimpArgs false
set_option linter.unusedVariables false
namespace Go.Vi.Code
def effs : R3 → List Grant → List Bool
  | _, [] => []
  | r, g :: l => takeOk r g :: effs (takeR r g) l
theorem effs_len : ∀ (r : R3) (l : List Grant), (effs r l).length = l.length
  | _, [] => rfl
  | r, g :: l => by simp [effs, effs_len _ l]
theorem effs_snoc : ∀ (r : R3) (l : List Grant) (g : Grant), effs r (l ++ [g]) = effs r l ++ [takeOk (l.foldl takeR r) g]
  | r, [], g => rfl
  | r, x :: l, g => by simp [effs, effs_snoc _ l g]
def encB (b : Bool) : List D := [.bool b]
def before (l : List Grant) (t : Stamp) : List Grant := l.takeWhile fun g => stampLess g.id t
theorem rows3_at (R : R3) (i : Int) (h : i = 0 ∨ i = 1 ∨ i = 2) : (rows3 R)[i.toNat]? = some [.int .i64 (R.get i)] := by rcases h with rfl | rfl | rfl <;> rfl
theorem rows3_set (R : R3) (i : Int) (h : i = 0 ∨ i = 1 ∨ i = 2) (n : Int) : (rows3 R).set i.toNat [.int .i64 n] = rows3 (R.put i n) := by rcases h with rfl | rfl | rfl <;> rfl
theorem put_get (R : R3) (i : Int) (h : i = 0 ∨ i = 1 ∨ i = 2) : R.put i (R.get i) = R := by rcases h with rfl | rfl | rfl <;> rfl
theorem takeR_f1 {R : R3} {s au w rt : Int} (ok : takeOk R ⟨⟨s, au⟩, w, rt, false⟩ = true) (hB : R.get w ≥ rt) : takeR R ⟨⟨s, au⟩, w, rt, false⟩ = R.put w (rt - 1) := by
  simp only [takeR, ok, if_true, Bool.false_eq_true, if_false]
  rw [show min (R.get w) (rt - 1) = rt - 1 by omega]
theorem takeR_f2 {R : R3} {s au w rt : Int} (h2 : w = 0 ∨ w = 1 ∨ w = 2) (ok : takeOk R ⟨⟨s, au⟩, w, rt, false⟩ = true) (hB : ¬ R.get w ≥ rt) : takeR R ⟨⟨s, au⟩, w, rt, false⟩ = R := by
  simp only [takeR, ok, if_true, Bool.false_eq_true, if_false]
  rw [show min (R.get w) (rt - 1) = R.get w by omega, put_get _ _ h2]
theorem takeR_t1 {R : R3} {s au w rt : Int} (ok : takeOk R ⟨⟨s, au⟩, w, rt, true⟩ = true) (hB : R.get w < rt) : takeR R ⟨⟨s, au⟩, w, rt, true⟩ = R.put w rt := by
  simp only [takeR, ok, if_true]
  rw [show max (R.get w) rt = rt by omega]
theorem takeR_t2 {R : R3} {s au w rt : Int} (h2 : w = 0 ∨ w = 1 ∨ w = 2) (ok : takeOk R ⟨⟨s, au⟩, w, rt, true⟩ = true) (hB : ¬ R.get w < rt) : takeR R ⟨⟨s, au⟩, w, rt, true⟩ = R := by
  simp only [takeR, ok, if_true]
  rw [show max (R.get w) rt = R.get w by omega, put_get _ _ h2]
set_option maxRecDepth 20000 in
set_option maxHeartbeats 1000000 in
theorem rights_s (l : List Grant) (hl : l.length ≤ 1048576) (hok : ∀ g ∈ l, grantOk g = true) (a1 a2 : Int) : CL 101 [.sl (l.map encG), .agg [.int .i64 a1, .int .i64 a2]] [] =
    some (.tup [.osl 0 0 3, .osl 1 0 (before l ⟨a1, a2⟩).length], [some (.rw 3 (rows3 ((before l ⟨a1, a2⟩).foldl takeR first))), some (.rw 4 ((effs first (before l ⟨a1, a2⟩)).map encB))]) := by
  refine callL_W _ _ _ (F := v101) rfl ?_
  have c3 : (3 : Int) ≤ (rowMax : Nat) := by decide
  simp only [v101, go_sem, Nat.reduceEqDiff, ↓reduceIte, reduceCtorEq, Nat.reduceAdd, Nat.reduceSub, Nat.reduceLeDiff, Nat.reduceMul, Nat.reduceLT, Int.reduceLT, Int.reduceLE, Int.reduceNeg, Int.cast_ofNat_Int, Int.reduceToNat, Int.toNat_zero, ne_eq, not_false_eq_true, Int.reduceEq, c3, beq_self_eq_true]
  refine W_rounds (T := Nat × R3 × List (List D)) (fun t => ⟨ofL [(0, .sl (l.map encG)), (3, .ptr 0 0), (6, .osl 1 0 3), (7, .osl 2 0 t.1), (8, .int .i64 t.1)], [some (.bx [.int .i64 a1, .int .i64 a2]), some (.rw 3 (rows3 t.2.1)), some (.rw 4 t.2.2)], 0⟩)
    (fun t => t.1 ≤ l.length ∧ (∀ j (h : j < l.length), j < t.1 → stampLess l[j].id ⟨a1, a2⟩ = true) ∧ t.2.1 = (l.take t.1).foldl takeR first ∧ t.2.2 = (effs first (l.take t.1)).map encB) (fun t => l.length - t.1) (0, first, []) rfl rfl ⟨Nat.zero_le _, fun j h h0 => by omega, by simp, by simp [effs]⟩ ?_
  rintro ⟨i, ⟨x, y, z⟩, rows⟩ ⟨hi, hlt, hR, hrows⟩ Q1 IH OUT
  simp only at hi hlt hR hrows
  have hlen : rows.length = i := by rw [hrows, List.length_map, effs_len, List.length_take]; omega
  have stop : (∀ h : i < l.length, stampLess l[i].id ⟨a1, a2⟩ = false) → before l ⟨a1, a2⟩ = l.take i := fun h => takeWhile_of _ l i hi hlt h
  by_cases h : i < l.length
  · have c1 : decide ((i : Int) < l.length) = true := decide_eq_true (by omega)
    have c2 : (0 : Int) ≤ i := by omega
    have c4 : i + 1 ≤ rowMax := by simp only [rowMax]; omega
    have hr : (List.map encG l)[i]? = some (encG l[i]) := by simp [h]
    have hw : IntKind.i64.wrap ((i : Int) + 1) = ((i + 1 : Nat) : Int) := by rw [wrap_small _ (by omega) (by omega)]; rfl
    have hg : grantOk l[i] = true := hok _ (List.getElem_mem h)
    have hnext := take_next l i h
    have hlt' := fun (hs : stampLess l[i].id ⟨a1, a2⟩ = true) j (hj : j < l.length) (hji : j < i + 1) => (show stampLess l[j].id ⟨a1, a2⟩ = true from by
      rcases Nat.lt_succ_iff_lt_or_eq.1 hji with h3 | h3
      · exact hlt j hj h3
      · subst h3; exact hs)
    rcases hgi : l[i] with ⟨⟨s, au⟩, w, rt, en⟩
    rw [hgi] at hr hg hnext hlt'
    by_cases hs : stampLess ⟨s, au⟩ ⟨a1, a2⟩ = true
    · have hlt2 := hlt' hs
      obtain ⟨_, h1, h2, h3, h4⟩ := grantOk_spec hg
      simp only at h1 h2 h3 h4
      have hw2 : IntKind.i64.wrap (rt - 1) = rt - 1 := wrap_small _ (by omega) (by omega)
      have hF : (l.take (i + 1)).foldl takeR first = takeR ⟨x, y, z⟩ ⟨⟨s, au⟩, w, rt, en⟩ := by rw [hnext, List.foldl_append, ← hR]; rfl
      have hE : (effs first (l.take (i + 1))).map encB = rows ++ [[.bool (takeOk ⟨x, y, z⟩ ⟨⟨s, au⟩, w, rt, en⟩)]] := by rw [hnext, effs_snoc, List.map_append, ← hrows, ← hR]; rfl
      have fin : ∀ (R : R3) (b : Bool) σ', R = takeR ⟨x, y, z⟩ ⟨⟨s, au⟩, w, rt, en⟩ → b = takeOk ⟨x, y, z⟩ ⟨⟨s, au⟩, w, rt, en⟩ →
          renorm [0, 3, 6, 7, 8] σ' = ⟨ofL [(0, .sl (l.map encG)), (3, .ptr 0 0), (6, .osl 1 0 3), (7, .osl 2 0 (i + 1)), (8, .int .i64 ((i + 1 : Nat) : Int))], [some (.bx [.int .i64 a1, .int .i64 a2]), some (.rw 3 (rows3 R)), some (.rw 4 (rows ++ [[.bool b]]))], 0⟩ → rootsLive σ'.m σ'.st = true → Q1 .normal σ' := by
        rintro R b σ' rfl rfl e1 e2
        exact IH (i + 1, _, _) σ' ⟨by omega, hlt2, hF.symm, hE.symm⟩ (by simp only; omega) e1 e2
      generalize hRR : (⟨x, y, z⟩ : R3) = R at fin
      clear hF hE hR hRR
      have a0 : (0 : Int) ≤ au := by omega
      have a3 : au < 3 := by omega
      have w0 : (0 : Int) ≤ w := by omega
      have w3 : w < 3 := by omega
      have ra := rows3_at R au h1
      have rw' := rows3_at R w h2
      have rs := rows3_set R w h2
      by_cases hA : R.get au = 3
      case neg =>
        have d1 : (R.get au == 3) = false := by simpa using hA
        simp only [go_sem, Nat.reduceEqDiff, ↓reduceIte, reduceCtorEq, Nat.reduceAdd, Nat.reduceSub, Nat.reduceLeDiff, Nat.reduceMul, Nat.reduceLT, Int.reduceLT, Int.reduceLE, Int.reduceNeg, Int.cast_ofNat_Int, Int.reduceToNat, Int.toNat_zero, ne_eq, not_false_eq_true, Int.reduceEq, c1, c2, c4, hr, hw, hlen, encG, stampLess_s, hs, beq_self_eq_true, a0, a3, ra, d1]
        exact fin R false _ (by simp [takeR, takeOk, hA]) (by simp [takeOk, hA]) (by rw [renorm_eq]; simp only [List.map_cons, List.map_nil, go_sem, Nat.reduceEqDiff, ↓reduceIte, reduceCtorEq, Nat.reduceAdd, Nat.reduceSub, Nat.reduceLeDiff, Nat.reduceMul, Nat.reduceLT, Int.reduceLT, Int.reduceLE, Int.reduceNeg]; rfl) rfl
      have d1 : (R.get au == 3) = true := by simpa using hA
      by_cases hW : w = 0
      · have d2 : (w != 0) = false := by simpa using hW
        simp only [go_sem, Nat.reduceEqDiff, ↓reduceIte, reduceCtorEq, Nat.reduceAdd, Nat.reduceSub, Nat.reduceLeDiff, Nat.reduceMul, Nat.reduceLT, Int.reduceLT, Int.reduceLE, Int.reduceNeg, Int.cast_ofNat_Int, Int.reduceToNat, Int.toNat_zero, ne_eq, not_false_eq_true, Int.reduceEq, c1, c2, c4, hr, hw, hlen, encG, stampLess_s, hs, beq_self_eq_true, a0, a3, ra, d1, d2]
        exact fin R false _ (by simp [takeR, takeOk, hW]) (by simp [takeOk, hW]) (by rw [renorm_eq]; simp only [List.map_cons, List.map_nil, go_sem, Nat.reduceEqDiff, ↓reduceIte, reduceCtorEq, Nat.reduceAdd, Nat.reduceSub, Nat.reduceLeDiff, Nat.reduceMul, Nat.reduceLT, Int.reduceLT, Int.reduceLE, Int.reduceNeg]; rfl) rfl
      have d2 : (w != 0) = true := by simpa using hW
      have ok : takeOk R ⟨⟨s, au⟩, w, rt, en⟩ = true := by simp [takeOk, hW, hA]
      cases en
      · by_cases hB : R.get w ≥ rt
        · have d3 : decide (R.get w ≥ rt) = true := decide_eq_true hB
          simp only [go_sem, Nat.reduceEqDiff, ↓reduceIte, reduceCtorEq, Nat.reduceAdd, Nat.reduceSub, Nat.reduceLeDiff, Nat.reduceMul, Nat.reduceLT, Int.reduceLT, Int.reduceLE, Int.reduceNeg, Int.cast_ofNat_Int, Int.reduceToNat, Int.toNat_zero, ne_eq, not_false_eq_true, Int.reduceEq, c1, c2, c4, hr, hw, hw2, hlen, encG, stampLess_s, hs, beq_self_eq_true, a0, a3, ra, w0, w3, rw', rs, d1, d2, d3]
          exact fin (R.put w (rt - 1)) _ _ (takeR_f1 ok hB).symm ok.symm (by rw [renorm_eq]; simp only [List.map_cons, List.map_nil, go_sem, Nat.reduceEqDiff, ↓reduceIte, reduceCtorEq, Nat.reduceAdd, Nat.reduceSub, Nat.reduceLeDiff, Nat.reduceMul, Nat.reduceLT, Int.reduceLT, Int.reduceLE, Int.reduceNeg]; rfl) rfl
        · have d3 : decide (R.get w ≥ rt) = false := decide_eq_false hB
          simp only [go_sem, Nat.reduceEqDiff, ↓reduceIte, reduceCtorEq, Nat.reduceAdd, Nat.reduceSub, Nat.reduceLeDiff, Nat.reduceMul, Nat.reduceLT, Int.reduceLT, Int.reduceLE, Int.reduceNeg, Int.cast_ofNat_Int, Int.reduceToNat, Int.toNat_zero, ne_eq, not_false_eq_true, Int.reduceEq, c1, c2, c4, hr, hw, hw2, hlen, encG, stampLess_s, hs, beq_self_eq_true, a0, a3, ra, w0, w3, rw', rs, d1, d2, d3]
          exact fin R _ _ (takeR_f2 h2 ok hB).symm ok.symm (by rw [renorm_eq]; simp only [List.map_cons, List.map_nil, go_sem, Nat.reduceEqDiff, ↓reduceIte, reduceCtorEq, Nat.reduceAdd, Nat.reduceSub, Nat.reduceLeDiff, Nat.reduceMul, Nat.reduceLT, Int.reduceLT, Int.reduceLE, Int.reduceNeg]; rfl) rfl
      · by_cases hB : R.get w < rt
        · have d3 : decide (R.get w < rt) = true := decide_eq_true hB
          simp only [go_sem, Nat.reduceEqDiff, ↓reduceIte, reduceCtorEq, Nat.reduceAdd, Nat.reduceSub, Nat.reduceLeDiff, Nat.reduceMul, Nat.reduceLT, Int.reduceLT, Int.reduceLE, Int.reduceNeg, Int.cast_ofNat_Int, Int.reduceToNat, Int.toNat_zero, ne_eq, not_false_eq_true, Int.reduceEq, c1, c2, c4, hr, hw, hw2, hlen, encG, stampLess_s, hs, beq_self_eq_true, a0, a3, ra, w0, w3, rw', rs, d1, d2, d3]
          exact fin (R.put w rt) _ _ (takeR_t1 ok hB).symm ok.symm (by rw [renorm_eq]; simp only [List.map_cons, List.map_nil, go_sem, Nat.reduceEqDiff, ↓reduceIte, reduceCtorEq, Nat.reduceAdd, Nat.reduceSub, Nat.reduceLeDiff, Nat.reduceMul, Nat.reduceLT, Int.reduceLT, Int.reduceLE, Int.reduceNeg]; rfl) rfl
        · have d3 : decide (R.get w < rt) = false := decide_eq_false hB
          simp only [go_sem, Nat.reduceEqDiff, ↓reduceIte, reduceCtorEq, Nat.reduceAdd, Nat.reduceSub, Nat.reduceLeDiff, Nat.reduceMul, Nat.reduceLT, Int.reduceLT, Int.reduceLE, Int.reduceNeg, Int.cast_ofNat_Int, Int.reduceToNat, Int.toNat_zero, ne_eq, not_false_eq_true, Int.reduceEq, c1, c2, c4, hr, hw, hw2, hlen, encG, stampLess_s, hs, beq_self_eq_true, a0, a3, ra, w0, w3, rw', rs, d1, d2, d3]
          exact fin R _ _ (takeR_t2 h2 ok hB).symm ok.symm (by rw [renorm_eq]; simp only [List.map_cons, List.map_nil, go_sem, Nat.reduceEqDiff, ↓reduceIte, reduceCtorEq, Nat.reduceAdd, Nat.reduceSub, Nat.reduceLeDiff, Nat.reduceMul, Nat.reduceLT, Int.reduceLT, Int.reduceLE, Int.reduceNeg]; rfl) rfl
    · have hs' : stampLess ⟨s, au⟩ ⟨a1, a2⟩ = false := by simpa using hs
      have hb := stop (fun _ => by rw [hgi]; exact hs')
      simp only [go_sem, Nat.reduceEqDiff, ↓reduceIte, reduceCtorEq, Nat.reduceAdd, Nat.reduceSub, Nat.reduceLeDiff, Nat.reduceMul, Nat.reduceLT, Int.reduceLT, Int.reduceLE, Int.reduceNeg, c1, c2, hr, hw, encG, stampLess_s, hs']
      refine OUT _ _ (by simp) ?_
      simp only [go_sem, Nat.reduceEqDiff, ↓reduceIte, reduceCtorEq, Nat.reduceAdd, Nat.reduceSub, Nat.reduceLeDiff, Nat.reduceMul, Nat.reduceLT, Int.reduceLT, Int.reduceLE, Int.reduceNeg]
      rw [hb, List.length_take, Nat.min_eq_left hi, ← hR, ← hrows]
      rfl
  · have c1 : decide ((i : Int) < l.length) = false := decide_eq_false (by omega)
    have hb := stop (fun h2 => absurd h2 h)
    simp only [go_sem, Nat.reduceEqDiff, ↓reduceIte, reduceCtorEq, Nat.reduceAdd, Nat.reduceSub, Nat.reduceLeDiff, Nat.reduceMul, Nat.reduceLT, Int.reduceLT, Int.reduceLE, Int.reduceNeg, c1]
    refine OUT _ _ (by simp) ?_
    simp only [go_sem, Nat.reduceEqDiff, ↓reduceIte, reduceCtorEq, Nat.reduceAdd, Nat.reduceSub, Nat.reduceLeDiff, Nat.reduceMul, Nat.reduceLT, Int.reduceLT, Int.reduceLE, Int.reduceNeg]
    rw [hb, List.length_take, Nat.min_eq_left hi, ← hR, ← hrows]
    rfl
end Go.Vi.Code
