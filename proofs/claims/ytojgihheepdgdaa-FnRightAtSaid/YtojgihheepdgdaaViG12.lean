/- Contracts: the reader, the draws of grants. -/
import Derived.Test.YtojgihheepdgdaaViG9
import Derived.Test.YtojgihheepdgdaaViWp3
set_option linter.unusedSimpArgs false
set_option linter.unusedVariables false
namespace Go.Vi.Code
def enc8 (n : Int) : List D := [.int .u8 n]
/-- A reader over these bytes, at this position. -/
def rd (l : List Int) (p : Int) : Obj := .bx [.sl (l.map enc8), .int .i64 p]
structure Bytes (l : List Int) : Prop where
  len : l.length ≤ 2000
  byte : ∀ x ∈ l, 0 ≤ x ∧ x ≤ 255
@[go_sem] theorem fin_rd_int (rows : List (List D)) (p n : Int) (rest : Store) : finishO 1 (some (.bx [.sl rows, .int .i64 p]) :: rest) (.int .i64 n) = some (.int .i64 n, [some (.bx [.sl rows, .int .i64 p])]) := rfl
theorem fin_rd_agg (l : List Int) (p a b : Int) (rest : Store) : finishO 1 (some (rd l p) :: rest) (.agg [.int .i64 a, .int .i64 b]) = some (.agg [.int .i64 a, .int .i64 b], [some (rd l p)]) := rfl
theorem fin_rd_i (l : List Int) (p a : Int) (rest : Store) : finishO 1 (some (rd l p) :: rest) (.int .i64 a) = some (.int .i64 a, [some (rd l p)]) := rfl
theorem xor_e (a c : Int) (h0 : 0 ≤ a) (h1 : a < 4611686018427387904) (k0 : 0 ≤ c) (k1 : c < 4611686018427387904) : ∃ y : Int, 0 ≤ y ∧ IntKind.i64.wrap ((BitVec.ofInt 64 a ^^^ BitVec.ofInt 64 c).toNat : Int) = y := by
  have e64 : ((2 ^ 64 : Nat) : Int) = 18446744073709551616 := by decide
  have ha : (BitVec.ofInt 64 a).toNat < 2 ^ 62 := by
    rw [BitVec.toNat_ofInt]
    have : a % ((2 ^ 64 : Nat) : Int) = a := Int.emod_eq_of_lt h0 (by rw [e64]; omega)
    rw [this]; omega
  have hc : (BitVec.ofInt 64 c).toNat < 2 ^ 62 := by
    rw [BitVec.toNat_ofInt]
    have : c % ((2 ^ 64 : Nat) : Int) = c := Int.emod_eq_of_lt k0 (by rw [e64]; omega)
    rw [this]; omega
  have hx := Nat.xor_lt_two_pow ha hc
  rw [BitVec.toNat_xor]
  generalize (BitVec.ofInt 64 a).toNat ^^^ (BitVec.ofInt 64 c).toNat = z at hx
  refine ⟨z, by omega, wrap_small _ (by omega) (by omega)⟩
theorem pick_e {l : List Int} (hl : Bytes l) (p n : Int) (hp : 0 ≤ p) (hp2 : p ≤ 1000000) (hn : 1 ≤ n) (hn2 : n ≤ 1000000) :
    ∃ x : Int, 0 ≤ x ∧ x < n ∧ CL 61 [.ptr 0 0, .int .i64 n] [some (rd l p)] = some (.int .i64 x, [some (rd l (p + 1))]) := by
  obtain ⟨hlen, hbyte⟩ := hl
  have w1 : IntKind.i64.wrap (p + 1) = p + 1 := wrap_small _ (by omega) (by omega)
  have w2 : IntKind.i64.wrap (p + 1 - 1) = p := (wrap_small (p + 1 - 1) (by omega) (by omega)).trans (by omega)
  have d1 : decide (n < 1) = false := decide_eq_false (by omega)
  have n0 : (n = 0) = False := eq_false (by omega)
  by_cases h0 : l.length = 0
  · have d2 : ((l.length : Int) == 0) = true := by simp [h0]
    refine ⟨0, by omega, by omega, callL_W _ _ _ (F := v61) rfl ?_⟩
    simp only [v61, rd, go_sem, Nat.reduceEqDiff, ↓reduceIte, reduceCtorEq, Nat.reduceAdd, Nat.reduceSub, Nat.reduceLeDiff, Nat.reduceMul, Nat.reduceLT, Int.reduceLT, Int.reduceLE, Int.reduceNeg, Int.cast_ofNat_Int, Int.reduceToNat, Int.toNat_zero, ne_eq, not_false_eq_true, Int.reduceEq, w1, w2, d1, d2, List.length_map]
  have d2 : ((l.length : Int) == 0) = false := by
    have : (l.length : Int) ≠ 0 := by omega
    simpa using this
  have L0 : ((l.length : Int) = 0) = False := eq_false (by omega)
  have at_ : ∀ i : Int, 0 ≤ i → i < l.length → ∃ b : Int, 0 ≤ b ∧ b ≤ 255 ∧ (List.map enc8 l)[i.toNat]? = some [.int .u8 b] := by
    intro i hi hil
    have h : i.toNat < l.length := by omega
    obtain ⟨h1, h2⟩ := hbyte l[i.toNat] (List.getElem_mem h)
    exact ⟨l[i.toNat], h1, h2, by simp [h, enc8]⟩
  by_cases h1 : p < l.length
  · have d3 : decide (p < l.length) = true := decide_eq_true h1
    obtain ⟨b, hb0, hb1, hb⟩ := at_ p hp h1
    have wb : IntKind.i64.wrap b = b := wrap_small _ (by omega) (by omega)
    refine ⟨b.tmod n, Int.tmod_nonneg _ hb0, Int.tmod_lt_of_pos _ (by omega), callL_W _ _ _ (F := v61) rfl ?_⟩
    simp only [v61, rd, go_sem, Nat.reduceEqDiff, ↓reduceIte, reduceCtorEq, Nat.reduceAdd, Nat.reduceSub, Nat.reduceLeDiff, Nat.reduceMul, Nat.reduceLT, Int.reduceLT, Int.reduceLE, Int.reduceNeg, Int.cast_ofNat_Int, Int.reduceToNat, Int.toNat_zero, ne_eq, not_false_eq_true, Int.reduceEq, w1, w2, d1, d2, d3, n0, hp, hb, wb, List.length_map]
  · have d3 : decide (p < l.length) = false := decide_eq_false h1
    have Lp : (0 : Int) < l.length := by omega
    have p7 : IntKind.i64.wrap (p * 7) = p * 7 := wrap_small _ (by omega) (by omega)
    have p73 : IntKind.i64.wrap (p * 7 + 3) = p * 7 + 3 := wrap_small _ (by omega) (by omega)
    have i1 : 0 ≤ p.tmod l.length := Int.tmod_nonneg _ hp
    have i1' := Int.tmod_lt_of_pos p Lp
    have i2 : 0 ≤ (p * 7 + 3).tmod l.length := Int.tmod_nonneg _ (by omega)
    have i2' := Int.tmod_lt_of_pos (p * 7 + 3) Lp
    obtain ⟨b1, hb10, hb11, hb1⟩ := at_ _ i1 i1'
    obtain ⟨b2, hb20, hb21, hb2⟩ := at_ _ i2 i2'
    have wb1 : IntKind.i64.wrap b1 = b1 := wrap_small _ (by omega) (by omega)
    have wb2 : IntKind.i64.wrap b2 = b2 := wrap_small _ (by omega) (by omega)
    have q0 : 0 ≤ p.tdiv l.length := Int.tdiv_nonneg hp (by omega)
    have q1 : p.tdiv l.length ≤ p := by
      rw [Int.tdiv_eq_ediv_of_nonneg hp]
      exact Int.ediv_le_self _ hp
    generalize hq : p.tdiv (l.length : Int) = q at q0 q1
    have m1 : IntKind.i64.wrap (b1 * 131) = b1 * 131 := wrap_small _ (by omega) (by omega)
    have m2 : IntKind.i64.wrap (b2 * 1117) = b2 * 1117 := wrap_small _ (by omega) (by omega)
    have m3 : IntKind.i64.wrap (b1 * 131 + b2 * 1117) = b1 * 131 + b2 * 1117 := wrap_small _ (by omega) (by omega)
    have m4 : IntKind.i64.wrap (p * 29) = p * 29 := wrap_small _ (by omega) (by omega)
    have m5 : IntKind.i64.wrap (b1 * 131 + b2 * 1117 + p * 29) = b1 * 131 + b2 * 1117 + p * 29 := wrap_small _ (by omega) (by omega)
    have m6 : IntKind.i64.wrap q = q := wrap_small _ (by omega) (by omega)
    have m7 : IntKind.i64.wrap (q * 53) = q * 53 := wrap_small _ (by omega) (by omega)
    have m8 : IntKind.i64.wrap (b1 * 131 + b2 * 1117 + p * 29 + q * 53) = b1 * 131 + b2 * 1117 + p * 29 + q * 53 := wrap_small _ (by omega) (by omega)
    generalize hx : b1 * 131 + b2 * 1117 + p * 29 + q * 53 = x at m8
    have x0 : 0 ≤ x := by omega
    have x1 : x ≤ 1000000000 := by omega
    have z0 : 0 ≤ x.tdiv 64 := Int.tdiv_nonneg x0 (by omega)
    have z1 : x.tdiv 64 ≤ x := by
      rw [Int.tdiv_eq_ediv_of_nonneg x0]
      exact Int.ediv_le_self _ x0
    have m9 : IntKind.i64.wrap (x.tdiv 64) = x.tdiv 64 := wrap_small _ (by omega) (by omega)
    obtain ⟨y, y0, hy⟩ := xor_e x (x.tdiv 64) x0 (by omega) z0 (by omega)
    refine ⟨y.tmod n, Int.tmod_nonneg _ y0, Int.tmod_lt_of_pos _ (by omega), callL_W _ _ _ (F := v61) rfl ?_⟩
    simp only [v61, rd, go_sem, Nat.reduceEqDiff, ↓reduceIte, reduceCtorEq, Nat.reduceAdd, Nat.reduceSub, Nat.reduceLeDiff, Nat.reduceMul, Nat.reduceLT, Int.reduceLT, Int.reduceLE, Int.reduceNeg, Int.cast_ofNat_Int, Int.reduceToNat, Int.toNat_zero, ne_eq, not_false_eq_true, Int.reduceEq, w1, w2, d1, d2, d3, n0, L0, hp, p7, p73, i1, i2, hb1, hb2, wb1, wb2, hq, m1, m2, m3, m4, m5, m6, m7, hx, m8, m9, List.length_map]
    rw [← hy]
    rfl
noncomputable def pickV (l : List Int) (p n : Int) : Int := match CL 61 [.ptr 0 0, .int .i64 n] [some (rd l p)] with | some (.int _ x, _) => x | _ => 0
theorem pick_c {l : List Int} (hl : Bytes l) (p n : Int) (hp : 0 ≤ p) (hp2 : p ≤ 1000000) (hn : 1 ≤ n) (hn2 : n ≤ 1000000) :
    (0 ≤ pickV l p n ∧ pickV l p n < n) ∧ ∀ rest, callWith CL 61 [true] none [.ptr 0 0, .int .i64 n] (some (rd l p) :: rest) = some (.int .i64 (pickV l p n), some (rd l (p + 1)) :: rest) := by
  obtain ⟨x, h0, h1, h⟩ := pick_e hl p n hp hp2 hn hn2
  have : pickV l p n = x := by unfold pickV; rw [h]
  rw [this]
  exact ⟨⟨h0, h1⟩, fun rest => root_cw h rfl rfl rfl rfl rest⟩
@[go_sem] theorem oRenum_rd (f : Nat → Option Nat) (l : List Int) (p : Int) : Obj.renum f (rd l p) = rd l p := flatO_renum (o := rd l p) rfl f
def enc1 (n : Int) : List D := [.int .i64 n]
theorem one_e {l : List Int} (hl : Bytes l) (p : Int) (xs : List Int) (hp : 0 ≤ p) (hp2 : p ≤ 1000000) (hn : 1 ≤ xs.length) (hn2 : xs.length ≤ 1000000) :
    ∃ x : Int, CL 63 [.ptr 0 0, .sl (xs.map enc1)] [some (rd l p)] = some (.int .i64 x, [some (rd l (p + 1))]) := by
  obtain ⟨⟨h0, h1⟩, hk⟩ := pick_c hl p xs.length hp hp2 (by omega) (by omega)
  have hi : (pickV l p xs.length).toNat < xs.length := by omega
  have hr : (List.map enc1 xs)[(pickV l p xs.length).toNat]? = some [.int .i64 xs[(pickV l p xs.length).toNat]] := by simp [hi, enc1]
  refine ⟨xs[(pickV l p xs.length).toNat], ?_⟩
  refine callL_W _ _ _ (F := v63) rfl ?_
  simp only [v63, go_sem, Nat.reduceEqDiff, ↓reduceIte, reduceCtorEq, Nat.reduceAdd, Nat.reduceSub, Nat.reduceLeDiff, Nat.reduceMul, Nat.reduceLT, Int.reduceLT, Int.reduceLE, Int.reduceNeg, Int.cast_ofNat_Int, Int.reduceToNat, Int.toNat_zero, ne_eq, not_false_eq_true, Int.reduceEq, hk, h0, hr, List.length_map, fin_rd_i, beq_self_eq_true]
theorem randomStamp_e {l : List Int} (hl : Bytes l) (p : Int) (hp : 0 ≤ p) (hp2 : p ≤ 900000) :
    ∃ a b : Int, CL 81 [.ptr 0 0] [some (rd l p)] = some (.agg [.int .i64 a, .int .i64 b], [some (rd l (p + 1 + 1))]) := by
  obtain ⟨x, hx0⟩ := one_e hl p [1, 2, 3, 5, 9, 99] hp (by omega) (by simp) (by simp)
  have hx := root_cw hx0 rfl rfl rfl rfl
  obtain ⟨_, hk⟩ := pick_c hl (p + 1) 3 (by omega) (by omega) (by omega) (by omega)
  refine ⟨x, pickV l (p + 1) 3, ?_⟩
  refine callL_W _ _ _ (F := v81) rfl ?_
  simp only [List.map_cons, List.map_nil, enc1] at hx
  simp only [v81, go_sem, Nat.reduceEqDiff, ↓reduceIte, reduceCtorEq, Nat.reduceAdd, Nat.reduceSub, Nat.reduceLeDiff, Nat.reduceMul, Nat.reduceLT, Int.reduceLT, Int.reduceLE, Int.reduceNeg, Int.cast_ofNat_Int, Int.reduceToNat, Int.toNat_zero, ne_eq, not_false_eq_true, Int.reduceEq, hk, hx, fin_rd_agg, beq_self_eq_true]
theorem anyStamp_e {l : List Int} (hl : Bytes l) (p : Int) (hp : 0 ≤ p) (hp2 : p ≤ 800000) :
    ∃ a b q : Int, p ≤ q ∧ q ≤ p + 3 ∧ CL 64 [.ptr 0 0] [some (rd l p)] = some (.agg [.int .i64 a, .int .i64 b], [some (rd l q)]) := by
  obtain ⟨_, hk⟩ := pick_c hl p 8 (by omega) (by omega) (by omega) (by omega)
  by_cases h0 : pickV l p 8 = 0
  · have d0 : (pickV l p 8 == 0) = true := by simp [h0]
    refine ⟨0, 0, p + 1, by omega, by omega, ?_⟩
    refine callL_W _ _ _ (F := v64) rfl ?_
    simp only [v64, go_sem, Nat.reduceEqDiff, ↓reduceIte, reduceCtorEq, Nat.reduceAdd, Nat.reduceSub, Nat.reduceLeDiff, Nat.reduceMul, Nat.reduceLT, Int.reduceLT, Int.reduceLE, Int.reduceNeg, Int.cast_ofNat_Int, Int.reduceToNat, Int.toNat_zero, ne_eq, not_false_eq_true, Int.reduceEq, hk, d0, fin_rd_agg, beq_self_eq_true]
  have d0 : (pickV l p 8 == 0) = false := by simp [h0]
  by_cases h1 : pickV l p 8 = 1
  · have d1 : (pickV l p 8 == 1) = true := by simp [h1]
    obtain ⟨x, hx0⟩ := one_e hl (p + 1) [0, 100, -1] (by omega) (by omega) (by simp) (by simp)
    have hx := root_cw hx0 rfl rfl rfl rfl
    obtain ⟨_, hk2⟩ := pick_c hl (p + 1 + 1) 3 (by omega) (by omega) (by omega) (by omega)
    simp only [List.map_cons, List.map_nil, enc1] at hx
    refine ⟨x, pickV l (p + 1 + 1) 3, p + 1 + 1 + 1, by omega, by omega, ?_⟩
    refine callL_W _ _ _ (F := v64) rfl ?_
    simp only [v64, go_sem, Nat.reduceEqDiff, ↓reduceIte, reduceCtorEq, Nat.reduceAdd, Nat.reduceSub, Nat.reduceLeDiff, Nat.reduceMul, Nat.reduceLT, Int.reduceLT, Int.reduceLE, Int.reduceNeg, Int.cast_ofNat_Int, Int.reduceToNat, Int.toNat_zero, ne_eq, not_false_eq_true, Int.reduceEq, hk, d0, d1, hx, hk2, fin_rd_agg, beq_self_eq_true]
  have d1 : (pickV l p 8 == 1) = false := by simp [h1]
  by_cases h2 : pickV l p 8 = 2
  · have d2 : (pickV l p 8 == 2) = true := by simp [h2]
    obtain ⟨x, hx0⟩ := one_e hl (p + 1) [3, -1] (by omega) (by omega) (by simp) (by simp)
    have hx := root_cw hx0 rfl rfl rfl rfl
    simp only [List.map_cons, List.map_nil, enc1] at hx
    refine ⟨4, x, p + 1 + 1, by omega, by omega, ?_⟩
    refine callL_W _ _ _ (F := v64) rfl ?_
    simp only [v64, go_sem, Nat.reduceEqDiff, ↓reduceIte, reduceCtorEq, Nat.reduceAdd, Nat.reduceSub, Nat.reduceLeDiff, Nat.reduceMul, Nat.reduceLT, Int.reduceLT, Int.reduceLE, Int.reduceNeg, Int.cast_ofNat_Int, Int.reduceToNat, Int.toNat_zero, ne_eq, not_false_eq_true, Int.reduceEq, hk, d0, d1, d2, hx, fin_rd_agg, beq_self_eq_true]
  have d2 : (pickV l p 8 == 2) = false := by simp [h2]
  obtain ⟨a, b, hx0⟩ := randomStamp_e hl (p + 1) (by omega) (by omega)
  have hx := root_cw hx0 rfl rfl rfl rfl
  refine ⟨a, b, p + 1 + 1 + 1, by omega, by omega, ?_⟩
  refine callL_W _ _ _ (F := v64) rfl ?_
  simp only [v64, go_sem, Nat.reduceEqDiff, ↓reduceIte, reduceCtorEq, Nat.reduceAdd, Nat.reduceSub, Nat.reduceLeDiff, Nat.reduceMul, Nat.reduceLT, Int.reduceLT, Int.reduceLE, Int.reduceNeg, Int.cast_ofNat_Int, Int.reduceToNat, Int.toNat_zero, ne_eq, not_false_eq_true, Int.reduceEq, hk, d0, d1, d2, hx, fin_rd_agg, beq_self_eq_true]
theorem newReader_e (xs : List Int) (hb : ∀ x ∈ xs, 0 ≤ x ∧ x ≤ 255) (hl : xs.length ≤ 1048576) : ∃ l, Bytes l ∧ CL 59 [.sl (xs.map enc8)] [] = some (.ptr 0 0, [some (rd l 0)]) := by
  have z0 : (0 : Int) ≤ 2000 := by omega
  by_cases h : xs.length ≤ 2000
  · have d : decide ((xs.length : Int) > 2000) = false := decide_eq_false (by omega)
    refine ⟨xs, ⟨h, hb⟩, callL_W _ _ _ (F := v59) rfl ?_⟩
    simp only [v59, go_sem, Nat.reduceEqDiff, ↓reduceIte, reduceCtorEq, Nat.reduceAdd, Nat.reduceSub, Nat.reduceLeDiff, Nat.reduceMul, Nat.reduceLT, Int.reduceLT, Int.reduceLE, Int.reduceNeg, Int.cast_ofNat_Int, Int.reduceToNat, Int.toNat_zero, ne_eq, not_false_eq_true, Int.reduceEq, d, List.length_map, rd]
    rfl
  · have d : decide ((xs.length : Int) > 2000) = true := decide_eq_true (by omega)
    have c1 : (2000 : Int) ≤ xs.length := by omega
    have rf : rowFits 1 (xs.map enc8)[0]? = true := by
      have : 0 < xs.length := by omega
      simp [this, rowFits, enc8]
    have tk : (xs.map enc8).take 2000 = (xs.take 2000).map enc8 := by rw [List.map_take]
    refine ⟨xs.take 2000, ⟨by simp; omega, fun x hx => hb x (List.mem_of_mem_take hx)⟩, callL_W _ _ _ (F := v59) rfl ?_⟩
    simp only [v59, go_sem, Nat.reduceEqDiff, ↓reduceIte, reduceCtorEq, Nat.reduceAdd, Nat.reduceSub, Nat.reduceLeDiff, Nat.reduceMul, Nat.reduceLT, Int.reduceLT, Int.reduceLE, Int.reduceNeg, Int.cast_ofNat_Int, Int.reduceToNat, Int.toNat_zero, ne_eq, not_false_eq_true, Int.reduceEq, d, z0, c1, rf, List.length_map, rd, Nat.sub_zero, tk]
    rfl
set_option maxRecDepth 20000 in
set_option maxHeartbeats 1000000 in
theorem randomGrants_e {l : List Int} (hl : Bytes l) (p : Int) (hp : 0 ≤ p) (hp2 : p ≤ 100000) :
    ∃ (g : List Grant) (q : Int), g.length ≤ 8 ∧ p ≤ q ∧ q ≤ p + 200 ∧ CL 80 [.ptr 0 0] [some (rd l p)] = some (.osl 1 0 g.length, [some (rd l q), some (.rw 41 (g.map encG))]) := by
  obtain ⟨⟨k0, k1⟩, hk⟩ := pick_c hl p 9 (by omega) (by omega) (by omega) (by omega)
  suffices h : ∃ r, (∃ (g : List Grant) (q : Int), g.length ≤ 8 ∧ p ≤ q ∧ q ≤ p + 200 ∧ r = (D.osl 1 0 g.length, [some (rd l q), some (.rw 41 (g.map encG))])) ∧ CL 80 [.ptr 0 0] [some (rd l p)] = some r by
    obtain ⟨r, ⟨g, q, h1, h2, h3, rfl⟩, h4⟩ := h
    exact ⟨g, q, h1, h2, h3, h4⟩
  refine callL_We _ _ _ (F := v80) rfl ?_
  simp only [v80, go_sem, Nat.reduceEqDiff, ↓reduceIte, reduceCtorEq, Nat.reduceAdd, Nat.reduceSub, Nat.reduceLeDiff, Nat.reduceMul, Nat.reduceLT, Int.reduceLT, Int.reduceLE, Int.reduceNeg, Int.cast_ofNat_Int, Int.reduceToNat, Int.toNat_zero, ne_eq, not_false_eq_true, Int.reduceEq, hk]
  refine W_rounds (T := List Grant × Int × Int) (fun t => ⟨ofL [(0, .ptr 0 0), (3, .sl (t.1.map encG)), (4, .int .i64 t.2.1)], [some (rd l t.2.2)], 1⟩)
    (fun t => 0 ≤ t.2.1 ∧ t.2.1 ≤ 8 ∧ (t.1.length : Int) + t.2.1 ≤ 8 ∧ p ≤ t.2.2 ∧ t.2.2 + 20 * t.2.1 ≤ p + 200) (fun t => t.2.1.toNat) ([], pickV l p 9, p + 1) rfl rfl ⟨by simp only; omega, by simp only; omega, by simp; omega, by simp only; omega, by simp only; omega⟩ ?_
  rintro ⟨g, n, q⟩ ⟨hn, hn8, hg, hq, hq2⟩ Q1 IH OUT
  simp only at hn hn8 hg hq hq2
  by_cases h : n > 0
  · have c1 : decide (n > 0) = true := decide_eq_true h
    have wn : IntKind.i64.wrap (n - 1) = n - 1 := wrap_small _ (by omega) (by omega)
    obtain ⟨s, au, hs0⟩ := randomStamp_e hl q (by omega) (by omega)
    have hs := root_cw hs0 rfl rfl rfl rfl
    obtain ⟨⟨w0, w1⟩, hw⟩ := pick_c hl (q + 1 + 1) 3 (by omega) (by omega) (by omega) (by omega)
    obtain ⟨⟨r0, r1⟩, hr⟩ := pick_c hl (q + 1 + 1 + 1) 3 (by omega) (by omega) (by omega) (by omega)
    obtain ⟨⟨e0, e1⟩, he⟩ := pick_c hl (q + 1 + 1 + 1 + 1) 3 (by omega) (by omega) (by omega) (by omega)
    obtain ⟨⟨a0, a1⟩, ha⟩ := pick_c hl (q + 1 + 1 + 1 + 1 + 1) 2 (by omega) (by omega) (by omega) (by omega)
    obtain ⟨⟨b0, b1⟩, hb⟩ := pick_c hl (q + 1 + 1 + 1 + 1 + 1 + 1) 3 (by omega) (by omega) (by omega) (by omega)
    obtain ⟨⟨d0, d1⟩, hd⟩ := pick_c hl (q + 1 + 1 + 1 + 1 + 1 + 1 + 1) 6 (by omega) (by omega) (by omega) (by omega)
    generalize pickV l (q + 1 + 1) 3 = w at *
    generalize pickV l (q + 1 + 1 + 1) 3 = rt at *
    generalize pickV l (q + 1 + 1 + 1 + 1) 3 = en at *
    generalize pickV l (q + 1 + 1 + 1 + 1 + 1) 2 = A at *
    generalize pickV l (q + 1 + 1 + 1 + 1 + 1 + 1) 3 = B at *
    generalize pickV l (q + 1 + 1 + 1 + 1 + 1 + 1 + 1) 6 = S at *
    have wr : IntKind.i64.wrap (1 + rt) = 1 + rt := wrap_small _ (by omega) (by omega)
    have wS : IntKind.i64.wrap (1 + S) = 1 + S := wrap_small _ (by omega) (by omega)
    have hins := fun (a1 a2 a3 a4 : Int) (a5 : Bool) => insertGrant_c g (by omega) a1 a2 a3 a4 a5
    have fin : ∀ (x : Grant) (q' : Int) σ', q < q' → q' ≤ q + 20 → renorm [0, 3, 4] σ' = ⟨ofL [(0, .ptr 0 0), (3, .sl ((insertG g x).map encG)), (4, .int .i64 (n - 1))], [some (rd l q')], 1⟩ → rootsLive σ'.m σ'.st = true → Q1 .normal σ' := by
      intro x q' σ' h1 h2 h3 h4
      have := insertG_len g x
      exact IH (insertG g x, n - 1, q') σ' ⟨by simp only; omega, by simp only; omega, by simp only; omega, by simp only; omega, by simp only; omega⟩ (by simp only; omega) h3 h4
    have fA : A = 0 ∨ A = 1 := by omega
    by_cases hB : B = 0
    · have tB : (B == 0) = true := by simp [hB]
      rcases fA with rfl | rfl <;>
        simp only [go_sem, Nat.reduceEqDiff, ↓reduceIte, reduceCtorEq, Nat.reduceAdd, Nat.reduceSub, Nat.reduceLeDiff, Nat.reduceMul, Nat.reduceLT, Int.reduceLT, Int.reduceLE, Int.reduceNeg, Int.cast_ofNat_Int, Int.reduceToNat, Int.toNat_zero, ne_eq, not_false_eq_true, Int.reduceEq, c1, wn, hs, hw, hr, he, ha, hb, hd, wr, wS, hins, tB, beq_self_eq_true] <;>
        exact fin ⟨⟨_, _⟩, _, _, _⟩ (q + 1 + 1 + 1 + 1 + 1 + 1 + 1 + 1) _ (by omega) (by omega) (by rw [renorm_eq]; simp only [List.map_cons, List.map_nil, go_sem, Nat.reduceEqDiff, ↓reduceIte, reduceCtorEq, Nat.reduceAdd, Nat.reduceSub, Nat.reduceLeDiff, Nat.reduceMul, Nat.reduceLT, Int.reduceLT, Int.reduceLE, Int.reduceNeg]; rfl) rfl
    · have tB : (B == 0) = false := by simp [hB]
      rcases fA with rfl | rfl <;>
        simp only [go_sem, Nat.reduceEqDiff, ↓reduceIte, reduceCtorEq, Nat.reduceAdd, Nat.reduceSub, Nat.reduceLeDiff, Nat.reduceMul, Nat.reduceLT, Int.reduceLT, Int.reduceLE, Int.reduceNeg, Int.cast_ofNat_Int, Int.reduceToNat, Int.toNat_zero, ne_eq, not_false_eq_true, Int.reduceEq, c1, wn, hs, hw, hr, he, ha, hb, hd, wr, wS, hins, tB, beq_self_eq_true] <;>
        exact fin ⟨⟨_, _⟩, _, _, _⟩ (q + 1 + 1 + 1 + 1 + 1 + 1 + 1) _ (by omega) (by omega) (by rw [renorm_eq]; simp only [List.map_cons, List.map_nil, go_sem, Nat.reduceEqDiff, ↓reduceIte, reduceCtorEq, Nat.reduceAdd, Nat.reduceSub, Nat.reduceLeDiff, Nat.reduceMul, Nat.reduceLT, Int.reduceLT, Int.reduceLE, Int.reduceNeg]; rfl) rfl
  · have c1 : decide (n > 0) = false := decide_eq_false h
    have ra := all_encG g
    have m1 : g.length ≤ rowMax := by simp only [rowMax]; omega
    simp only [go_sem, Nat.reduceEqDiff, ↓reduceIte, reduceCtorEq, Nat.reduceAdd, Nat.reduceSub, Nat.reduceLeDiff, Nat.reduceMul, Nat.reduceLT, Int.reduceLT, Int.reduceLE, Int.reduceNeg, c1]
    refine OUT _ _ (by simp) ?_
    simp only [go_sem, Nat.reduceEqDiff, ↓reduceIte, reduceCtorEq, Nat.reduceAdd, Nat.reduceSub, Nat.reduceLeDiff, Nat.reduceMul, Nat.reduceLT, Int.reduceLT, Int.reduceLE, Int.reduceNeg, Int.cast_ofNat_Int, Int.reduceToNat, Int.toNat_zero, ne_eq, not_false_eq_true, Int.reduceEq, ra, m1, List.length_map, beq_self_eq_true]
    refine ⟨_, ⟨g, q, by omega, by omega, by omega, rfl⟩, ?_⟩
    simp only [go_sem, Nat.reduceEqDiff, ↓reduceIte, reduceCtorEq, Nat.reduceAdd, Nat.reduceSub, Nat.reduceLeDiff, Nat.reduceMul, Nat.reduceLT, Int.reduceLT, Int.reduceLE, Int.reduceNeg, Int.cast_ofNat_Int, Int.reduceToNat, Int.toNat_zero, ne_eq, not_false_eq_true, Int.reduceEq]
    rfl
end Go.Vi.Code
