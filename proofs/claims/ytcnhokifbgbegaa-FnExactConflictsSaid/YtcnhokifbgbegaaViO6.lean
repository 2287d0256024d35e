/- Contracts: SameHistory, LogContains; their laws. -/
import Derived.Test.YtcnhokifbgbegaaViO5
set_option linter.unusedSimpArgs false
set_option linter.unusedVariables false
namespace Go.Vi.Code
section
variable (a1 a2 a3 a4 a5 a6 a7 a8 a9 b1 c1 c2 c3 c4 c5 c6 c7 c8 c9 d1 : Int) (b3 d3 : Bool) (b4 d4 : List UInt8)
theorem eqO_t : (a1 == c1 && (a2 == c2 && (a3 == c3 && (a4 == c4 && (a5 == c5 && (a6 == c6 && (a7 == c7 && (a8 == c8 && (a9 == c9 && (b1 == d1 && (b3 == d3 && (b4 == d4 && true)))))))))))) =
    decide ((⟨⟨a1, a2⟩, a3, ⟨a4, a5⟩, ⟨a6, a7⟩, ⟨a8, a9⟩, b1, b3, b4⟩ : Op) = ⟨⟨c1, c2⟩, c3, ⟨c4, c5⟩, ⟨c6, c7⟩, ⟨c8, c9⟩, d1, d3, d4⟩) := by
  rw [Bool.eq_iff_iff]
  simp only [Bool.and_eq_true, beq_iff_eq, decide_eq_true_eq, Op.mk.injEq, Stamp.mk.injEq, and_true, and_assoc]
theorem eqO_n : (a1 == c1 && (a2 == c2 && (a3 == c3 && (a4 == c4 && (a5 == c5 && (a6 == c6 && (a7 == c7 && (a8 == c8 && (a9 == c9 && (b1 == d1 && (b3 == d3 && (b4 == d4)))))))))))) =
    decide ((⟨⟨a1, a2⟩, a3, ⟨a4, a5⟩, ⟨a6, a7⟩, ⟨a8, a9⟩, b1, b3, b4⟩ : Op) = ⟨⟨c1, c2⟩, c3, ⟨c4, c5⟩, ⟨c6, c7⟩, ⟨c8, c9⟩, d1, d3, d4⟩) := by
  rw [← eqO_t, Bool.and_true]
end
def inL (l : List Op) (o : Op) : Bool := match fidx l o.id with | some k => decide (l[k]? = some o) | none => false
def sameO (l : List Op) (o : Op) : Bool := match fidx l o.id with | some k => decide (l[k]? = some o) | none => true
theorem neg1 : decide ((-1 : Int) ≥ 0) = false := by decide
theorem neg1' : decide ((-1 : Int) < 0) = true := by decide
theorem isIn_c (l : List Op) (hl : l.length ≤ 1048576) (a1 a2 a3 a4 a5 a6 a7 a8 a9 b1 : Int) (b3 : Bool) (b4 : List UInt8) : CL 67 [.agg [.int .i64 a1, .int .i64 a2, .int .i64 a3, .int .i64 a4, .int .i64 a5, .int .i64 a6, .int .i64 a7, .int .i64 a8, .int .i64 a9, .int .i64 b1, .bool b3, .str b4], .sl (l.map encO)] [] =
    some (.bool (inL l ⟨⟨a1, a2⟩, a3, ⟨a4, a5⟩, ⟨a6, a7⟩, ⟨a8, a9⟩, b1, b3, b4⟩), []) := by
  refine callL_W _ _ _ (F := v67) rfl ?_
  have ho := opAt_c l hl a1 a2
  unfold inL
  simp only
  cases hf : fidx l ⟨a1, a2⟩ with
  | none =>
    rw [hf, show fI none = -1 from rfl] at ho
    simp only [v67, go_sem, Nat.reduceEqDiff, ↓reduceIte, reduceCtorEq, Nat.reduceAdd, Nat.reduceSub, Nat.reduceLeDiff, Nat.reduceMul, Nat.reduceLT, Int.reduceLT, Int.reduceLE, Int.reduceNeg, Int.cast_ofNat_Int, Int.reduceToNat, Int.toNat_zero, ne_eq, not_false_eq_true, Int.reduceEq, ho, neg1]
  | some k =>
    have hk := fidx_lt hf
    rw [hf, show fI (some k) = (k : Int) from rfl] at ho
    have d : decide ((k : Int) ≥ 0) = true := decide_eq_true (by omega)
    have ck : (0 : Int) ≤ k := by omega
    have hr : (List.map encO l)[k]? = some (encO l[k]) := by simp [hk]
    have hg : l[k]? = some l[k] := List.getElem?_eq_getElem hk
    generalize l[k] = g at hr hg
    obtain ⟨⟨s1, s2⟩, kd, ⟨t1, t2⟩, ⟨f1, f2⟩, ⟨p1, p2⟩, vl, en, tx⟩ := g
    simp only [v67, go_sem, Nat.reduceEqDiff, ↓reduceIte, reduceCtorEq, Nat.reduceAdd, Nat.reduceSub, Nat.reduceLeDiff, Nat.reduceMul, Nat.reduceLT, Int.reduceLT, Int.reduceLE, Int.reduceNeg, Int.cast_ofNat_Int, Int.reduceToNat, Int.toNat_zero, ne_eq, not_false_eq_true, Int.reduceEq, ho, d, ck, hr, encO, eqO_t, eqO_n]
    simp only [hg, Option.some.injEq]
theorem same_step (l : List Op) (o : Op) (k : Nat) (hf : fidx l o.id = some k) (g : Op) (hg : l[k]? = some g) : sameO l o = decide (g = o) := by
  unfold sameO; rw [hf]; simp only [hg, Option.some.injEq]
theorem in_step (l : List Op) (o : Op) (k : Nat) (hf : fidx l o.id = some k) (g : Op) (hg : l[k]? = some g) : inL l o = decide (g = o) := by
  unfold inL; rw [hf]; simp only [hg, Option.some.injEq]
def sameH (a b : List Op) : Bool := validLog a && (validLog b && a.all (sameO b))
def contH (a b : List Op) : Bool := validLog a && (validLog b && b.all (inL a))
abbrev kO : Bool × List Ty := (false, [.sl [.int .i64, .int .i64, .int .i64, .int .i64, .int .i64, .int .i64, .int .i64, .int .i64, .int .i64, .int .i64, .bool, .str]])
theorem arg_ops {d : D} (h : ArgTy kO d) : ∃ l : List Op, d = .sl (l.map encO) ∧ l.length ≤ 9223372036854775807 ∧ ∀ o ∈ l, o.text.length ≤ 9223372036854775807 := by
  obtain ⟨rows, rfl, hl, hr, h⟩ := arg_rows h
  have one : ∀ r ∈ rows, ∃ g : {o : Op // o.text.length ≤ 9223372036854775807}, r = encO g.1 := by
    intro r hm
    have h1 := hr r hm
    have h2 := h r hm
    obtain ⟨x1, x2, x3, x4, x5, x6, x7, x8, x9, y1, y2, y3, rfl⟩ : ∃ x1 x2 x3 x4 x5 x6 x7 x8 x9 y1 y2 y3, r = [x1, x2, x3, x4, x5, x6, x7, x8, x9, y1, y2, y3] := by
      match r, h1 with
      | [x1, x2, x3, x4, x5, x6, x7, x8, x9, y1, y2, y3], _ => exact ⟨x1, x2, x3, x4, x5, x6, x7, x8, x9, y1, y2, y3, rfl⟩
    have z1 := h2 0 _ _ rfl rfl
    have z2 := h2 1 _ _ rfl rfl
    have z3 := h2 2 _ _ rfl rfl
    have z4 := h2 3 _ _ rfl rfl
    have z5 := h2 4 _ _ rfl rfl
    have z6 := h2 5 _ _ rfl rfl
    have z7 := h2 6 _ _ rfl rfl
    have z8 := h2 7 _ _ rfl rfl
    have z9 := h2 8 _ _ rfl rfl
    have z10 := h2 9 _ _ rfl rfl
    have z11 := h2 10 _ _ rfl rfl
    have z12 := h2 11 _ _ rfl rfl
    cases z1; cases z2; cases z3; cases z4; cases z5; cases z6; cases z7; cases z8; cases z9; cases z10; cases z11
    cases z12 with
    | str s hs => exact ⟨⟨⟨⟨_, _⟩, _, ⟨_, _⟩, ⟨_, _⟩, ⟨_, _⟩, _, _, s⟩, Nat.le_trans hs (by decide)⟩, rfl⟩
  obtain ⟨l, rfl⟩ := map_of (enc := fun g : {o : Op // o.text.length ≤ 9223372036854775807} => encO g.1) one
  refine ⟨l.map (·.1), by rw [List.map_map]; rfl, by simpa using Nat.le_trans hl (by decide), fun o ho => ?_⟩
  obtain ⟨g, _, rfl⟩ := List.mem_map.1 ho
  exact g.2
end Go.Vi.Code
