/- Contracts: rights. -/
import Derived.Test.YtcnhokifbgbegaaViG4
set_option linter.unusedSimpArgs false
set_option linter.unusedVariables false
namespace Go.Vi.Code
structure R3 where
  a : Int
  b : Int
  c : Int
  deriving DecidableEq
def R3.get (r : R3) (i : Int) : Int := if i = 0 then r.a else if i = 1 then r.b else r.c
def R3.put (r : R3) (i n : Int) : R3 := if i = 0 then ⟨n, r.b, r.c⟩ else if i = 1 then ⟨r.a, n, r.c⟩ else ⟨r.a, r.b, n⟩
theorem R3.eta (r : R3) : R3.mk r.a r.b r.c = r := rfl
def first : R3 := ⟨3, 0, 0⟩
def takeOk (r : R3) (g : Grant) : Bool := decide (r.get g.id.author = 3 ∧ g.who ≠ 0)
def takeR (r : R3) (g : Grant) : R3 := if takeOk r g = true then r.put g.who (if g.enable = true then max (r.get g.who) g.right else min (r.get g.who) (g.right - 1)) else r
def cells3 (r : R3) : List D := [.int .i64 r.a, .int .i64 r.b, .int .i64 r.c]
def rows3 (r : R3) : List (List D) := [[.int .i64 r.a], [.int .i64 r.b], [.int .i64 r.c]]

theorem firstRights_c : CL 83 [] [] = some (.agg [.int .i64 3, .int .i64 0, .int .i64 0], []) := by
  refine callL_W _ _ _ (F := v83) rfl ?_
  simp only [v83, go_sem, Nat.reduceEqDiff, ↓reduceIte, reduceCtorEq, Nat.reduceAdd, Nat.reduceSub, Nat.reduceLeDiff, Nat.reduceMul, Nat.reduceLT, Int.reduceLT, Int.reduceLE, Int.reduceNeg, Int.cast_ofNat_Int, Int.reduceToNat, Int.toNat_zero, ne_eq, not_false_eq_true, Int.reduceEq]
  rfl
theorem grantOk_spec {g : Grant} (h : grantOk g = true) : (1 ≤ g.id.seq ∧ g.id.seq ≤ 99) ∧ (g.id.author = 0 ∨ g.id.author = 1 ∨ g.id.author = 2) ∧ (g.who = 0 ∨ g.who = 1 ∨ g.who = 2) ∧ 1 ≤ g.right ∧ g.right ≤ 3 := by
  simp only [grantOk, validStamp, isAuthor, Bool.and_eq_true, decide_eq_true_eq] at h
  omega
@[go_sem] theorem fin_r3 (x y z : Int) (rest : Store) (b : Bool) : finishO 1 (some (.bx [.int .i64 x, .int .i64 y, .int .i64 z]) :: rest) (.bool b) = some (.bool b, [some (.bx [.int .i64 x, .int .i64 y, .int .i64 z])]) := rfl
theorem take_c (r1 r2 r3 a1 a2 a3 a4 : Int) (a5 : Bool) (h : grantOk ⟨⟨a1, a2⟩, a3, a4, a5⟩ = true) :
    CL 84 [.ptr 0 0, .agg [.int .i64 a1, .int .i64 a2, .int .i64 a3, .int .i64 a4, .bool a5]] [some (.bx [.int .i64 r1, .int .i64 r2, .int .i64 r3])] =
      some (.bool (takeOk ⟨r1, r2, r3⟩ ⟨⟨a1, a2⟩, a3, a4, a5⟩), [some (.bx (cells3 (takeR ⟨r1, r2, r3⟩ ⟨⟨a1, a2⟩, a3, a4, a5⟩)))]) := by
  obtain ⟨_, h1, h2, h3, h4⟩ := grantOk_spec h
  simp only at h1 h2 h3 h4
  have hw : IntKind.i64.wrap (a4 - 1) = a4 - 1 := wrap_small _ (by omega) (by omega)
  refine callL_W _ _ _ (F := v84) rfl ?_
  rcases h1 with rfl | rfl | rfl <;> rcases h2 with rfl | rfl | rfl <;> cases a5 <;>
    simp only [v84, go_sem, Nat.reduceEqDiff, ↓reduceIte, reduceCtorEq, Nat.reduceAdd, Nat.reduceSub, Nat.reduceLeDiff, Nat.reduceMul, Nat.reduceLT, Int.reduceLT, Int.reduceLE, Int.reduceNeg, Int.cast_ofNat_Int, Int.reduceToNat, Int.toNat_zero, ne_eq, not_false_eq_true, Int.reduceEq, hw] <;> simp only [cells3, takeR, takeOk, R3.get, R3.put, Int.max_def, Int.min_def] <;> grind
theorem valid_spec {l : List Grant} (h : validGrants l = true) : (∀ g ∈ l, grantOk g = true) ∧ l.Pairwise (fun a b => stampLess a.id b.id = true) ∧ l.length ≤ 20 := by
  simp only [validGrants, Bool.and_eq_true, List.all_eq_true, List.mem_range, decide_eq_true_eq] at h
  obtain ⟨h, hl⟩ := h
  refine ⟨fun g hg => ?_, ?_, hl⟩
  · obtain ⟨i, hi, rfl⟩ := List.getElem_of_mem hg
    have := h i hi
    simp only [grantAt, List.getElem?_eq_getElem hi, Bool.and_eq_true] at this
    exact this.1
  · have step : ∀ i (hi : i + 1 < l.length), stampLess l[i].id l[i + 1].id = true := by
      intro i hi
      have := h (i + 1) hi
      simp only [grantAt, List.getElem?_eq_getElem hi, List.getElem?_eq_getElem (show i < l.length by omega), Bool.and_eq_true] at this
      exact this.2
    rw [List.pairwise_iff_getElem]
    intro i j hi hj hij
    obtain ⟨d, rfl⟩ : ∃ d, j = i + 1 + d := ⟨j - i - 1, by omega⟩
    induction d with
    | zero => exact step i hj
    | succ d ih =>
      have h1 := ih (by omega) (by omega)
      have h2 := step (i + 1 + d) hj
      simp only [stampLess, decide_eq_true_eq] at h1 h2 ⊢
      have e : i + 1 + (d + 1) = i + 1 + d + 1 := by omega
      simp only [e]
      omega
def rightsAt (l : List Grant) (t : Stamp) : R3 := (l.filter fun g => stampLess g.id t).foldl takeR first
def rightAt (l : List Grant) (who : Int) (t : Stamp) : Int := if validGrants l = true ∧ isAuthor who = true then (rightsAt l t).get who else 0
theorem rightsAt_take (l : List Grant) (t : Stamp) (i : Nat) (h : i < l.length) : rightsAt (l.take (i + 1)) t = if stampLess l[i].id t = true then takeR (rightsAt (l.take i) t) l[i] else rightsAt (l.take i) t := by
  unfold rightsAt
  rw [List.take_add_one, List.getElem?_eq_getElem h, Option.toList_some, List.filter_append, List.foldl_append]
  by_cases hs : stampLess l[i].id t = true <;> simp [List.filter_cons, hs]
theorem author_cases {n : Int} (h : isAuthor n = true) : n = 0 ∨ n = 1 ∨ n = 2 := by
  simp only [isAuthor, decide_eq_true_eq] at h
  omega

theorem rightAt_c (l : List Grant) (hl : l.length ≤ 1048576) (who a1 a2 : Int) : CL 52 [.sl (l.map encG), .int .i64 who, .agg [.int .i64 a1, .int .i64 a2]] [] = some (.int .i64 (rightAt l who ⟨a1, a2⟩), []) := by
  refine callL_W _ _ _ (F := v52) rfl ?_
  have hvc := validGrants_c l hl
  by_cases hv : validGrants l = true
  case neg =>
    have hv' : validGrants l = false := by simpa using hv
    simp only [v52, go_sem, Nat.reduceEqDiff, ↓reduceIte, reduceCtorEq, Nat.reduceAdd, Nat.reduceSub, Nat.reduceLeDiff, Nat.reduceMul, Nat.reduceLT, Int.reduceLT, Int.reduceLE, Int.reduceNeg, hvc, hv', Bool.not_false]
    simp only [rightAt, hv', Bool.false_eq_true, false_and, if_false]
  by_cases ha : isAuthor who = true
  case neg =>
    have ha' : isAuthor who = false := by simpa using ha
    simp only [v52, go_sem, Nat.reduceEqDiff, ↓reduceIte, reduceCtorEq, Nat.reduceAdd, Nat.reduceSub, Nat.reduceLeDiff, Nat.reduceMul, Nat.reduceLT, Int.reduceLT, Int.reduceLE, Int.reduceNeg, hvc, hv, isAuthor_c, ha', Bool.not_false, Bool.not_true]
    simp only [rightAt, ha', Bool.false_eq_true, and_false, if_false]
  obtain ⟨hok, _, _⟩ := valid_spec hv
  simp only [v52, go_sem, Nat.reduceEqDiff, ↓reduceIte, reduceCtorEq, Nat.reduceAdd, Nat.reduceSub, Nat.reduceLeDiff, Nat.reduceMul, Nat.reduceLT, Int.reduceLT, Int.reduceLE, Int.reduceNeg, hvc, hv, isAuthor_c, ha, Bool.not_true, firstRights_c]
  refine W_rounds (T := Nat) (fun i => ⟨ofL [(1, .int .i64 who), (5, .ptr 0 0), (7, .ptr 1 0), (19, .sl (l.map encG)), (20, .int .i64 l.length), (21, .int .i64 i)], [some (.bx [.int .i64 a1, .int .i64 a2]), some (.bx (cells3 (rightsAt (l.take i) ⟨a1, a2⟩)))], 0⟩)
    (fun i => i ≤ l.length) (fun i => l.length - i) 0 rfl rfl (Nat.zero_le _) ?_
  rintro i hi Q1 IH OUT
  by_cases h : i < l.length
  · have c1 : decide ((i : Int) < l.length) = true := decide_eq_true (by omega)
    have c2 : (0 : Int) ≤ i := by omega
    have hr : (List.map encG l)[i]? = some (encG l[i]) := by simp [h]
    have hw : IntKind.i64.wrap ((i : Int) + 1) = ((i + 1 : Nat) : Int) := by rw [wrap_small _ (by omega) (by omega)]; rfl
    have ht := rightsAt_take l ⟨a1, a2⟩ i h
    have hg : grantOk l[i] = true := hok _ (List.getElem_mem h)
    rcases hgi : l[i] with ⟨⟨s, au⟩, w, rt, en⟩
    rw [hgi] at hr ht hg
    by_cases hs : stampLess ⟨s, au⟩ ⟨a1, a2⟩ = true
    · have hcw := callWith_root1 (call := CL) (x := .ptr 1 0) (st := [some (.bx [.int .i64 a1, .int .i64 a2]), some (.bx (cells3 (rightsAt (l.take i) ⟨a1, a2⟩))), some (.bx [.int .i64 s, .int .i64 au, .int .i64 w, .int .i64 rt, .bool en])]) rfl rfl rfl rfl (take_c _ _ _ _ _ _ _ _ hg) rfl rfl
      rw [if_pos hs] at ht
      simp only [go_sem, Nat.reduceEqDiff, ↓reduceIte, reduceCtorEq, Nat.reduceAdd, Nat.reduceSub, Nat.reduceLeDiff, Nat.reduceMul, Nat.reduceLT, Int.reduceLT, Int.reduceLE, Int.reduceNeg, c1, c2, hr, hw, encG, stampLess_c, hs, hcw]
      exact IH (i + 1) _ (by omega) (by omega) (by rw [ht]; rfl) rfl
    · have hs' : stampLess ⟨s, au⟩ ⟨a1, a2⟩ = false := by simpa using hs
      rw [if_neg hs] at ht
      simp only [go_sem, Nat.reduceEqDiff, ↓reduceIte, reduceCtorEq, Nat.reduceAdd, Nat.reduceSub, Nat.reduceLeDiff, Nat.reduceMul, Nat.reduceLT, Int.reduceLT, Int.reduceLE, Int.reduceNeg, c1, c2, hr, hw, encG, stampLess_c, hs']
      exact IH (i + 1) _ (by omega) (by omega) (by rw [ht]; rfl) rfl
  · have c1 : decide ((i : Int) < l.length) = false := decide_eq_false (by omega)
    have hil : i = l.length := by omega
    simp only [go_sem, Nat.reduceEqDiff, ↓reduceIte, reduceCtorEq, Nat.reduceAdd, Nat.reduceSub, Nat.reduceLeDiff, Nat.reduceMul, Nat.reduceLT, Int.reduceLT, Int.reduceLE, Int.reduceNeg, c1]
    have hf : rightAt l who ⟨a1, a2⟩ = (rightsAt (l.take i) ⟨a1, a2⟩).get who := by
      rw [hil, List.take_length]
      simp only [rightAt, hv, ha, and_self, if_true]
    rcases author_cases ha with rfl | rfl | rfl
    all_goals
      refine OUT _ _ (by simp) ?_
      simp only [go_sem, Nat.reduceEqDiff, ↓reduceIte, reduceCtorEq, Nat.reduceAdd, Nat.reduceSub, Nat.reduceLeDiff, Nat.reduceMul, Nat.reduceLT, Int.reduceLT, Int.reduceLE, Int.reduceNeg, Int.cast_ofNat_Int, Int.reduceToNat, Int.toNat_zero, ne_eq, not_false_eq_true, Int.reduceEq, cells3]
      rw [hf]; rfl
end Go.Vi.Code
