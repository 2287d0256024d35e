/- Vi: calls with a root whose result is new. -/
import Derived.Test.YtcnhokifbgbegaaViWp2
set_option linter.unusedVariables false
set_option linter.unusedSimpArgs false
namespace Go.Vi
theorem root_open {o : Obj} (hf : flatO o = true) : nested [some o] [0] = [] ∧ select [0] [some o] = [some o] ∧ dropAll [some o] [0] = [none] := by
  refine ⟨?_, ?_, rfl⟩
  · unfold nested
    rw [List.flatMap_cons]
    exact (List.append_nil _).trans (flatO_refs hf)
  · simp only [select, List.map_cons, List.map_nil]
    rw [show Store.obj [some o] 0 = some o from rfl, Option.map_some, flatO_renum hf]
/-- A root, and a new slice of one's own. -/
theorem callWith_root_own {call : CallF} {f n e e' : Nat} {o o' : Obj} {rows : List (List D)} (hf : flatO o = true) (hf' : flatO o' = true) (hc : call f [.ptr 0 0] [some o] = some (.osl 1 0 n, [some o', some (.rw e' rows)])) :
    callWith call f [true] (some [e]) [.ptr 0 0] [some o] = some (.osl 1 0 n, [some o', some (.rw e' rows)]) := by
  obtain ⟨h1, h2, h3⟩ := root_open hf
  have hr : rootsOf [true] [.ptr 0 0] = some [0] := rfl
  have ha : ∀ st0, argsOf [0] st0 [true] [.ptr 0 0] = [.ptr 0 0] := fun _ => rfl
  unfold callWith
  simp only [hr, h1, List.append_nil, h2, h3, ha, hc]
  rw [if_pos ⟨rfl, rfl⟩, if_pos ⟨by simp, fun h => by cases h⟩]
  have hb : renum (backF [0] 1 2) 5 (.osl 1 0 n) = .osl 1 0 n := rfl
  have hw : writeBack [0] [none] [some o', some (.rw e' rows)] = [some o', some (.rw e' rows)] := by
    have : writeBack [0] [none] [some o', some (.rw e' rows)] = [(some o').map (Obj.renum (backF [0] 1 2)), some (.rw e' rows)] := rfl
    rw [this, Option.map_some, flatO_renum hf']
  simp only [List.length_cons, List.length_nil, Nat.zero_add, hb, hw, inflate_osl]
theorem wb_one {st : Store} {id : Nat} {o o' : Obj} (ho : st.obj id = some o) (hf' : flatO o' = true) : writeBack [id] (dropAll st [id]) [some o'] = st.set id (some o') := by
  have hidlt : id < st.length := obj_lt ho
  unfold writeBack
  simp only [List.length_cons, List.length_nil, Nat.zero_add, List.drop_succ_cons, List.drop_zero, List.map_nil, List.append_nil]
  apply List.ext_getElem?
  intro j
  rw [overStore_get, List.getElem?_set]
  simp only [Nat.zero_add]
  by_cases hj : j = id
  · subst hj
    simp [List.idxOf?_cons, hidlt, dropAll_len, Store.obj, flatO_renum hf']
  · rw [if_neg (by omega)]
    have hi : List.idxOf? j [id] = none := by simp [List.idxOf?_cons]; omega
    simp only [hi]
    rw [dropAll, overStore_get]
    simp only [Nat.zero_add]
    have hc : ([id] : List Nat).contains j = false := by simp; omega
    simp only [hc]
    simp
/-- A root, and a new slice that nobody will write to. -/
theorem callWith_root_frz {call : CallF} {f id n e' : Nat} {o o' : Obj} {rows : List (List D)} {st : Store} (ho : st.obj id = some o) (hf : flatO o = true) (hf' : flatO o' = true) (hn : rows.length = n) (hc : call f [.ptr 0 0] [some o] = some (.osl 1 0 n, [some o', some (.rw e' rows)])) :
    callWith call f [true] none [.ptr id 0] st = some (.sl rows, st.set id (some o')) := by
  have hroots : rootsOf [true] [.ptr id 0] = some [id] := rfl
  have hnest : nested st [id] = [] := by
    unfold nested
    rw [List.flatMap_cons, ho]
    exact (List.append_nil _).trans (flatO_refs hf)
  have hsel : select [id] st = [some o] := by
    simp only [select, List.map_cons, List.map_nil, ho, Option.map_some]
    rw [flatO_renum hf]
  have hargs : ∀ st0, argsOf [id] st0 [true] [.ptr id 0] = [.ptr 0 0] := by
    intro st0
    have hi : List.idxOf? id [id] = some 0 := by simp [List.idxOf?_cons]
    simp [argsOf, renum, hi]
  unfold callWith
  simp only [hroots, hnest, List.append_nil, hsel, hargs, hc]
  have hal : [id].all (alive st) = true := by simp [alive, ho]
  rw [if_pos ⟨rfl, hal⟩, if_pos ⟨by simp, fun h => by cases h⟩]
  have hre : reach 5 [some o', some (.rw e' rows)] (.osl 1 0 n) = [1] := rfl
  have hd : dropAll [some o', some (.rw e' rows)] [1] = [some o', none] := rfl
  have hl : lend 5 [some o', some (.rw e' rows)] (.osl 1 0 n) = .sl rows := by
    have : lend 5 [some o', some (.rw e' rows)] (.osl 1 0 n) = if 0 + n ≤ rows.length then .sl ((rows.drop 0).take n) else .junk := rfl
    rw [this, if_pos (by omega), List.drop_zero, ← hn, List.take_length]
  simp only [hre, hd, hl]
  have ht : (if ([id] : List Nat) = [] ∨ (([some o', none] : Store).drop [id].length).all (·.isNone) = true then ([some o', none] : Store).take [id].length else [some o', none]) = [some o'] := by simp
  rw [if_pos (by simp)]
  rw [ht, wb_one ho hf']
theorem root_cw {call : CallF} {f : Nat} {ds : List D} {r : D} {o o' : Obj} (hc : call f (.ptr 0 0 :: ds) [some o] = some (r, [some o'])) (hf : flatO o = true) (hds : ds.all flatD = true) (hf' : flatO o' = true) (hr : flatD r = true) (rest : Store) :
    callWith call f [true] none (.ptr 0 0 :: ds) (some o :: rest) = some (r, some o' :: rest) :=
  callWith_root1 (st := some o :: rest) (x := .ptr 0 0) rfl rfl hf hds hc hf' hr
/-- An end with some result of a kind. -/
def FinE (m : Nat) (rs : List VRes) (p : D × Store → Prop) : Ex → St → Prop := fun e σ => ∃ r, p r ∧ Fin m rs r e σ
theorem callL_We (gl : Nat → Option (List D)) (C : Nat → Option VFunc) (prim : CallF) {f : Nat} {F : VFunc} (hF : C f = some F) {as : List D} {st : Store} {p : D × Store → Prop}
    (h : W gl C prim F.body (FinE F.m F.res p) ⟨ofL (params 0 as), st, F.m⟩) : ∃ r, p r ∧ callL gl C prim f as st = some r := by
  obtain ⟨⟨e, σ⟩, hx, r, hp, hy⟩ := h
  exact ⟨r, hp, callL_W gl C prim hF ⟨⟨e, σ⟩, hx, hy⟩⟩
end Go.Vi
