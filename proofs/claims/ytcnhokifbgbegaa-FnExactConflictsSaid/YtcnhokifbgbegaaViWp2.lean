/- Vi: calls that write to what they are handed, and calls whose result is the caller's own. -/
import Derived.Test.YtcnhokifbgbegaaViWp
import Derived.Test.YtcnhokifbgbegaaViMove
set_option linter.unusedVariables false
set_option linter.unusedSimpArgs false
namespace Go.Vi
/-- The result as objects of the caller's own. -/
def OwnR (b : Bool) (es : List Nat) (st : Store) (p : Option (D × Store)) : Option (D × Store) :=
  match p with
  | some (r, st2) => if b = true → bare 5 r = true ∧ st2.all bareO = true then some (inflate es (renum (backF [] st.length st2.length) 5 r, st ++ st2.map fun o => o.map (Obj.renum (backF [] st.length st2.length)))) else none
  | none => none
@[go_sem] theorem callWith_own (call : CallF) (f : Nat) (es : List Nat) (as : List D) (st : Store) : callWith call f [] (some es) as st = OwnR (lendsAny [] as) es st (call f (argsOf [] st [] as) []) := by
  have e0 : dropAll st [] = st := overStore_self _ (fun i o => by simp) st 0
  have e1 : ∀ s2 : Store, writeBack [] st s2 = st ++ s2.map fun o => o.map (Obj.renum (backF [] st.length s2.length)) := fun s2 => by
    unfold writeBack
    rw [overStore_self _ (fun i o => by simp) st 0]
    simp
  unfold callWith
  simp only [rootsOf, nested, List.flatMap_nil, List.append_nil, nodupB, List.all_nil, and_self, if_true, e0, select, List.map_nil]
  unfold OwnR
  split
  · rename_i h; simp [h]
  · rename_i r st2 h
    simp only [h, List.length_nil, Nat.zero_le, true_and, e1]
@[go_sem] theorem OwnR_f (es : List Nat) (st st2 : Store) (r : D) : OwnR false es st (some (r, st2)) = some (inflate es (renum (backF [] st.length st2.length) 5 r, st ++ st2.map fun o => o.map (Obj.renum (backF [] st.length st2.length)))) := by simp [OwnR]
@[go_sem] theorem OwnR_t (es : List Nat) (st st2 : Store) (r : D) : OwnR true es st (some (r, st2)) = if bare 5 r = true ∧ st2.all bareO = true then some (inflate es (renum (backF [] st.length st2.length) 5 r, st ++ st2.map fun o => o.map (Obj.renum (backF [] st.length st2.length)))) else none := by simp [OwnR]
@[go_sem] theorem backF_nil (base n i : Nat) : backF [] base n i = if i < n then some (base + i) else none := by simp [backF]
@[go_sem] theorem oRenum_rw (f : Nat → Option Nat) (e : Nat) (rows : List (List D)) : Obj.renum f (.rw e rows) = .rw e rows := hide rfl
@[go_sem] theorem oRenum_bx (f : Nat → Option Nat) (cs : List D) : Obj.renum f (.bx cs) = .bx (cs.map (renum f 3)) := hide rfl
@[go_sem] theorem inflate_tup (es : List Nat) (vs : List D) (st : Store) : inflate es (.tup vs, st) = (.tup (inflateAll es vs st).1, (inflateAll es vs st).2) := hide rfl
@[go_sem] theorem inflate_osl (es : List Nat) (a b c : Nat) (st : Store) : inflate es (.osl a b c, st) = (.osl a b c, st) := by
  cases es with
  | nil => rfl
  | cons e es => simp only [inflate, inflate1]; split <;> rfl
@[go_sem] theorem inflate_ptr (es : List Nat) (a b : Nat) (st : Store) : inflate es (.ptr a b, st) = (.ptr a b, st) := by
  cases es with
  | nil => rfl
  | cons e es => simp only [inflate, inflate1]; split <;> rfl
@[go_sem] theorem inflate_nsl (e : Nat) (es : List Nat) (st : Store) : inflate (e :: es) (.nsl, st) = if e = 0 then (.nsl, st) else (.osl st.length 0 0, st ++ [some (.rw e [])]) := hide rfl
@[go_sem] theorem inflateAll_nil (ds : List D) (st : Store) : inflateAll [] ds st = (ds, st) := hide rfl
@[go_sem] theorem inflateAll_end (es : List Nat) (st : Store) : inflateAll es [] st = ([], st) := by cases es <;> rfl
@[go_sem] theorem inflateAll_bool (e : Nat) (es : List Nat) (b : Bool) (ds : List D) (st : Store) : inflateAll (e :: es) (.bool b :: ds) st = (.bool b :: (inflateAll es ds st).1, (inflateAll es ds st).2) := by
  simp only [inflateAll, inflate1]; split <;> rfl
@[go_sem] theorem inflateAll_osl (e : Nat) (es : List Nat) (a b c : Nat) (ds : List D) (st : Store) : inflateAll (e :: es) (.osl a b c :: ds) st = (.osl a b c :: (inflateAll es ds st).1, (inflateAll es ds st).2) := by
  simp only [inflateAll, inflate1]; split <;> rfl
@[go_sem] theorem inflateAll_nsl (e : Nat) (es : List Nat) (ds : List D) (st : Store) : inflateAll (e :: es) (.nsl :: ds) st = if e = 0 then (.nsl :: (inflateAll es ds st).1, (inflateAll es ds st).2) else (.osl st.length 0 0 :: (inflateAll es ds (st ++ [some (.rw e [])])).1, (inflateAll es ds (st ++ [some (.rw e [])])).2) := by
  simp only [inflateAll, inflate1]; split <;> rfl

@[go_sem] theorem lenD_sl (rows : List (List D)) : lenD (.sl rows) = some rows.length := hide rfl
@[go_sem] theorem lenD_osl (a b c : Nat) : lenD (.osl a b c) = some c := hide rfl
@[go_sem] theorem lenD_nsl : lenD .nsl = some 0 := hide rfl
/-- A loop's head, from the values kept (so that they are looked up once). -/
def renV (keep : List Nat) (vs : List D) (st : Store) (m : Nat) : St := { env := ofL (keep.zip (vs.map (renum (fun i => (orderOf m st vs).idxOf? i) 5))), st := select (orderOf m st vs) st, m := m }
theorem renorm_eq (keep : List Nat) (env : Env) (st : Store) (m : Nat) : renorm keep ⟨env, st, m⟩ = renV keep (keep.map env) st m := rfl
theorem renorm_of {keep : List Nat} {env : Env} {st : Store} {m : Nat} {vs : List D} {σ : St} (h : keep.map env = vs) (h2 : renV keep vs st m = σ) : renorm keep ⟨env, st, m⟩ = σ := by rw [renorm_eq, h, h2]

/-! ### One root -/
/-- Names no object, and nothing that 'lend' or a new number would change. -/
def flat1 : D → Bool
  | .int _ _ | .bool _ | .str _ | .sl _ => true
  | _ => false
def flatD : D → Bool
  | .agg cs => cs.all flat1
  | .tup cs => cs.all fun | .agg cs => cs.all flat1 | d => flat1 d
  | d => flat1 d
def flatO : Obj → Bool
  | .bx cs => cs.all flat1
  | .rw _ _ => true
theorem map_same {α : Type} {f : α → α} : ∀ {l : List α}, (∀ x ∈ l, f x = x) → l.map f = l
  | [], _ => rfl
  | x :: l, h => by rw [List.map_cons, h x (by simp), map_same fun y hy => h y (by simp [hy])]
theorem flat1_refs {d : D} (h : flat1 d = true) (n : Nat) : refs n d = [] := by cases n <;> cases d <;> simp [flat1] at h <;> rfl
theorem flat1_lend {d : D} (h : flat1 d = true) (n : Nat) (st : Store) : lend (n + 1) st d = d := by cases d <;> simp [flat1] at h <;> rfl
theorem flat1_renum {d : D} (h : flat1 d = true) (n : Nat) (f : Nat → Option Nat) : renum f (n + 1) d = d := by cases d <;> simp [flat1] at h <;> rfl
theorem flat1_reach {d : D} (h : flat1 d = true) (n : Nat) (st : Store) : reach n st d = [] := by cases n <;> cases d <;> simp [flat1] at h <;> rfl
theorem flatMap_nil' {α β : Type} {f : α → List β} {l : List α} (h : ∀ x ∈ l, f x = []) : l.flatMap f = [] := by
  induction l with
  | nil => rfl
  | cons x l ih => rw [List.flatMap_cons, h x (by simp), ih fun y hy => h y (by simp [hy])]; rfl
theorem flatD_refs {d : D} (h : flatD d = true) : refs 5 d = [] := by
  cases d with
  | agg cs =>
    simp only [flatD, List.all_eq_true] at h
    exact flatMap_nil' fun x hx => flat1_refs (h x hx) 4
  | tup cs =>
    simp only [flatD, List.all_eq_true] at h
    refine flatMap_nil' fun x hx => ?_
    have := h x hx
    cases x with
    | agg cs =>
      simp only [List.all_eq_true] at this
      exact flatMap_nil' fun y hy => flat1_refs (this y hy) 3
    | _ => first | rfl | (simp [flat1] at this)
  | _ => first | rfl | (simp [flatD, flat1] at h)
theorem flatD_reach {d : D} (h : flatD d = true) (st : Store) : reach 5 st d = [] := by
  cases d with
  | agg cs =>
    simp only [flatD, List.all_eq_true] at h
    exact flatMap_nil' fun x hx => flat1_reach (h x hx) 4 st
  | tup cs =>
    simp only [flatD, List.all_eq_true] at h
    refine flatMap_nil' fun x hx => ?_
    have := h x hx
    cases x with
    | agg cs =>
      simp only [List.all_eq_true] at this
      exact flatMap_nil' fun y hy => flat1_reach (this y hy) 3 st
    | _ => first | rfl | (simp [flat1] at this)
  | _ => first | rfl | (simp [flatD, flat1] at h)
theorem flatD_lend {d : D} (h : flatD d = true) (st : Store) : lend 5 st d = d := by
  cases d with
  | agg cs =>
    simp only [flatD, List.all_eq_true] at h
    exact congrArg D.agg (map_same fun x hx => flat1_lend (h x hx) 3 st)
  | tup cs =>
    simp only [flatD, List.all_eq_true] at h
    refine congrArg D.tup (map_same fun x hx => ?_)
    have := h x hx
    cases x with
    | agg cs =>
      simp only [List.all_eq_true] at this
      exact congrArg D.agg (map_same fun y hy => flat1_lend (this y hy) 2 st)
    | _ => first | rfl | (simp [flat1] at this)
  | _ => first | rfl | (simp [flatD, flat1] at h)
theorem flatO_refs {o : Obj} (h : flatO o = true) : (match some o with | some (.bx cs) => cs.flatMap (refs 3) | _ => ([] : List Nat)) = [] := by
  cases o with
  | bx cs =>
    simp only [flatO, List.all_eq_true] at h
    exact flatMap_nil' fun x hx => flat1_refs (h x hx) 3
  | rw e rows => rfl
theorem flatO_renum {o : Obj} (h : flatO o = true) (f : Nat → Option Nat) : o.renum f = o := by
  cases o with
  | bx cs =>
    simp only [flatO, List.all_eq_true] at h
    exact congrArg Obj.bx (map_same fun x hx => flat1_renum (h x hx) 2 f)
  | rw e rows => rfl

def reroot : D → D
  | .ptr _ o => .ptr 0 o
  | .osl _ o n => .osl 0 o n
  | d => d
theorem argsOf_flat {ord : List Nat} {st0 : Store} : ∀ {ds : List D}, ds.all flatD = true → argsOf ord st0 [] ds = ds
  | [], _ => rfl
  | d :: ds, h => by
    simp only [List.all_cons, Bool.and_eq_true] at h
    simp only [argsOf]
    rw [flatD_lend h.1, argsOf_flat h.2]
theorem lendsAny_flat : ∀ {ds : List D}, ds.all flatD = true → lendsAny [] ds = false
  | [], _ => rfl
  | d :: ds, h => by
    simp only [List.all_cons, Bool.and_eq_true] at h
    simp only [lendsAny]
    rw [flatD_refs h.1, lendsAny_flat h.2]; rfl
/-- A call that writes to one object, the rest plain values. -/
theorem callWith_root1 {call : CallF} {f id : Nat} {x r : D} {o o' : Obj} {ds : List D} {st : Store} (hx : rootId x = some id) (ho : st.obj id = some o) (hf : flatO o = true) (hds : ds.all flatD = true)
    (hc : call f (reroot x :: ds) [some o] = some (r, [some o'])) (hf' : flatO o' = true) (hr : flatD r = true) : callWith call f [true] none (x :: ds) st = some (r, st.set id (some o')) := by
  have hroots : rootsOf [true] (x :: ds) = some [id] := by simp [rootsOf, hx]
  have hnest : nested st [id] = [] := by
    unfold nested
    rw [List.flatMap_cons, ho]
    exact (List.append_nil _).trans (flatO_refs hf)
  have hsel : select [id] st = [some o] := by
    simp only [select, List.map_cons, List.map_nil, ho, Option.map_some]
    rw [flatO_renum hf]
  have hargs : ∀ st0, argsOf [id] st0 [true] (x :: ds) = reroot x :: ds := by
    intro st0
    simp only [argsOf]
    rw [argsOf_flat hds]
    have hi : List.idxOf? id [id] = some 0 := by simp [List.idxOf?_cons]
    have hxx : x = .ptr id 0 ∨ ∃ n, x = .osl id 0 n := by
      unfold rootId at hx
      split at hx
      · injection hx with hx; subst hx; exact .inl rfl
      · injection hx with hx; subst hx; exact .inr ⟨_, rfl⟩
      · cases hx
    rcases hxx with rfl | ⟨n, rfl⟩ <;> simp [renum, reroot, hi]
  unfold callWith
  simp only [hroots, hnest, List.append_nil, hsel, hargs, hc]
  have hal : [id].all (alive st) = true := by simp [alive, ho]
  rw [if_pos ⟨rfl, hal⟩]
  have hlen : [id].length ≤ [some o'].length := Nat.le_refl _
  have hl : lendsAny [true] (x :: ds) = true → bare 5 r = true ∧ [some o'].all bareO = true := by
    simp only [lendsAny]
    rw [lendsAny_flat hds]
    intro h; cases h
  rw [if_pos ⟨hlen, hl⟩]
  rw [flatD_reach hr]
  have hd0 : dropAll [some o'] [] = [some o'] := overStore_self _ (fun i o => by simp) _ 0
  simp only [hd0]
  rw [if_pos (by simp)]
  rw [flatD_lend hr]
  have htk : (if ([id] : List Nat) = [] ∨ (([some o'] : Store).drop [id].length).all (·.isNone) = true then ([some o'] : Store).take [id].length else [some o']) = [some o'] := by simp
  rw [htk]
  have hidlt : id < st.length := obj_lt ho
  congr 2
  unfold writeBack
  simp only [List.length_cons, List.length_nil, Nat.zero_add, List.drop_succ_cons, List.drop_zero, List.map_nil, List.append_nil]
  apply List.ext_getElem?
  intro j
  rw [overStore_get, List.getElem?_set]
  simp only [Nat.zero_add]
  by_cases hj : j = id
  · subst hj
    simp [List.idxOf?_cons, hidlt, dropAll_len, Store.obj, flatO_renum hf']
  · rw [if_neg (by omega)]
    have hi : List.idxOf? j [id] = none := by simp [List.idxOf?_cons]; omega
    simp only [hi]
    rw [dropAll, overStore_get]
    simp only [Nat.zero_add]
    have hc : ([id] : List Nat).contains j = false := by simp; omega
    simp only [hc]
    simp
end Go.Vi
