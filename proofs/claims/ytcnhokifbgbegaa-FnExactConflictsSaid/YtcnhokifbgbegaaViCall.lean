/- Vi: calls: what a callee gets, what it leaves, what the caller has then. -/
import Derived.Test.YtcnhokifbgbegaaViMove
set_option linter.unusedSimpArgs false
set_option linter.unusedVariables false
namespace Go.Vi
open Go.RowKit
variable {P : Program} {loc loc' loc2 : Locs} {I I1 I3 : Nat → Prop} {st st0 s3 : Store} {w w' : World}

def RepAll (I : Nat → Prop) (w : World) (loc : Locs) (vs : List Value) (ds : List D) : Prop :=
  vs.length = ds.length ∧ ∀ (i : Nat) (v : Value) (d : D), vs[i]? = some v → ds[i]? = some d → Rep I w loc v d

/-- Behind a call: the value, the store, the roots where they were. -/
def After (P : Program) (loc : Locs) (I : Nat → Prop) (st : Store) (w : World) (m : Nat) (r : D) (st2 : Store) (e : Ending) (w' : World) : Prop :=
  ∃ v loc' I', e = .returned v ∧ Rep I' w' loc' v r ∧ Later P loc I st w loc' I' st2 w' ∧ ∀ i L, i < m → loc i = some L → loc' i = some L

def CallOk (P : Program) (gl : Nat → Option (List D)) (M : Nat → Nat) (call : Nat → List D → Store → Option (D × Store)) : Prop :=
  ∀ f as st r st2, call f as st = some (r, st2) → ∀ (loc : Locs) (I : Nat → Prop) (w : World) (vs : List Value), Sim P loc I st w → GlobRep gl I w → RepAll I w loc vs as → Calls P f vs.toArray w (After P loc I st w (M f) r st2)

theorem GlobRep.mono {gl : Nat → Option (List D)} (h : GlobRep gl I w) (hI : ∀ b, I b → I1 b) (hw : ∀ b, I b → w'.heap[b]? = w.heap[b]?) : GlobRep gl I1 w' := fun g cs hg => (h g cs hg).mono hI hw fun _ _ h => h

/-! ### The arguments -/
theorem refs_reach : ∀ (n : Nat) (st : Store) (d : D), refs n d = [] → reach n st d = []
  | 0, _, _, _ => rfl
  | n + 1, st, d, h => by
    cases d with
    | agg cs =>
      simp only [refs, List.flatMap_eq_nil_iff] at h
      simp only [reach, List.flatMap_eq_nil_iff]
      exact fun x hx => refs_reach n st x (h x hx)
    | tup cs =>
      simp only [refs, List.flatMap_eq_nil_iff] at h
      simp only [reach, List.flatMap_eq_nil_iff]
      exact fun x hx => refs_reach n st x (h x hx)
    | clo f cs =>
      simp only [refs, List.flatMap_eq_nil_iff] at h
      simp only [reach, List.flatMap_eq_nil_iff]
      exact fun x hx => refs_reach n st x (h x hx)
    | osl id off len => simp [refs] at h
    | ptr id off => simp [refs] at h
    | _ => simp [reach]

theorem RepAll.cons {v : Value} {vs : List Value} {d : D} {ds : List D} (h : Rep I w loc v d) (t : RepAll I w loc vs ds) : RepAll I w loc (v :: vs) (d :: ds) := by
  refine ⟨by simp [t.1], fun i u x hu hx => ?_⟩
  cases i with
  | zero => simp at hu hx; subst hu; subst hx; exact h
  | succ i => exact t.2 i u x (by simpa using hu) (by simpa using hx)
theorem RepAll.tail {v : Value} {vs : List Value} {d : D} {ds : List D} (h : RepAll I w loc (v :: vs) (d :: ds)) : Rep I w loc v d ∧ RepAll I w loc vs ds :=
  ⟨h.2 0 v d rfl rfl, by simpa using h.1, fun i u x hu hx => h.2 (i + 1) u x (by simpa using hu) (by simpa using hx)⟩

theorem args_rep {loc1 : Locs} {ord : List Nat} (hI : ∀ b, I b → I1 b) (hf : ∀ i j L, ord.idxOf? i = some j → loc i = some L → loc1 j = some L) (hobj : ∀ id o, st0.obj id = some o → Holds P loc I w id o) :
    ∀ (rw : List Bool) (ds : List D) (vs : List Value), RepAll I w loc vs ds → (lendsAny rw ds = true → ∀ b, Own loc st0 b → I1 b) → RepAll I1 w loc1 vs (argsOf ord st0 rw ds) := by
  have up : ∀ {v d}, Rep I w loc v d → Rep I1 w loc v d := fun h => h.mono hI (fun _ _ => rfl) fun _ _ h => h
  have lends : ∀ {v d}, Rep I w loc v d → ((!(refs 5 d).isEmpty) = true → ∀ b, Own loc st0 b → I1 b) → Rep I1 w loc1 v (lend 5 st0 d) := by
    intro v d h ho
    refine (lend_rep (P := P) hI 5 h fun id hid o hq => ⟨hobj id o hq, fun L hL hn => ho ?_ _ (own_of hq hL hn)⟩).of_no
    cases hr : refs 5 d with
    | nil => rw [refs_reach 5 st0 d hr] at hid; simp at hid
    | cons => simp
  intro rw
  induction rw with
  | nil =>
    intro ds
    induction ds with
    | nil => intro vs h _; exact ⟨by simpa [argsOf] using h.1, fun i v d _ hd => by simp [argsOf] at hd⟩
    | cons d ds ih =>
      intro vs h hl
      cases vs with
      | nil => simp [RepAll] at h
      | cons v vs =>
        obtain ⟨h1, h2⟩ := h.tail
        simp only [argsOf]
        exact .cons (lends h1 fun e => hl (by simp [lendsAny, e])) (ih vs h2 fun e => hl (by simp [lendsAny, e]))
  | cons b bs ihb =>
    intro ds vs h hl
    cases ds with
    | nil => cases b <;> exact ⟨by simpa [argsOf] using h.1, fun i v d _ hd => by simp [argsOf] at hd⟩
    | cons d ds =>
      cases vs with
      | nil => simp [RepAll] at h
      | cons v vs =>
        obtain ⟨h1, h2⟩ := h.tail
        cases b with
        | true =>
          simp only [argsOf]
          exact .cons (renum_rep hf 5 (up h1)) (ihb ds vs h2 fun e => hl (by simp [lendsAny, e]))
        | false =>
          simp only [argsOf]
          exact .cons (lends h1 fun e => hl (by simp [lendsAny, e])) (ihb ds vs h2 fun e => hl (by simp [lendsAny, e]))

theorem rootsOf_len : ∀ (rw : List Bool) (ds : List D) {ids : List Nat}, rootsOf rw ds = some ids → ids.length ≤ (rw.filter fun b => b).length
  | [], ds, ids, h => by simp [rootsOf] at h; subst h; simp
  | true :: bs, d :: ds, ids, h => by
    simp only [rootsOf] at h
    obtain ⟨i, hi, h⟩ := Option.bind_eq_some_iff.1 h
    obtain ⟨is, his, rfl⟩ := Option.map_eq_some_iff.1 h
    have := rootsOf_len bs ds his
    simp; omega
  | false :: bs, d :: ds, ids, h => by
    simp only [rootsOf] at h
    have := rootsOf_len bs ds h
    simpa using this
  | true :: bs, [], ids, h => by simp [rootsOf] at h; subst h; simp
  | false :: bs, [], ids, h => by simp [rootsOf] at h; subst h; simp

/-! ### What comes back -/
def backLoc (loc loc2 : Locs) (ids : List Nat) (n0 n2 : Nat) : Locs := fun i => if i < n0 then loc i else if i < n0 + (n2 - ids.length) then loc2 (ids.length + (i - n0)) else none
theorem backLoc_ext {ids : List Nat} {n0 n2 : Nat} (h : ∀ i, n0 ≤ i → loc i = none) : Ext loc (backLoc loc loc2 ids n0 n2) := fun i L hL => by
  unfold backLoc
  rw [if_pos]
  · exact hL
  · apply Classical.byContradiction
    intro hn
    rw [h i (by omega)] at hL
    cases hL

theorem backF_ok {ids : List Nat} {n2 : Nat} (hlt : ∀ i ∈ ids, i < st0.length) (hroot : ∀ k id, ids[k]? = some id → loc2 k = loc id) (i j : Nat) (L : Loc) (h : backF ids st0.length n2 i = some j) (hL : loc2 i = some L) :
    backLoc loc loc2 ids st0.length n2 j = some L := by
  unfold backF at h
  unfold backLoc
  split at h
  · rw [if_pos (hlt j (List.mem_of_getElem? h)), ← hroot i j h]; exact hL
  · split at h
    · injection h with h
      subst h
      rw [if_neg (by omega), if_pos (by omega), show ids.length + (st0.length + (i - ids.length) - st0.length) = i by omega]
      exact hL
    · cases h

/-- The caller's number of the callee's object k. -/
def back (ids : List Nat) (n0 k : Nat) : Nat := if k < ids.length then ids.getD k 0 else n0 + (k - ids.length)

theorem writeBack_obj {ids : List Nat} {st2 : Store} {id : Nat} {o : Obj} (h : (writeBack ids st0 st2).obj id = some o) :
    (id < st0.length ∧ ids.idxOf? id = none ∧ st0.obj id = some o) ∨ ∃ k q, st2.obj k = some q ∧ o = q.renum (backF ids st0.length st2.length) ∧ ((∃ h : id < st0.length, ids.idxOf? id = some k) ∨ (ids.length ≤ k ∧ id = st0.length + (k - ids.length))) := by
  unfold writeBack Store.obj at h
  by_cases hlt : id < st0.length
  · rw [List.getElem?_append_left (by rw [overStore_len]; exact hlt), overStore_get] at h
    rw [List.getElem?_eq_getElem hlt] at h
    simp only [Option.map_some, Option.join_some, Nat.zero_add] at h
    split at h
    · rename_i k hk
      obtain ⟨q, hq, rfl⟩ := Option.map_eq_some_iff.1 h
      exact .inr ⟨k, q, hq, rfl, .inl ⟨hlt, hk⟩⟩
    · rename_i hk
      refine .inl ⟨hlt, hk, ?_⟩
      simp [Store.obj, List.getElem?_eq_getElem hlt, h]
  · rw [List.getElem?_append_right (by rw [overStore_len]; omega), overStore_len, List.getElem?_map, List.getElem?_drop] at h
    cases hq : st2[ids.length + (id - st0.length)]? with
    | none => simp [hq] at h
    | some x =>
      simp only [hq, Option.map_some, Option.join_some] at h
      obtain ⟨q, rfl, rfl⟩ := Option.map_eq_some_iff.1 h
      exact .inr ⟨ids.length + (id - st0.length), q, by simp [Store.obj, hq], rfl, .inr ⟨by omega, by omega⟩⟩
theorem writeBack_len {ids : List Nat} {st2 : Store} : (writeBack ids st0 st2).length = st0.length + (st2.length - ids.length) := by
  simp [writeBack, overStore_len]

theorem wb_sim (S3 : Sim P loc2 I3 s3 w') {ids : List Nat} {st2 : Store} (hx : ∀ k q, st2.obj k = some q → s3.obj k = some q) (hlt : ∀ i ∈ ids, i < st0.length) (hnew : ∀ id, st0.length ≤ id → loc id = none)
    (h0 : ∀ id o, st0.obj id = some o → Holds P loc I3 w' id o) (hroot : ∀ k id, ids[k]? = some id → loc2 k = loc id) (hinj0 : ∀ i j o o' L L', st0.obj i = some o → st0.obj j = some o' → i ≠ j → loc i = some L → loc j = some L' → L.nil = false → L'.nil = false → L.b ≠ L'.b)
    (hdis : ∀ b, Own loc st0 b → ¬ Own loc2 s3 b) (hsep0 : ∀ b, Own loc st0 b → ¬ I3 b) :
    Sim P (backLoc loc loc2 ids st0.length st2.length) I3 (writeBack ids st0 st2) w' ∧ ∀ b, Own (backLoc loc loc2 ids st0.length st2.length) (writeBack ids st0 st2) b → Own loc st0 b ∨ Own loc2 s3 b := by
  have hext : Ext loc (backLoc loc loc2 ids st0.length st2.length) := backLoc_ext hnew
  have hf := backF_ok (loc := loc) (loc2 := loc2) (n2 := st2.length) hlt hroot
  have org : ∀ id o, (writeBack ids st0 st2).obj id = some o → (st0.obj id = some o ∧ backLoc loc loc2 ids st0.length st2.length id = loc id ∧ Holds P (backLoc loc loc2 ids st0.length st2.length) I3 w' id o) ∨
      ∃ k q, s3.obj k = some q ∧ backLoc loc loc2 ids st0.length st2.length id = loc2 k ∧ Holds P (backLoc loc loc2 ids st0.length st2.length) I3 w' id o ∧ back ids st0.length k = id := by
    intro id o h
    rcases writeBack_obj h with ⟨h1, h2, h3⟩ | ⟨k, q, h1, rfl, h2⟩
    · refine .inl ⟨h3, by unfold backLoc; rw [if_pos h1], (h0 id o h3).mono hext (fun _ h => h) (fun _ _ => rfl) fun _ _ _ => rfl⟩
    · have hq := hx k q h1
      have hk2 : k < st2.length := obj_lt h1
      rcases h2 with ⟨h3, h4⟩ | ⟨h3, h4⟩
      · have hget := idx_get h4
        have e : backLoc loc loc2 ids st0.length st2.length id = loc2 k := by unfold backLoc; rw [if_pos h3, hroot k id hget]
        refine .inr ⟨k, q, hq, e, renum_holds hf (fun L hL => by rw [e]; exact hL) (S3.obj k q hq), ?_⟩
        unfold back
        rw [if_pos (List.getElem?_eq_some_iff.1 hget).1]
        simp [List.getD, hget]
      · have e : backLoc loc loc2 ids st0.length st2.length id = loc2 k := by
          unfold backLoc
          rw [if_neg (by omega), if_pos (by omega)]
          congr 1
          omega
        refine .inr ⟨k, q, hq, e, renum_holds hf (fun L hL => by rw [e]; exact hL) (S3.obj k q hq), ?_⟩
        unfold back
        rw [if_neg (by omega)]
        exact h4.symm
  have own : ∀ b, Own (backLoc loc loc2 ids st0.length st2.length) (writeBack ids st0 st2) b → Own loc st0 b ∨ Own loc2 s3 b := by
    rintro b ⟨id, o, L, h, hL, hn, rfl⟩
    rcases org id o h with ⟨h1, h2, _⟩ | ⟨k, q, h1, h2, _⟩
    · exact .inl (own_of h1 (by rw [← h2]; exact hL) hn)
    · exact .inr (own_of h1 (by rw [← h2]; exact hL) hn)
  refine ⟨⟨fun id o h => ?_, ?_, ?_, S3.bnd, ?_⟩, own⟩
  · rcases org id o h with ⟨_, _, h⟩ | ⟨_, _, _, _, h, _⟩ <;> exact h
  · intro i j oi oj Li Lj hi hj hij hLi hLj hni hnj
    rcases org i oi hi with ⟨h1, h2, _⟩ | ⟨k, q, h1, h2, _, h3⟩ <;> rcases org j oj hj with ⟨h4, h5, _⟩ | ⟨k', q', h4, h5, _, h6⟩
    · exact hinj0 i j oi oj Li Lj h1 h4 hij (h2 ▸ hLi) (h5 ▸ hLj) hni hnj
    · intro e
      refine hdis _ (own_of h1 (h2 ▸ hLi) hni) ?_
      rw [e]
      exact own_of h4 (h5 ▸ hLj) hnj
    · intro e
      refine hdis _ (own_of h4 (h5 ▸ hLj) hnj) ?_
      rw [← e]
      exact own_of h1 (h2 ▸ hLi) hni
    · exact S3.inj k k' q q' Li Lj h1 h4 (by rintro rfl; exact hij (h3.symm.trans h6)) (h2 ▸ hLi) (h5 ▸ hLj) hni hnj
  · intro b hb hI
    rcases own b hb with h | h
    · exact hsep0 b h hI
    · exact S3.sep b h hI
  · intro id hid
    rw [writeBack_len] at hid
    unfold backLoc
    rw [if_neg (by omega), if_neg (by omega)]

/-! ### Nil slices become the caller's own -/
theorem later_nil (hs : Sim P loc I st w) (e : Nat) : Later P loc I st w (upd loc st.length ⟨0, true, P.cellsOf e, 0⟩) I (st ++ [some (.rw e [])]) w := by
  have hnone : loc st.length = none := hs.new _ (Nat.le_refl _)
  have hext := upd_ext (L := ⟨0, true, P.cellsOf e, 0⟩) hnone
  have own : ∀ b, Own (upd loc st.length ⟨0, true, P.cellsOf e, 0⟩) (st ++ [some (.rw e [])]) b → Own loc st b := by
    rintro b ⟨id, o', M, ho, hM, hn, rfl⟩
    rcases obj_push ho with ⟨h1, h2⟩ | ⟨rfl, h2⟩
    · rw [upd_ne _ _ _ (by omega)] at hM
      exact own_of h2 hM hn
    · rw [upd_self] at hM
      injection hM with hM
      subst hM
      cases hn
  refine ⟨Frm.refl _ _, fun _ h => h, fun _ h => .inl h, fun b h => .inl (own b h), ⟨?_, ?_, fun b hb => hs.sep b (own b hb), hs.bnd, ?_⟩⟩
  · intro id o ho
    rcases obj_push ho with ⟨h1, h2⟩ | ⟨rfl, h2⟩
    · exact (hs.obj id o h2).mono hext (fun _ h => h) (fun _ _ => rfl) fun _ _ _ => rfl
    · injection h2 with h2
      subst h2
      exact ⟨_, upd_self _ _ _, rfl, fun r hr => by simp at hr, .inl ⟨rfl, rfl⟩⟩
  · intro i j oi oj Li Lj hi hj hij hLi hLj hni hnj
    rcases obj_push hi with ⟨h1, h2⟩ | ⟨rfl, h2⟩ <;> rcases obj_push hj with ⟨h3, h4⟩ | ⟨rfl, h4⟩
    · rw [upd_ne _ _ _ (by omega)] at hLi hLj
      exact hs.inj i j oi oj Li Lj h2 h4 hij hLi hLj hni hnj
    · rw [upd_self] at hLj; injection hLj with hLj; subst hLj; cases hnj
    · rw [upd_self] at hLi; injection hLi with hLi; subst hLi; cases hni
    · omega
  · intro id hid
    simp at hid
    rw [upd_ne _ _ _ (by omega)]
    exact hs.new id (by omega)

/-- The value, and the store behind. -/
def Grown (P : Program) (loc : Locs) (I : Nat → Prop) (st : Store) (w : World) (st' : Store) (Q : Locs → Prop) : Prop := ∃ loc', Later P loc I st w loc' I st' w ∧ Ext loc loc' ∧ Q loc'

theorem inflate1_sound (hs : Sim P loc I st w) (e : Nat) {v : Value} {d : D} (h : Rep I w loc v d) : Grown P loc I st w (inflate1 e (d, st)).2 fun l => Rep I w l v (inflate1 e (d, st)).1 := by
  unfold inflate1
  split
  · rename_i s heq
    injection heq with h1 h2
    subst h1; subst h2
    cases h
    exact ⟨_, later_nil hs e, upd_ext (hs.new _ (Nat.le_refl _)), .onil _ _ _ (upd_self _ _ _) rfl⟩
  · exact ⟨loc, .refl hs, fun _ _ h => h, h⟩

theorem inflateAll_sound : ∀ (es : List Nat) (ds : List D) (vs : List Value) {loc : Locs} {st : Store}, Sim P loc I st w → RepAll I w loc vs ds → Grown P loc I st w (inflateAll es ds st).2 fun l => RepAll I w l vs (inflateAll es ds st).1
  | [], ds, vs, loc, st, hs, h => ⟨loc, .refl hs, fun _ _ h => h, by simpa [inflateAll] using h⟩
  | e :: es, [], vs, loc, st, hs, h => ⟨loc, .refl hs, fun _ _ h => h, by simpa [inflateAll] using h⟩
  | e :: es, d :: ds, [], loc, st, hs, h => by simp [RepAll] at h
  | e :: es, d :: ds, v :: vs, loc, st, hs, h => by
    obtain ⟨h1, h2⟩ := h.tail
    simp only [inflateAll]
    have one : Grown P loc I st w (if e = 0 then (d, st) else inflate1 e (d, st)).2 fun l => Rep I w l v (if e = 0 then (d, st) else inflate1 e (d, st)).1 := by
      by_cases he : e = 0
      · rw [if_pos he]; exact ⟨loc, .refl hs, fun _ _ h => h, h1⟩
      · rw [if_neg he]; exact inflate1_sound hs e h1
    obtain ⟨l1, g1, x1, r1⟩ := one
    have h2' : RepAll I w l1 vs ds := ⟨h2.1, fun i v d hv hd => (h2.2 i v d hv hd).mono (fun _ h => h) (fun _ _ => rfl) x1⟩
    obtain ⟨l2, g2, x2, r2⟩ := inflateAll_sound es ds vs g1.sim h2'
    exact ⟨l2, g1.trans g2, fun i L h => x2 i L (x1 i L h), .cons (r1.mono (fun _ h => h) (fun _ _ => rfl) x2) r2⟩

theorem inflate_sound (hs : Sim P loc I st w) (es : List Nat) {v : Value} {d : D} (h : Rep I w loc v d) : Grown P loc I st w (inflate es (d, st)).2 fun l => Rep I w l v (inflate es (d, st)).1 := by
  unfold inflate
  split
  · rename_i vs s heq
    injection heq with h1 h2
    subst h1; subst h2
    cases h with
    | tup _ cs ds hl h =>
      obtain ⟨l, g, x, r⟩ := inflateAll_sound es vs cs hs ⟨hl, h⟩
      exact ⟨l, g, x, .tup _ _ _ r.1 r.2⟩
  · rename_i d' s heq
    injection heq with h1 h2
    subst h1; subst h2
    split
    · split
      · exact ⟨loc, .refl hs, fun _ _ h => h, h⟩
      · exact inflate1_sound hs _ h
    · exact ⟨loc, .refl hs, fun _ _ h => h, h⟩
end Go.Vi
