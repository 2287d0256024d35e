/- Vi: each operation of the model does what the abstract one says (calls apart). -/
import Derived.Test.YtcnhokifbgbegaaViRep
import Derived.Lib.ConvBytes
import Derived.Laws.BytesArg
import Derived.Laws.MakeOwn
import Derived.Laws.Slices
import Derived.Laws.Strings
set_option linter.unusedSimpArgs false
set_option linter.unusedVariables false
namespace Go.Vi
open Go.RowKit

abbrev Ext (l l' : Locs) : Prop := ∀ id L, l id = some L → l' id = some L
def upd (loc : Locs) (i : Nat) (L : Loc) : Locs := fun id => if id = i then some L else loc id
theorem upd_self (loc : Locs) (i : Nat) (L : Loc) : upd loc i L i = some L := by simp [upd]
theorem upd_ne (loc : Locs) (i : Nat) (L : Loc) {j : Nat} (h : j ≠ i) : upd loc i L j = loc j := by simp [upd, h]
theorem upd_ext {loc : Locs} {i : Nat} {L : Loc} (h : loc i = none) : Ext loc (upd loc i L) := fun id M hM => by
  rw [upd_ne _ _ _ (by rintro rfl; rw [h] at hM; cases hM)]; exact hM

theorem obj_lt {st : Store} {id : Nat} {o : Obj} (h : st.obj id = some o) : id < st.length := by
  unfold Store.obj at h
  cases hq : st[id]? with
  | none => simp [hq] at h
  | some x => exact (List.getElem?_eq_some_iff.1 hq).1
theorem obj_push_lt (st : Store) (o : Option Obj) {id : Nat} (h : id < st.length) : Store.obj (st ++ [o]) id = st.obj id := by
  simp [Store.obj, List.getElem?_append_left h]
theorem obj_push_new (st : Store) (o : Option Obj) : Store.obj (st ++ [o]) st.length = o := by
  simp [Store.obj]
theorem obj_push {st : Store} {o : Option Obj} {id : Nat} {x : Obj} (h : Store.obj (st ++ [o]) id = some x) : (id < st.length ∧ st.obj id = some x) ∨ (id = st.length ∧ o = some x) := by
  rcases Nat.lt_trichotomy id st.length with h1 | h1 | h1
  · rw [obj_push_lt st o h1] at h; exact .inl ⟨h1, h⟩
  · subst h1; rw [obj_push_new] at h; exact .inr ⟨rfl, h⟩
  · have := obj_lt h; simp at this; omega
theorem obj_set_self {st : Store} {id : Nat} (o : Option Obj) (h : id < st.length) : Store.obj (st.set id o) id = o := by
  simp [Store.obj, h]
theorem obj_set_ne {st : Store} {id j : Nat} (o : Option Obj) (h : j ≠ id) : Store.obj (st.set id o) j = st.obj j := by
  simp [Store.obj, List.getElem?_set_ne (Ne.symm h)]

theorem Holds.mono {P : Program} {loc loc' : Locs} {I I' : Nat → Prop} {w w' : World} {id : Nat} {o : Obj} (h : Holds P loc I w id o) (hx : Ext loc loc') (hI : ∀ b, I b → I' b) (hw : ∀ b, I b → w'.heap[b]? = w.heap[b]?)
    (hb : ∀ L, loc id = some L → L.nil = false → w'.heap[L.b]? = w.heap[L.b]?) : Holds P loc' I' w' id o := by
  cases o with
  | bx cs =>
    obtain ⟨L, hL, hn, cur, t, hh, hs, hr⟩ := h
    exact ⟨L, hx _ _ hL, hn, cur, t, (hb L hL hn).trans hh, hs, fun j d hd => let ⟨v, h1, h2⟩ := hr j d hd; ⟨v, h1, h2.mono hI hw hx⟩⟩
  | rw e rows =>
    obtain ⟨L, hL, hk, hok, hr⟩ := h
    refine ⟨L, hx _ _ hL, hk, hok, ?_⟩
    rcases hr with hr | ⟨hn, cur, hh, h1, h2, h3, h4⟩
    · exact .inl hr
    · exact .inr ⟨hn, cur, (hb L hL hn).trans hh, h1, h2, h3, fun i r j d hi hj => let ⟨v, h5, h6⟩ := h4 i r j d hi hj; ⟨v, h5, h6.mono hI hw fun _ _ h => h⟩⟩

theorem own_of {loc : Locs} {st : Store} {id : Nat} {o : Obj} {L : Loc} (ho : st.obj id = some o) (hL : loc id = some L) (hn : L.nil = false) : Own loc st L.b := ⟨id, o, L, ho, hL, hn, rfl⟩

/-- A new object, in a new block. -/
theorem later_new {P : Program} {loc : Locs} {I : Nat → Prop} {st : Store} {w : World} (hs : Sim P loc I st w) (o : Obj) (L : Loc) (x : Go.Obj) (hL : L.b = w.heap.size)
    (hh : Holds P (upd loc st.length L) I (w.alloc x) st.length o) : Later P loc I st w (upd loc st.length L) I (st ++ [some o]) (w.alloc x) := by
  have hnone : loc st.length = none := hs.new _ (Nat.le_refl _)
  have hext : Ext loc (upd loc st.length L) := upd_ext hnone
  have hlt : ∀ b, b < w.heap.size → (w.alloc x).heap[b]? = w.heap[b]? := fun b hb => Below.heap_alloc w x b hb
  refine ⟨⟨rfl, rfl, rfl, by simp, fun b hb _ => hlt b hb⟩, fun _ h => h, fun _ h => .inl h, ?_, ?_⟩
  · rintro b ⟨id, o', M, ho, hM, hn, rfl⟩
    rcases obj_push ho with ⟨h1, h2⟩ | ⟨rfl, h2⟩
    · rw [upd_ne _ _ _ (by omega)] at hM
      exact .inl (own_of h2 hM hn)
    · rw [upd_self] at hM
      injection hM with hM
      subst hM
      exact .inr (by omega)
  · refine ⟨?_, ?_, ?_, ?_, ?_⟩
    · intro id o' ho
      rcases obj_push ho with ⟨h1, h2⟩ | ⟨rfl, h2⟩
      · exact (hs.obj id o' h2).mono hext (fun _ h => h) (fun b hb => hlt b (hs.bnd b hb)) fun M hM hn => hlt _ (hs.own_lt (own_of h2 hM hn))
      · injection h2 with h2; subst h2; exact hh
    · intro i j oi oj Li Lj hi hj hij hLi hLj hni hnj
      rcases obj_push hi with ⟨h1, h2⟩ | ⟨rfl, h2⟩ <;> rcases obj_push hj with ⟨h3, h4⟩ | ⟨rfl, h4⟩
      · rw [upd_ne _ _ _ (by omega)] at hLi hLj
        exact hs.inj i j oi oj Li Lj h2 h4 hij hLi hLj hni hnj
      · rw [upd_ne _ _ _ (by omega)] at hLi
        rw [upd_self] at hLj
        injection hLj with hLj
        subst hLj
        have := hs.own_lt (own_of h2 hLi hni)
        omega
      · rw [upd_self] at hLi
        rw [upd_ne _ _ _ (by omega)] at hLj
        injection hLi with hLi
        subst hLi
        have := hs.own_lt (own_of h4 hLj hnj)
        omega
      · omega
    · rintro b ⟨id, o', M, ho, hM, hn, rfl⟩ hb
      rcases obj_push ho with ⟨h1, h2⟩ | ⟨rfl, h2⟩
      · rw [upd_ne _ _ _ (by omega)] at hM
        exact hs.sep _ (own_of h2 hM hn) hb
      · rw [upd_self] at hM
        injection hM with hM
        subst hM
        have := hs.bnd _ hb
        omega
    · intro b hb
      have := hs.bnd b hb
      simp; omega
    · intro id hid
      simp at hid
      rw [upd_ne _ _ _ (by omega)]
      exact hs.new id (by omega)

/-- A new block that nobody will write to. -/
theorem later_imm {P : Program} {loc : Locs} {I : Nat → Prop} {st : Store} {w w' : World} (hs : Sim P loc I st w) (hsz : w'.heap.size = w.heap.size + 1) (hlt : ∀ b, b < w.heap.size → w'.heap[b]? = w.heap[b]?)
    (hos : w'.os = w.os) (ht : w'.tape = w.tape) (hout : w'.output = w.output) : Later P loc I st w loc (fun b => I b ∨ b = w.heap.size) st w' := by
  refine ⟨⟨hos, ht, hout, by omega, fun b hb _ => hlt b hb⟩, fun _ h => .inl h, fun b h => by rcases h with h | h; exact .inl h; exact .inr (.inr (by omega)), fun _ h => .inl h, ?_⟩
  refine ⟨fun id o ho => (hs.obj id o ho).mono (fun _ _ h => h) (fun _ h => .inl h) (fun b hb => hlt b (hs.bnd b hb)) fun M hM hn => hlt _ (hs.own_lt (own_of ho hM hn)), hs.inj, ?_, ?_, hs.new⟩
  · rintro b hb (h | h)
    · exact hs.sep b hb h
    · have := hs.own_lt hb; omega
  · rintro b (h | h)
    · have := hs.bnd b h; omega
    · omega

/-- Nothing but draws. -/
theorem later_drawn {P : Program} {loc : Locs} {I : Nat → Prop} {st : Store} {w w' : World} (hs : Sim P loc I st w) (hh : w'.heap = w.heap) (hos : w'.os = w.os) (ht : w'.tape = w.tape) (hout : w'.output = w.output) : Later P loc I st w loc I st w' := by
  refine ⟨⟨hos, ht, hout, by rw [hh]; omega, fun b hb _ => by rw [hh]⟩, fun _ h => h, fun _ h => .inl h, fun _ h => .inl h, ?_⟩
  exact ⟨fun id o ho => (hs.obj id o ho).mono (fun _ _ h => h) (fun _ h => h) (fun b hb => by rw [hh]) fun M hM hn => by rw [hh], hs.inj, hs.sep, fun b hb => by rw [hh]; exact hs.bnd b hb, hs.new⟩

/-- What an object's block holds now, the object as it is now. -/
theorem later_set {P : Program} {loc : Locs} {I : Nat → Prop} {st : Store} {w : World} (hs : Sim P loc I st w) {id : Nat} {o o' : Obj} {L : Loc} (ho : st.obj id = some o) (hL : loc id = some L) (hn : L.nil = false) {w' : World}
    (hsz : w'.heap.size = w.heap.size) (hoth : ∀ b, b ≠ L.b → w'.heap[b]? = w.heap[b]?) (hos : w'.os = w.os) (ht : w'.tape = w.tape) (hout : w'.output = w.output) (hh : Holds P loc I w' id o') :
    Later P loc I st w loc I (st.set id (some o')) w' := by
  have hid := obj_lt ho
  have hown : ∀ b, Own loc (st.set id (some o')) b → Own loc st b := by
    rintro b ⟨j, q, M, hq, hM, hMn, rfl⟩
    by_cases hj : j = id
    · subst hj; exact own_of ho hM hMn
    · rw [obj_set_ne _ hj] at hq; exact own_of hq hM hMn
  have hLI : ¬ I L.b := hs.sep _ (own_of ho hL hn)
  refine ⟨⟨hos, ht, hout, by omega, fun b hb hnb => hoth b (by rintro rfl; exact hnb (own_of ho hL hn))⟩, fun _ h => h, fun _ h => .inl h, fun b h => .inl (hown b h), ?_⟩
  refine ⟨?_, ?_, fun b hb => hs.sep b (hown b hb), fun b hb => by have := hs.bnd b hb; omega, fun j hj => hs.new j (by simpa using hj)⟩
  · intro j q hq
    by_cases hj : j = id
    · subst hj
      rw [obj_set_self _ hid] at hq
      injection hq with hq
      subst hq
      exact hh
    · rw [obj_set_ne _ hj] at hq
      refine (hs.obj j q hq).mono (fun _ _ h => h) (fun _ h => h) (fun b hb => hoth b (by rintro rfl; exact hLI hb)) fun M hM hMn => hoth _ ?_
      exact hs.inj j id q o M L hq ho hj hM hL hMn hn
  · intro i j oi oj Li Lj hi hj hij
    have key : ∀ {k q}, Store.obj (st.set id (some o')) k = some q → ∃ q', st.obj k = some q' := by
      intro k q hk
      by_cases h : k = id
      · subst h; exact ⟨o, ho⟩
      · rw [obj_set_ne _ h] at hk; exact ⟨q, hk⟩
    obtain ⟨_, hi⟩ := key hi
    obtain ⟨_, hj⟩ := key hj
    exact hs.inj i j _ _ Li Lj hi hj hij

/-! ### Operands -/
def constOk : Value → D → Bool
  | .int k n, .int k' n' => k == k' && n == n'
  | .bool b, .bool b' => b == b'
  | .string s, .str l => s.data.toList == l
  | .slice none 0 0, .nsl => true
  | .slice none 0 0, .sl [] => true
  | _, .junk => true
  | _, _ => false
theorem constOk_rep {v : Value} {d : D} (h : constOk v d = true) (I : Nat → Prop) (w : World) (loc : Locs) : Rep I w loc v d := by
  unfold constOk at h
  split at h
  · simp at h; obtain ⟨rfl, rfl⟩ := h; exact .int _ _ _
  · simp at h; subst h; exact .bool _ _
  · simp at h; subst h; exact .str _ _
  · exact .nsl _
  · exact .slnil _
  · exact .junk _ _
  · cases h

def okOpd : Operand → Opd → Bool
  | .tmp t, .t t' => t == t'
  | .const v, .c d => constOk v d
  | .global g, .g g' => g == g'
  | .func f, .c (.clo f' []) => f == f'
  | _, _ => false

def EnvRep (I : Nat → Prop) (w : World) (loc : Locs) (e : Env) (tmps : Array Value) : Prop := ∀ t, Rep I w loc (tmps.getD t Go.undef) (e t)
def GlobRep (gl : Nat → Option (List D)) (I : Nat → Prop) (w : World) : Prop := ∀ g cs, gl g = some cs → Rep I w Locs.no (.pointer (some ⟨g, 0, none⟩)) (.ipt cs)

theorem ev_rep {gl : Nat → Option (List D)} {I : Nat → Prop} {w : World} {loc : Locs} {σ : St} {a : Act} (he : EnvRep I w loc σ.env a.tmps) (hg : GlobRep gl I w) {x : Operand} {y : Opd} (h : okOpd x y = true) : Rep I w loc (a.eval x) (σ.ev gl y) := by
  unfold okOpd at h
  split at h
  · simp at h; subst h; exact he _
  · exact constOk_rep h _ _ _
  · simp at h; subst h
    simp only [St.ev]
    split
    · rename_i cs hcs; exact (hg _ _ hcs).of_no
    · exact .junk _ _
  · simp at h; subst h; exact .clo _ _ [] [] rfl fun i c d h => by simp at h
  · cases h
end Go.Vi
