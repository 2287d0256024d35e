/- Vi: what an abstract value says of a value of the model, and an abstract store of a world. -/
import Derived.Test.YtcnhokifbgbegaaViDef
import Derived.Laws.CopyRow
import Derived.Laws.Rows
import Derived.Maps.AppendAt
import Derived.Below
namespace Go.Vi
open Go.RowKit

/-- Where an object of the store lies. -/
structure Loc where
  b : Nat
  nil : Bool
  k : Nat
  cap : Nat

abbrev Locs := Nat → Option Loc
def Locs.no : Locs := fun _ => none

inductive Rep (I : Nat → Prop) (w : World) : Locs → Value → D → Prop
  | int (loc : Locs) (k : IntKind) (n : Int) : Rep I w loc (.int k n) (.int k n)
  | bool (loc : Locs) (b : Bool) : Rep I w loc (.bool b) (.bool b)
  | str (loc : Locs) (s : ByteArray) : Rep I w loc (.string s) (.str s.data.toList)
  | agg (loc : Locs) (cs : List Value) (ds : List D) (hl : cs.length = ds.length) (h : ∀ (i : Nat) (c : Value) (d : D), cs[i]? = some c → ds[i]? = some d → Rep I w loc c d) : Rep I w loc (.agg cs.toArray) (.agg ds)
  | tup (loc : Locs) (cs : List Value) (ds : List D) (hl : cs.length = ds.length) (h : ∀ (i : Nat) (c : Value) (d : D), cs[i]? = some c → ds[i]? = some d → Rep I w loc c d) : Rep I w loc (.tuple cs.toArray) (.tup ds)
  | slnil (loc : Locs) : Rep I w loc (.slice none 0 0) (.sl [])
  | sl (loc : Locs) (b o cap k : Nat) (rows : List (List D)) (cell : Nat → Nat → Value) (hI : rows ≠ [] → I b) (hc : rows.length ≤ cap) (hk : ∀ r ∈ rows, r.length = k)
      (hcell : ∀ i j, i < rows.length → j < k → w.cell? ⟨b, o + (i * k + j), none⟩ = some (cell i j))
      (h : ∀ (i j : Nat) (r : List D) (d : D), rows[i]? = some r → r[j]? = some d → Rep I w Locs.no (cell i j) d) : Rep I w loc (.slice (some ⟨b, o, none⟩) rows.length cap) (.sl rows)
  | nsl (loc : Locs) : Rep I w loc (.slice none 0 0) .nsl
  | osl (loc : Locs) (id off len : Nat) (L : Loc) (hL : loc id = some L) (hn : L.nil = false) (h : off + len ≤ L.cap) : Rep I w loc (.slice (some ⟨L.b, off * L.k, none⟩) len (L.cap - off)) (.osl id off len)
  | onil (loc : Locs) (id : Nat) (L : Loc) (hL : loc id = some L) (hn : L.nil = true) : Rep I w loc (.slice none 0 0) (.osl id 0 0)
  | ptr (loc : Locs) (id off : Nat) (L : Loc) (hL : loc id = some L) (hn : L.nil = false) : Rep I w loc (.pointer (some ⟨L.b, off, none⟩)) (.ptr id off)
  | ept (loc : Locs) (id row off : Nat) (L : Loc) (hL : loc id = some L) (hn : L.nil = false) : Rep I w loc (.pointer (some ⟨L.b, row * L.k + off, none⟩)) (.ept id row off)
  | ipt (loc : Locs) (b o : Nat) (cs : List D) (cell : Nat → Value) (hI : I b) (hc : ∀ j, j < cs.length → w.cell? ⟨b, o + j, none⟩ = some (cell j))
      (h : ∀ (j : Nat) (d : D), cs[j]? = some d → Rep I w Locs.no (cell j) d) : Rep I w loc (.pointer (some ⟨b, o, none⟩)) (.ipt cs)
  | clo (loc : Locs) (f : Nat) (cs : List Value) (ds : List D) (hl : cs.length = ds.length) (h : ∀ (i : Nat) (c : Value) (d : D), cs[i]? = some c → ds[i]? = some d → Rep I w loc c d) : Rep I w loc (.func (.func f) #[] cs.toArray) (.clo f ds)
  | undef (loc : Locs) : Rep I w loc Go.undef .undef
  | junk (loc : Locs) (v : Value) : Rep I w loc v .junk

/-- More places, more that nobody writes to; what nobody writes to as it was. -/
theorem Rep.mono {I I' : Nat → Prop} {w w' : World} (hI : ∀ b, I b → I' b) (hw : ∀ b, I b → w'.heap[b]? = w.heap[b]?) {loc : Locs} {v : Value} {d : D} (h : Rep I w loc v d) :
    ∀ {loc' : Locs}, (∀ id L, loc id = some L → loc' id = some L) → Rep I' w' loc' v d := by
  induction h with
  | int loc k n => intro loc' _; exact .int _ _ _
  | bool loc b => intro loc' _; exact .bool _ _
  | str loc s => intro loc' _; exact .str _ _
  | agg loc cs ds hl _ ih => intro loc' hx; exact .agg _ _ _ hl fun i c d h1 h2 => ih i c d h1 h2 hx
  | tup loc cs ds hl _ ih => intro loc' hx; exact .tup _ _ _ hl fun i c d h1 h2 => ih i c d h1 h2 hx
  | slnil loc => intro loc' _; exact .slnil _
  | sl loc b o cap k rows cell hb hc hk hcell _ ih =>
    intro loc' _
    exact .sl _ b o cap k rows cell (fun hne => hI _ (hb hne)) hc hk (fun i j hi hj => (World.cell?_of_block (w := w) (hw _ (hb (by rintro rfl; simp at hi)))).trans (hcell i j hi hj)) fun i j r d h1 h2 => ih i j r d h1 h2 fun _ _ h => h
  | nsl loc => intro loc' _; exact .nsl _
  | osl loc id off len L hL hn h => intro loc' hx; exact .osl _ id off len L (hx _ _ hL) hn h
  | onil loc id L hL hn => intro loc' hx; exact .onil _ id L (hx _ _ hL) hn
  | ptr loc id off L hL hn => intro loc' hx; exact .ptr _ id off L (hx _ _ hL) hn
  | ept loc id row off L hL hn => intro loc' hx; exact .ept _ id row off L (hx _ _ hL) hn
  | ipt loc b o cs cell hb hc _ ih =>
    intro loc' _
    exact .ipt _ b o cs cell (hI _ hb) (fun j hj => (World.cell?_of_block (w := w) (hw _ hb)).trans (hc j hj)) fun j d h1 => ih j d h1 fun _ _ h => h
  | clo loc f cs ds hl _ ih => intro loc' hx; exact .clo _ f _ _ hl fun i c d h1 h2 => ih i c d h1 h2 hx
  | undef loc => intro loc' _; exact .undef _
  | junk loc v => intro loc' _; exact .junk _ _

theorem Rep.of_no {I : Nat → Prop} {w : World} {loc : Locs} {v : Value} {d : D} (h : Rep I w Locs.no v d) : Rep I w loc v d :=
  h.mono (fun _ h => h) (fun _ _ => rfl) (fun _ _ h => by cases h)

theorem all_get {α : Type} {p : α → Bool} {l : List α} (h : l.all p = true) {i : Nat} {x : α} (hx : l[i]? = some x) : p x = true := List.all_eq_true.1 h x (List.mem_of_getElem? hx)

/-- What names no object doesn't hang on where objects lie. -/
theorem Rep.pure {I : Nat → Prop} {w : World} {loc : Locs} : ∀ {n : Nat} {v : Value} {d : D}, Rep I w loc v d → Vi.pure n d = true → Rep I w Locs.no v d
  | 0, _, _, _, hp => by simp [Vi.pure] at hp
  | n + 1, _, _, h, hp => by
    cases h with
    | int _ k n => exact .int _ _ _
    | bool _ b => exact .bool _ _
    | str _ s => exact .str _ _
    | agg _ cs ds hl h => exact .agg _ _ _ hl fun i c d h1 h2 => (h i c d h1 h2).pure (n := n) (all_get (by simpa [Vi.pure] using hp) h2)
    | tup _ cs ds hl h => exact .tup _ _ _ hl fun i c d h1 h2 => (h i c d h1 h2).pure (n := n) (all_get (by simpa [Vi.pure] using hp) h2)
    | slnil => exact .slnil _
    | sl _ b o cap k rows cell hb hc hk hcell h => exact .sl _ b o cap k rows cell hb hc hk hcell h
    | nsl => simp [Vi.pure] at hp
    | osl _ id off len L hL hn h => simp [Vi.pure] at hp
    | onil _ id L hL hn => simp [Vi.pure] at hp
    | ptr _ id off L hL hn => simp [Vi.pure] at hp
    | ept _ id row off L hL hn => simp [Vi.pure] at hp
    | ipt _ b o cs cell hb hc h => exact .ipt _ b o cs cell hb hc h
    | clo _ f cs ds hl h => exact .clo _ f _ _ hl fun i c d h1 h2 => (h i c d h1 h2).pure (n := n) (all_get (by simpa [Vi.pure] using hp) h2)
    | undef => exact .undef _
    | junk => exact .junk _ _

/-- The value's own form: one cell. -/
theorem Rep.one {I : Nat → Prop} {w : World} {loc : Locs} {v : Value} {d : D} (h : Rep I w loc v d) (h1 : oneCell d = true) : v.oneCell' = true := by
  cases h <;> first | rfl | (simp [oneCell] at h1)

theorem Rep.cells {I : Nat → Prop} {w : World} {loc : Locs} {v : Value} {d : D} (h : Rep I w loc v d) (h1 : (cellsOf d).all oneCell = true) :
    v.cells.toList.length = (cellsOf d).length ∧ ∀ (i : Nat) (c : Value) (x : D), v.cells.toList[i]? = some c → (cellsOf d)[i]? = some x → Rep I w loc c x := by
  have h0 := h
  cases h with
  | agg _ cs ds hl h => exact ⟨by simpa [Value.cells, cellsOf] using hl, fun i c x h1 h2 => h i c x (by simpa [Value.cells] using h1) h2⟩
  | tup _ cs ds hl h => simp [cellsOf, oneCell] at h1
  | undef => simp [cellsOf, oneCell] at h1
  | junk => simp [cellsOf, oneCell] at h1
  | _ =>
    refine ⟨rfl, fun i c x h2 h3 => ?_⟩
    cases i with
    | succ i => simp [Value.cells] at h2
    | zero =>
      simp [Value.cells] at h2
      simp [cellsOf] at h3
      subst h2; subst h3
      exact h0

/-! ### The store -/
/-- Object 'o', number 'id', lies in the world. -/
def Holds (P : Program) (loc : Locs) (I : Nat → Prop) (w : World) (id : Nat) : Obj → Prop
  | .bx cs => ∃ L, loc id = some L ∧ L.nil = false ∧ ∃ cur t, w.heap[L.b]? = some (.cells cur t (0, 0)) ∧ cur.size = cs.length ∧ ∀ (j : Nat) (d : D), cs[j]? = some d → ∃ v, cur[j]? = some v ∧ Rep I w loc v d
  | .rw e rows => ∃ L, loc id = some L ∧ L.k = P.cellsOf e ∧ (∀ r ∈ rows, rowOk L.k r = true) ∧ ((L.nil = true ∧ rows = []) ∨ (L.nil = false ∧ ∃ cur, w.heap[L.b]? = some (.cells cur e (0, 0)) ∧ rows.length ≤ L.cap ∧ L.cap ≤ maxLen ∧
      cur.size = L.cap * L.k ∧ ∀ (i : Nat) (r : List D) (j : Nat) (d : D), rows[i]? = some r → r[j]? = some d → ∃ v, cur[i * L.k + j]? = some v ∧ Rep I w Locs.no v d))

/-- The blocks that the store's objects lie in. -/
def Own (loc : Locs) (st : Store) (b : Nat) : Prop := ∃ id o L, st.obj id = some o ∧ loc id = some L ∧ L.nil = false ∧ L.b = b

structure Sim (P : Program) (loc : Locs) (I : Nat → Prop) (st : Store) (w : World) : Prop where
  obj : ∀ id o, st.obj id = some o → Holds P loc I w id o
  inj : ∀ i j o o' L L', st.obj i = some o → st.obj j = some o' → i ≠ j → loc i = some L → loc j = some L' → L.nil = false → L'.nil = false → L.b ≠ L'.b
  sep : ∀ b, Own loc st b → ¬ I b
  bnd : ∀ b, I b → b < w.heap.size
  new : ∀ id, st.length ≤ id → loc id = none

theorem Sim.own_lt {P : Program} {loc : Locs} {I : Nat → Prop} {st : Store} {w : World} (h : Sim P loc I st w) {b : Nat} (hb : Own loc st b) : b < w.heap.size := by
  obtain ⟨id, o, L, ho, hL, hn, rfl⟩ := hb
  have := h.obj id o ho
  cases o with
  | bx cs =>
    obtain ⟨L', hL', _, cur, t, hh, _⟩ := this
    rw [hL] at hL'; injection hL' with hL'; subst hL'
    exact (Array.getElem?_eq_some_iff.1 hh).1
  | rw e rows =>
    obtain ⟨L', hL', _, _, hr⟩ := this
    rw [hL] at hL'; injection hL' with hL'; subst hL'
    rcases hr with ⟨h1, _⟩ | ⟨_, cur, hh, _⟩
    · rw [hn] at h1; cases h1
    · exact (Array.getElem?_eq_some_iff.1 hh).1

/-- From one world to a later one; 'O': what may have been written. -/
structure Frm (O : Nat → Prop) (w w' : World) : Prop where
  os : w'.os = w.os
  tape : w'.tape = w.tape
  output : w'.output = w.output
  size : w.heap.size ≤ w'.heap.size
  block : ∀ b, b < w.heap.size → ¬ O b → w'.heap[b]? = w.heap[b]?
theorem Frm.refl (O : Nat → Prop) (w : World) : Frm O w w := ⟨rfl, rfl, rfl, Nat.le_refl _, fun _ _ _ => rfl⟩
theorem Frm.trans {O O' : Nat → Prop} {a b c : World} (h : Frm O a b) (k : Frm O' b c) (hO : ∀ x, O' x → O x ∨ a.heap.size ≤ x) : Frm O a c :=
  ⟨k.os.trans h.os, k.tape.trans h.tape, k.output.trans h.output, Nat.le_trans h.size k.size, fun x hx hn => (k.block x (Nat.lt_of_lt_of_le hx h.size) (fun ho => by rcases hO x ho with h1 | h1; exact hn h1; omega)).trans (h.block x hx hn)⟩
theorem Frm.below {w w' : World} (h : Frm (fun _ => False) w w') : Below w.heap.size w w' := ⟨h.os, h.tape, h.output, h.size, fun b hb => h.block b hb (fun h => h)⟩
theorem Frm.mono {O O' : Nat → Prop} {w w' : World} (h : Frm O w w') (hO : ∀ b, O b → O' b) : Frm O' w w' := ⟨h.os, h.tape, h.output, h.size, fun b hb hn => h.block b hb fun ho => hn (hO _ ho)⟩

/-- A later state of one and the same store: the places of what there was are as they were. -/
structure Later (P : Program) (loc : Locs) (I : Nat → Prop) (st : Store) (w : World) (loc' : Locs) (I' : Nat → Prop) (st' : Store) (w' : World) : Prop where
  frm : Frm (Own loc st) w w'
  up : ∀ b, I b → I' b
  inew : ∀ b, I' b → I b ∨ Own loc st b ∨ w.heap.size ≤ b
  own : ∀ b, Own loc' st' b → Own loc st b ∨ w.heap.size ≤ b
  sim : Sim P loc' I' st' w'

theorem Later.refl {P : Program} {loc : Locs} {I : Nat → Prop} {st : Store} {w : World} (h : Sim P loc I st w) : Later P loc I st w loc I st w :=
  ⟨Frm.refl _ _, fun _ h => h, fun _ h => .inl h, fun _ h => .inl h, h⟩
theorem Later.trans {P : Program} {l0 l1 l2 : Locs} {I0 I1 I2 : Nat → Prop} {s0 s1 s2 : Store} {w0 w1 w2 : World} (h : Later P l0 I0 s0 w0 l1 I1 s1 w1) (k : Later P l1 I1 s1 w1 l2 I2 s2 w2) : Later P l0 I0 s0 w0 l2 I2 s2 w2 where
  frm := h.frm.trans k.frm h.own
  up := fun b hb => k.up b (h.up b hb)
  inew := fun b hb => by
    rcases k.inew b hb with h1 | h1 | h1
    · exact h.inew b h1
    · rcases h.own b h1 with h2 | h2
      · exact .inr (.inl h2)
      · exact .inr (.inr h2)
    · exact .inr (.inr (Nat.le_trans h.frm.size h1))
  own := fun b hb => by
    rcases k.own b hb with h1 | h1
    · exact h.own b h1
    · exact .inr (Nat.le_trans h.frm.size h1)
  sim := k.sim
/-- What nobody writes to is as it was. -/
theorem Later.same {P : Program} {l0 l1 : Locs} {I0 I1 : Nat → Prop} {s0 s1 : Store} {w0 w1 : World} (hs : Sim P l0 I0 s0 w0) (h : Later P l0 I0 s0 w0 l1 I1 s1 w1) : ∀ b, I0 b → w1.heap[b]? = w0.heap[b]? :=
  fun b hb => h.frm.block b (hs.bnd b hb) fun ho => hs.sep b ho hb
theorem Later.rep {P : Program} {l0 l1 : Locs} {I0 I1 : Nat → Prop} {s0 s1 : Store} {w0 w1 : World} (hs : Sim P l0 I0 s0 w0) (h : Later P l0 I0 s0 w0 l1 I1 s1 w1) (hx : ∀ id L, l0 id = some L → l1 id = some L) {v : Value} {d : D} (hr : Rep I0 w0 l0 v d) : Rep I1 w1 l1 v d :=
  hr.mono h.up (h.same hs) hx
end Go.Vi
