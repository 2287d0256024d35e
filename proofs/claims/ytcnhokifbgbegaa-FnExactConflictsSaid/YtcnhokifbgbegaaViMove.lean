/- Vi: stores cut down, renumbered, lent. -/
import Derived.Test.YtcnhokifbgbegaaViOp
set_option linter.unusedSimpArgs false
set_option linter.unusedVariables false
namespace Go.Vi
open Go.RowKit
variable {P : Program} {loc loc' : Locs} {I I1 : Nat → Prop} {st : Store} {w w' : World}

theorem idx_get : ∀ {ord : List Nat} {i j : Nat}, ord.idxOf? i = some j → ord[j]? = some i
  | [], i, j, h => by simp at h
  | x :: xs, i, j, h => by
    rw [List.idxOf?_cons] at h
    split at h
    · rename_i hx
      injection h with h
      subst h
      simpa using hx
    · obtain ⟨k, hk, rfl⟩ := Option.map_eq_some_iff.1 h
      simpa using idx_get hk
theorem idx_of : ∀ {ord : List Nat} {i : Nat}, i ∈ ord → ∃ j, ord.idxOf? i = some j
  | [], i, h => by simp at h
  | x :: xs, i, h => by
    rw [List.idxOf?_cons]
    split
    · exact ⟨0, rfl⟩
    · rename_i hx
      have hne : i ≠ x := fun e => hx (by simp [e])
      obtain ⟨j, hj⟩ := idx_of (ord := xs) (i := i) (by simpa [hne] using h)
      exact ⟨j + 1, by rw [hj]; rfl⟩
theorem nodupB_spec : ∀ {l : List Nat}, nodupB l = true → l.Nodup
  | [], _ => List.nodup_nil
  | x :: xs, h => by
    simp only [nodupB, Bool.and_eq_true, Bool.not_eq_true'] at h
    exact List.nodup_cons.2 ⟨by simpa using h.1, nodupB_spec h.2⟩
theorem idx_nodup : ∀ {ord : List Nat}, ord.Nodup → ∀ {i j : Nat}, ord[j]? = some i → ord.idxOf? i = some j
  | [], _, i, j, h => by simp at h
  | x :: xs, hn, i, 0, h => by
    rw [List.idxOf?_cons]
    simp at h
    rw [if_pos (by simp [h])]
  | x :: xs, hn, i, j + 1, h => by
    obtain ⟨h1, h2⟩ := List.nodup_cons.1 hn
    simp only [List.getElem?_cons_succ] at h
    rw [List.idxOf?_cons, if_neg (by intro e; exact h1 (by rw [show x = i by simpa using e]; exact List.mem_of_getElem? h)), idx_nodup h2 h]
    rfl
theorem uniq_mem : ∀ {l : List Nat} {x : Nat}, x ∈ uniq l ↔ x ∈ l
  | [], x => by simp [uniq]
  | y :: ys, x => by
    simp only [uniq, List.mem_cons, List.mem_filter, uniq_mem (l := ys)]
    constructor
    · rintro (h | ⟨h, _⟩); exact .inl h; exact .inr h
    · rintro (h | h)
      · exact .inl h
      · by_cases e : x = y
        · exact .inl e
        · exact .inr ⟨h, by simpa using e⟩
theorem uniq_nodup : ∀ (l : List Nat), (uniq l).Nodup
  | [] => List.nodup_nil
  | y :: ys => by
    simp only [uniq]
    refine List.nodup_cons.2 ⟨by simp, (uniq_nodup ys).filter _⟩
theorem uniq_prefix : ∀ (a b : List Nat), a.Nodup → ∃ c, uniq (a ++ b) = a ++ c
  | [], b, _ => ⟨uniq b, rfl⟩
  | x :: a, b, h => by
    obtain ⟨h1, h2⟩ := List.nodup_cons.1 h
    obtain ⟨c, hc⟩ := uniq_prefix a b h2
    refine ⟨c.filter (· != x), ?_⟩
    simp only [List.cons_append, uniq, hc, List.filter_append]
    congr 2
    rw [List.filter_eq_self]
    intro y hy
    have : y ≠ x := fun e => h1 (e ▸ hy)
    simpa using this

theorem overStore_get (g : Nat → Option Obj → Option Obj) : ∀ (st : Store) (i j : Nat), (overStore g i st)[j]? = (st[j]?).map (g (i + j))
  | [], i, j => by simp [overStore]
  | o :: os, i, 0 => by simp [overStore]
  | o :: os, i, j + 1 => by
    simp only [overStore, List.getElem?_cons_succ]
    rw [overStore_get g os (i + 1) j, show i + 1 + j = i + (j + 1) by omega]
theorem overStore_len (g : Nat → Option Obj → Option Obj) : ∀ (st : Store) (i : Nat), (overStore g i st).length = st.length
  | [], i => rfl
  | o :: os, i => by simp [overStore, overStore_len g os]
theorem dropAll_len (st : Store) (ids : List Nat) : (dropAll st ids).length = st.length := overStore_len _ _ _
theorem dropAll_obj {st : Store} {ids : List Nat} {i : Nat} {o : Obj} : (dropAll st ids).obj i = some o ↔ st.obj i = some o ∧ i ∉ ids := by
  unfold dropAll Store.obj
  rw [overStore_get]
  cases hq : st[i]? with
  | none => simp
  | some x =>
    simp only [Option.map_some, Option.join_some, Nat.zero_add]
    by_cases h : i ∈ ids
    · simp [h]
    · simp [h]

/-! ### Renumbered -/
theorem renum_rep {f : Nat → Option Nat} (hf : ∀ i j L, f i = some j → loc i = some L → loc' j = some L) : ∀ (n : Nat) {v : Value} {d : D}, Rep I w loc v d → Rep I w loc' v (renum f n d)
  | 0, v, d, _ => .junk _ _
  | n + 1, v, d, h => by
    cases h with
    | int _ k n => exact .int _ _ _
    | bool _ b => exact .bool _ _
    | str _ s => exact .str _ _
    | agg _ cs ds hl h =>
      refine .agg _ _ _ (by simpa using hl) fun i c d hc hd => ?_
      simp only [List.getElem?_map] at hd
      obtain ⟨x, hx, rfl⟩ := Option.map_eq_some_iff.1 hd
      exact renum_rep hf n (h i c x hc hx)
    | tup _ cs ds hl h =>
      refine .tup _ _ _ (by simpa using hl) fun i c d hc hd => ?_
      simp only [List.getElem?_map] at hd
      obtain ⟨x, hx, rfl⟩ := Option.map_eq_some_iff.1 hd
      exact renum_rep hf n (h i c x hc hx)
    | slnil => exact .slnil _
    | sl _ b o cap k rows cell hb hc hk hcell h => exact .sl _ b o cap k rows cell hb hc hk hcell h
    | nsl => exact .nsl _
    | osl _ id off len L hL hn h =>
      simp only [renum]
      split
      · rename_i j hj; exact .osl _ j off len L (hf _ _ _ hj hL) hn h
      · exact .junk _ _
    | onil _ id L hL hn =>
      simp only [renum]
      split
      · rename_i j hj; exact .onil _ j L (hf _ _ _ hj hL) hn
      · exact .junk _ _
    | ptr _ id off L hL hn =>
      simp only [renum]
      split
      · rename_i j hj; exact .ptr _ j off L (hf _ _ _ hj hL) hn
      · exact .junk _ _
    | ept _ id r off L hL hn => exact .junk _ _
    | ipt _ b o cs cell hb hc h => exact .ipt _ b o cs cell hb hc h
    | clo _ f cs ds hl h =>
      refine .clo _ _ _ _ (by simpa using hl) fun i c d hc hd => ?_
      simp only [List.getElem?_map] at hd
      obtain ⟨x, hx, rfl⟩ := Option.map_eq_some_iff.1 hd
      exact renum_rep hf n (h i c x hc hx)
    | undef => exact .undef _
    | junk => exact .junk _ _

theorem renum_holds {f : Nat → Option Nat} (hf : ∀ i j L, f i = some j → loc i = some L → loc' j = some L) {i j : Nat} {o : Obj} (hij : ∀ L, loc i = some L → loc' j = some L) (h : Holds P loc I w i o) : Holds P loc' I w j (o.renum f) := by
  cases o with
  | bx cs =>
    obtain ⟨L, hL, hn, cur, t, hh, hs, hr⟩ := h
    refine ⟨L, hij L hL, hn, cur, t, hh, by simpa using hs, fun q d hd => ?_⟩
    simp only [List.getElem?_map] at hd
    obtain ⟨x, hx, rfl⟩ := Option.map_eq_some_iff.1 hd
    obtain ⟨v, hv, hrep⟩ := hr q x hx
    exact ⟨v, hv, renum_rep hf 3 hrep⟩
  | rw e rows =>
    obtain ⟨L, hL, hk, hok, hr⟩ := h
    exact ⟨L, hij L hL, hk, hok, hr⟩

/-! ### Lent -/
theorem lend_rep (hI : ∀ b, I b → I1 b) : ∀ (n : Nat) {v : Value} {d : D}, Rep I w loc v d →
    (∀ id ∈ reach n st d, ∀ o, st.obj id = some o → Holds P loc I w id o ∧ ∀ L, loc id = some L → L.nil = false → I1 L.b) → Rep I1 w Locs.no v (lend n st d)
  | 0, v, d, _, _ => .junk _ _
  | n + 1, v, d, h, hr => by
    cases h with
    | int _ k n => exact .int _ _ _
    | bool _ b => exact .bool _ _
    | str _ s => exact .str _ _
    | agg _ cs ds hl h =>
      refine .agg _ _ _ (by simpa using hl) fun i c d hc hd => ?_
      simp only [List.getElem?_map] at hd
      obtain ⟨x, hx, rfl⟩ := Option.map_eq_some_iff.1 hd
      exact lend_rep hI n (h i c x hc hx) fun id hid => hr id (by simp only [reach, List.mem_flatMap]; exact ⟨x, List.mem_of_getElem? hx, hid⟩)
    | tup _ cs ds hl h =>
      refine .tup _ _ _ (by simpa using hl) fun i c d hc hd => ?_
      simp only [List.getElem?_map] at hd
      obtain ⟨x, hx, rfl⟩ := Option.map_eq_some_iff.1 hd
      exact lend_rep hI n (h i c x hc hx) fun id hid => hr id (by simp only [reach, List.mem_flatMap]; exact ⟨x, List.mem_of_getElem? hx, hid⟩)
    | slnil => exact .slnil _
    | sl _ b o cap k rows cell hb hc hk hcell h => exact (Rep.sl Locs.no b o cap k rows cell hb hc hk hcell h).mono hI (fun _ _ => rfl) fun _ _ h => h
    | nsl => exact .slnil _
    | osl _ id off len L hL hn h =>
      simp only [lend]
      split
      · rename_i e rows ho
        split
        · rename_i hle
          obtain ⟨h1, h2⟩ := hr id (by simp [reach]) _ ho
          have hra := osl_rows hL hn h1 hle
          have hlen : ((rows.drop off).take len).length = len := by simp; omega
          have hra' : RowsAt I1 w L.b (off * L.k) L.k ((rows.drop off).take len) :=
            ⟨hra.1, fun i r j d hi hj => let ⟨u, hu, hrep⟩ := hra.2 i r j d hi hj; ⟨u, hu, hrep.mono hI (fun _ _ => rfl) fun _ _ h => h⟩⟩
          have := hra'.rep (loc := Locs.no) (cap := L.cap - off) (h2 L hL hn) (by rw [hlen]; omega)
          rw [hlen] at this
          exact this
        · exact .junk _ _
      · exact .junk _ _
    | onil _ id L hL hn =>
      simp only [lend]
      split
      · split
        · simpa using Rep.slnil Locs.no
        · exact .junk _ _
      · exact .junk _ _
    | ptr _ id off L hL hn =>
      simp only [lend]
      split
      · rename_i cs ho
        obtain ⟨h1, h2⟩ := hr id (by simp [reach]) _ ho
        obtain ⟨L', hL', hn', cur, t, hh, hs, hcells⟩ := h1
        rw [hL] at hL'; injection hL' with hL'; subst hL'
        have hget : ∀ (j : Nat) (x : D), (cs.drop off)[j]? = some x → ∃ u, w.cell? ⟨L.b, off + j, none⟩ = some u ∧ Rep I1 w Locs.no u (lend n st x) := by
          intro j x hx
          rw [List.getElem?_drop] at hx
          obtain ⟨u, hu, hrep⟩ := hcells _ x hx
          refine ⟨u, by rw [cell_of_row w L.b _ cur t (0, 0) hh]; exact hu, lend_rep hI n hrep fun i hi => hr i ?_⟩
          simp only [reach, ho, List.mem_cons, List.mem_flatMap]
          exact .inr ⟨x, List.mem_of_getElem? (i := j) (by rw [List.getElem?_drop]; exact hx), hi⟩
        refine .ipt _ L.b off _ (fun j => (w.cell? ⟨L.b, off + j, none⟩).getD Go.undef) (h2 L hL hn) (fun j hj => ?_) fun j d hd => ?_
        · have hj' : j < (cs.drop off).length := by simpa using hj
          obtain ⟨u, hu, _⟩ := hget j _ (List.getElem?_eq_getElem hj')
          rw [hu]; rfl
        · simp only [List.getElem?_map] at hd
          obtain ⟨x, hx, rfl⟩ := Option.map_eq_some_iff.1 hd
          obtain ⟨u, hu, hrep⟩ := hget j x hx
          rw [hu]; exact hrep
      · exact .junk _ _
    | ept _ id r off L hL hn => exact .junk _ _
    | ipt _ b o cs cell hb hc h => exact (Rep.ipt Locs.no b o cs cell hb hc h).mono hI (fun _ _ => rfl) fun _ _ h => h
    | clo _ f cs ds hl h =>
      refine .clo _ _ _ _ (by simpa using hl) fun i c d hc hd => ?_
      simp only [List.getElem?_map] at hd
      obtain ⟨x, hx, rfl⟩ := Option.map_eq_some_iff.1 hd
      exact lend_rep hI n (h i c x hc hx) fun id hid => hr id (by simp only [reach, List.mem_flatMap]; exact ⟨x, List.mem_of_getElem? hx, hid⟩)
    | undef => exact .undef _
    | junk => exact .junk _ _

/-! ### Bare -/
theorem bare_rep {I' : Nat → Prop} : ∀ (n : Nat) {v : Value} {d : D}, Rep I w loc v d → bare n d = true → Rep I' w' loc v d
  | 0, v, d, _, h => by simp [bare] at h
  | n + 1, v, d, h, hb => by
    cases h with
    | int _ k n => exact .int _ _ _
    | bool _ b => exact .bool _ _
    | str _ s => exact .str _ _
    | agg _ cs ds hl h => exact .agg _ _ _ hl fun i c d hc hd => bare_rep n (h i c d hc hd) (all_get (by simpa [bare] using hb) hd)
    | tup _ cs ds hl h => exact .tup _ _ _ hl fun i c d hc hd => bare_rep n (h i c d hc hd) (all_get (by simpa [bare] using hb) hd)
    | slnil => exact .slnil _
    | sl _ b o cap k rows cell hI hc hk hcell h =>
      have : rows = [] := by simpa [bare] using hb
      subst this
      exact .sl _ b o cap 0 [] (fun _ _ => Go.undef) (fun h => absurd rfl h) (by simp) (by simp) (fun i j hi => by simp at hi) fun i j r d h => by simp at h
    | nsl => exact .nsl _
    | osl _ id off len L hL hn h => exact .osl _ id off len L hL hn h
    | onil _ id L hL hn => exact .onil _ id L hL hn
    | ptr _ id off L hL hn => exact .ptr _ id off L hL hn
    | ept _ id r off L hL hn => simp [bare] at hb
    | ipt _ b o cs cell hI hc h => simp [bare] at hb
    | clo _ f cs ds hl h => simp [bare] at hb
    | undef => exact .undef _
    | junk => exact .junk _ _

theorem bare_holds {I' : Nat → Prop} {i : Nat} {o : Obj} (h : Holds P loc I w i o) (hb : bareO (some o) = true) : Holds P loc I' w i o := by
  cases o with
  | bx cs =>
    obtain ⟨L, hL, hn, cur, t, hh, hs, hr⟩ := h
    exact ⟨L, hL, hn, cur, t, hh, hs, fun q d hd => let ⟨v, hv, hrep⟩ := hr q d hd; ⟨v, hv, bare_rep 5 hrep (all_get (by simpa [bareO] using hb) hd)⟩⟩
  | rw e rows =>
    obtain ⟨L, hL, hk, hok, hr⟩ := h
    refine ⟨L, hL, hk, hok, ?_⟩
    rcases hr with hr | ⟨hn, cur, hh, h1, h2, h3, h4⟩
    · exact .inl hr
    · refine .inr ⟨hn, cur, hh, h1, h2, h3, fun i r j d hi hj => let ⟨v, h5, h6⟩ := h4 i r j d hi hj; ⟨v, h5, bare_rep 5 h6 ?_⟩⟩
      have hb2 : rows.all (fun r => r.all (bare 5)) = true := hb
      have hb3 : r.all (bare 5) = true := all_get hb2 hi
      exact all_get hb3 hj

theorem select_obj {ord : List Nat} {j : Nat} {o : Obj} (h : (select ord st).obj j = some o) : ∃ i q, ord[j]? = some i ∧ st.obj i = some q ∧ o = q.renum fun i => ord.idxOf? i := by
  unfold select Store.obj at h
  rw [List.getElem?_map] at h
  cases hq : ord[j]? with
  | none => simp [hq] at h
  | some i =>
    simp only [hq, Option.map_some, Option.join_some] at h
    obtain ⟨q, h1, h2⟩ := Option.map_eq_some_iff.1 h
    exact ⟨i, q, rfl, h1, h2.symm⟩
theorem select_len (ord : List Nat) (st : Store) : (select ord st).length = ord.length := by simp [select]

/-- Objects chosen and renumbered. -/
theorem sim_select (hs : Sim P loc I st w) {ord : List Nat} (hn : ord.Nodup) {I' : Nat → Prop} (hI : ∀ b, I b → I' b) (hsep : ∀ id ∈ ord, ∀ o L, st.obj id = some o → loc id = some L → L.nil = false → ¬ I' L.b) (hbnd : ∀ b, I' b → b < w.heap.size) :
    Sim P (fun j => (ord[j]?).bind loc) I' (select ord st) w := by
  have hf : ∀ i j L, (fun i => ord.idxOf? i) i = some j → loc i = some L → (fun j => (ord[j]?).bind loc) j = some L := fun i j L h hL => by
    simp only [idx_get h, Option.bind_some]; exact hL
  refine sim_part hs (fun j => (ord[j]?).getD 0) (fun j o h => ?_) (fun i j o o' hi hj e => ?_) (fun j o L h hL hnil => ?_) hbnd fun j hj => ?_
  · obtain ⟨i, q, h1, h2, rfl⟩ := select_obj h
    refine ⟨renum_holds hf (i := i) (fun L hL => by simp only [h1, Option.bind_some]; exact hL) ((hs.obj i q h2).mono (fun _ _ h => h) hI (fun _ _ => rfl) fun _ _ _ => rfl), q, by simp only [h1, Option.getD_some]; exact h2, fun L hL => ?_⟩
    simp only [h1, Option.bind_some] at hL
    simp only [h1, Option.getD_some]
    exact hL
  · obtain ⟨i', q, h1, _⟩ := select_obj hi
    obtain ⟨j', q', h2, _⟩ := select_obj hj
    simp only [h1, h2, Option.getD_some] at e
    subst e
    have e1 := idx_nodup hn h1
    rw [idx_nodup hn h2] at e1
    injection e1 with e1
    exact e1.symm
  · obtain ⟨i, q, h1, h2, _⟩ := select_obj h
    simp only [h1, Option.getD_some] at hL
    exact hsep i (List.mem_of_getElem? h1) q L h2 hL hnil
  · rw [select_len] at hj
    simp [List.getElem?_eq_none hj]

end Go.Vi
