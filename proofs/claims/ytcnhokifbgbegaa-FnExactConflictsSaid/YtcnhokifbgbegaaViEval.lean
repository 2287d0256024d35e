/- Vi: the operations that look at no object of the store, or make one. -/
import Derived.Test.YtcnhokifbgbegaaViLoad
set_option linter.unusedSimpArgs false
set_option linter.unusedVariables false
namespace Go.Vi
open Go.RowKit
variable {P : Program} {loc : Locs} {I : Nat → Prop} {st : Store} {w : World}

theorem pickD_eq (p : Bool) (a b : D) : pickD p a b = if p then a else b := by
  unfold pickD; split <;> cases p <;> rfl
theorem pickD_rep {va vb : Value} {a b : D} (ha : Rep I w loc va a) (hb : Rep I w loc vb b) (p : Bool) : Rep I w loc (if p then va else vb) (pickD p a b) := by
  rw [pickD_eq]; cases p <;> simpa

/-- A value's cells are those told. -/
def cellsOk (v : Value) (z : List D) : Bool := v.cells.size == z.length && (v.cells.toList.zip z).all fun p => constOk p.1 p.2
theorem cellsOk_spec {v : Value} {z : List D} (h : cellsOk v z = true) : v.cells.toList.length = z.length ∧ ∀ (i : Nat) (c : Value) (d : D), v.cells.toList[i]? = some c → z[i]? = some d → constOk c d = true := by
  simp only [cellsOk, Bool.and_eq_true, beq_iff_eq, List.all_eq_true] at h
  refine ⟨by simpa using h.1, fun i c d h1 h2 => h.2 (c, d) (List.mem_of_getElem? (i := i) ?_)⟩
  rw [List.getElem?_zip_eq_some]
  exact ⟨h1, h2⟩
def zeroOk (P : Program) (t : TypeId) (z : List D) : Bool := match P.info? t with | some i => (match i.zero with | some v => cellsOk v z && i.size == z.length | none => false) | none => false

theorem alloc_sound (hs : Sim P loc I st w) {t : TypeId} {z : List D} (hz : zeroOk P t z = true) :
    ∃ v w' loc', (Instr.alloc t true (.tuple #[])).run P w = .ok v w' ∧ Rep I w' loc' v (.ptr st.length 0) ∧ Later P loc I st w loc' I (st ++ [some (.bx z)]) w' ∧ Ext loc loc' := by
  unfold zeroOk at hz
  split at hz
  · rename_i i hi
    split at hz
    · rename_i v hv
      simp only [Bool.and_eq_true, beq_iff_eq] at hz
      obtain ⟨hl, hc⟩ := cellsOk_spec hz.1
      refine ⟨.pointer (some ⟨w.heap.size, 0, none⟩), w.alloc (.cells v.cells t), upd loc st.length ⟨w.heap.size, false, 0, 0⟩, ?_, .ptr _ st.length 0 ⟨w.heap.size, false, 0, 0⟩ (upd_self _ _ _) rfl, ?_, upd_ext (hs.new _ (Nat.le_refl _))⟩
      · simp [Instr.alloc, zeroValue, typeInfo, hi, hv, newVar, newRow]
      · refine later_new hs _ _ _ rfl ⟨_, upd_self _ _ _, rfl, v.cells, t, heap_alloc_new w _, by simpa using hl, fun j d hd => ?_⟩
        have hj : j < v.cells.toList.length := by have := (List.getElem?_eq_some_iff.1 hd).1; omega
        exact ⟨v.cells.toList[j], by simp, constOk_rep (hc j _ d (List.getElem?_eq_getElem hj) hd) _ _ _⟩
    · cases hz
  · cases hz

theorem box_sound (hs : Sim P loc I st w) {t : TypeId} {v : Value} {x : D} (hx : Rep I w loc v x) {d : D} {st' : Store} (hd : boxE x st = some (d, st')) :
    ∃ u w' loc', (Instr.box t v).run P w = .ok u w' ∧ Rep I w' loc' u d ∧ Later P loc I st w loc' I st' w' ∧ Ext loc loc' := by
  unfold boxE at hd
  split at hd
  · rename_i hone
    injection hd with hd
    injection hd with h1 h2
    subst h1; subst h2
    obtain ⟨hl, hrep⟩ := hx.cells hone
    have hext : Ext loc (upd loc st.length ⟨w.heap.size, false, 0, 0⟩) := upd_ext (hs.new _ (Nat.le_refl _))
    refine ⟨.pointer (some ⟨w.heap.size, 0, none⟩), w.alloc (.cells v.cells t), upd loc st.length ⟨w.heap.size, false, 0, 0⟩, ?_, .ptr _ st.length 0 ⟨w.heap.size, false, 0, 0⟩ (upd_self _ _ _) rfl, ?_, hext⟩
    · simp [Instr.box, newVar, newRow]
    · refine later_new hs _ _ _ rfl ⟨_, upd_self _ _ _, rfl, v.cells, t, heap_alloc_new w _, by simpa using hl, fun j d hd => ?_⟩
      have hj : j < v.cells.toList.length := by have := (List.getElem?_eq_some_iff.1 hd).1; omega
      exact ⟨v.cells.toList[j], by simp, (hrep j _ d (List.getElem?_eq_getElem hj) hd).mono (fun _ h => h) (fun b hb => Below.heap_alloc w _ b (hs.bnd b hb)) hext⟩
  · cases hd

/-! ### Addresses -/
def okFld (P : Program) (s : TypeId) (f off : Nat) : Bool :=
  match P.underlying s with
  | some (.struct fs) => (match fs[f]? with | some x => x.offset == off && (match P.info? x.type with | some i => i.size != 0 | none => false) | none => false)
  | _ => false
theorem field_sound {s : TypeId} {f off : Nat} (h : okFld P s f off = true) {v : Value} {x : D} (hx : Rep I w loc v x) {d : D} (hd : fieldD off x = some d) :
    ∃ u, (Instr.fieldAt s v f).run P w = .ok u w ∧ Rep I w loc u d := by
  unfold okFld at h
  split at h
  · rename_i fs hu
    split at h
    · rename_i x' hf
      simp only [Bool.and_eq_true, beq_iff_eq] at h
      obtain ⟨hoff, h⟩ := h
      split at h
      · rename_i i hi
        have hne : i.size ≠ 0 := by simpa using h
        have key : ∀ b o, (Instr.fieldAt s (.pointer (some ⟨b, o, none⟩)) f).run P w = .ok (.pointer (some ⟨b, o + off, none⟩)) w := by
          intro b o
          simp [Instr.fieldAt, run_underlying hu, hf, Instr.sureAddr, fieldPlace, run_sizeOf hi, hne, hoff, add_at]
        cases hx with
        | ptr _ id o L hL hn => injection hd with hd; subst hd; exact ⟨_, key _ _, .ptr _ id _ L hL hn⟩
        | ept _ id r o L hL hn => injection hd with hd; subst hd; exact ⟨_, by rw [key, Nat.add_assoc], .ept _ id r _ L hL hn⟩
        | ipt _ b o cs cell hI hc hr =>
          injection hd with hd; subst hd
          exact ⟨_, key _ _, .ipt _ b (o + off) _ (fun j => cell (off + j)) hI (fun j hj => by rw [Nat.add_assoc]; exact hc _ (by simp at hj; omega)) fun j d hj => hr _ d (by simpa [List.getElem?_drop] using hj)⟩
        | _ => simp [fieldD] at hd
      · cases h
    · cases h
  · cases h

def okElem (P : Program) (t e k : Nat) : Bool := match P.underlying t with | some (.slice e') => e' == e && (match P.info? e with | some i => i.size == k && i.size != 0 | none => false) | _ => false
theorem okElem_spec {t e k : Nat} (h : okElem P t e k = true) : P.underlying t = some (.slice e) ∧ ∃ i, P.info? e = some i ∧ i.size = k ∧ k ≠ 0 ∧ P.cellsOf e = k := by
  unfold okElem at h
  split at h
  · rename_i e' hu
    simp only [Bool.and_eq_true, beq_iff_eq] at h
    obtain ⟨rfl, h⟩ := h
    split at h
    · rename_i i hi
      simp only [Bool.and_eq_true, beq_iff_eq, bne_iff_ne] at h
      exact ⟨hu, i, hi, h.1, h.1 ▸ h.2, by simp [Program.cellsOf, hi, h.1]⟩
    · cases h
  · cases h

theorem run_indexAt' {t e : TypeId} {i : TypeInfo} (hu : P.underlying t = some (.slice e)) (hi : P.info? e = some i) (b o len cap : Nat) (kk : IntKind) (n : Int) (h0 : 0 ≤ n) (h1 : n < len) :
    (Instr.indexAt t (.slice (some ⟨b, o, none⟩) len cap) (.int kk n)).run P w = .ok (.pointer (some ⟨b, o + n.toNat * i.size, none⟩)) w := by
  simp [Instr.indexAt, asIntOf, run_underlying hu, h0, h1, run_sizeOf hi, add_at]

theorem index_sound (hs : Sim P loc I st w) {t e k : Nat} (h : okElem P t e k = true) {v u : Value} {x y : D} (hx : Rep I w loc v x) (hy : Rep I w loc u y) {d : D} (hd : ixsD st e k x y = some d) :
    ∃ q, (Instr.indexAt t v u).run P w = .ok q w ∧ Rep I w loc q d := by
  obtain ⟨hu, i, hi, hik, hk0, hck⟩ := okElem_spec h
  cases hy with
  | int _ kk n =>
    simp only [ixsD] at hd
    cases hx with
    | slnil =>
      simp only [indexD] at hd
      split at hd
      · simp [rowPt] at hd
      · cases hd
    | sl _ b o cap k' rows cell hb hc hkr hcell hr =>
      simp only [indexD] at hd
      split at hd
      · rename_i h0
        unfold rowPt at hd
        split at hd
        · rename_i r hrow
          split at hd
          · rename_i hrk
            injection hd with hd
            subst hd
            have hlt : n.toNat < rows.length := (List.getElem?_eq_some_iff.1 hrow).1
            have hk' : k' = k := by rw [← hrk]; exact (hkr r (List.mem_of_getElem? hrow)).symm
            subst hk'
            refine ⟨_, run_indexAt' hu hi b o rows.length cap kk n h0 (by omega), .ipt _ b _ r (fun j => cell n.toNat j) (hb (by rintro rfl; simp at hlt)) (fun j hj => ?_) fun j d hj => hr _ j r d hrow hj⟩
            rw [hik, Nat.add_assoc]
            exact hcell _ j hlt (by omega)
          · cases hd
        · cases hd
      · cases hd
    | osl _ id off len L hL hn hcap =>
      simp only [indexD] at hd
      split at hd
      · rename_i e' rows ho
        split at hd
        · rename_i hc
          obtain ⟨h0, h1, rfl⟩ := hc
          injection hd with hd
          subst hd
          obtain ⟨L', hL', hLk, _⟩ := hs.obj id _ ho
          rw [hL] at hL'; injection hL' with hL'; subst hL'
          refine ⟨_, run_indexAt' hu hi L.b (off * L.k) len (L.cap - off) kk n h0 h1, ?_⟩
          have : off * L.k + n.toNat * i.size = (off + n.toNat) * L.k + 0 := by rw [hik, hLk, hck, Nat.add_mul]; rfl
          rw [this]
          exact .ept _ id (off + n.toNat) 0 L hL hn
        · cases hd
      · cases hd
    | onil _ id L hL hn =>
      simp only [indexD] at hd
      split at hd
      · split at hd
        · rename_i hc; omega
        · cases hd
      · cases hd
    | _ => simp [indexD] at hd
  | _ => simp [ixsD] at hd

def okArr (P : Program) (t n k : Nat) : Bool := match P.underlying t with | some (.array n' e) => n' == n && (match P.info? e with | some i => i.size == k | none => false) | _ => false
theorem indexArr_sound {t n k : Nat} (h : okArr P t n k = true) {v u : Value} {x y : D} (hx : Rep I w loc v x) (hy : Rep I w loc u y) {d : D} (hd : ixaD n k x y = some d) :
    ∃ q, (Instr.indexAt t v u).run P w = .ok q w ∧ Rep I w loc q d := by
  unfold okArr at h
  split at h
  · rename_i n' e hu
    simp only [Bool.and_eq_true, beq_iff_eq] at h
    obtain ⟨rfl, h⟩ := h
    split at h
    · rename_i i hi
      simp only [beq_iff_eq] at h
      cases hy with
      | int _ kk m =>
        simp only [ixaD] at hd
        split at hd
        · rename_i hm
          have key : ∀ b o, (Instr.indexAt t (.pointer (some ⟨b, o, none⟩)) (.int kk m)).run P w = .ok (.pointer (some ⟨b, o + m.toNat * k, none⟩)) w := by
            intro b o
            simp [Instr.indexAt, asIntOf, run_underlying hu, Instr.sureAddr, hm.1, hm.2, run_sizeOf hi, add_at, h]
          cases hx with
          | ptr _ id o L hL hn => injection hd with hd; subst hd; exact ⟨_, key _ _, .ptr _ id _ L hL hn⟩
          | ept _ id r o L hL hn => injection hd with hd; subst hd; exact ⟨_, by rw [key, Nat.add_assoc], .ept _ id r _ L hL hn⟩
          | ipt _ b o cs cell hI hc hr =>
            injection hd with hd; subst hd
            exact ⟨_, key _ _, .ipt _ b _ _ (fun j => cell (m.toNat * k + j)) hI (fun j hj => by rw [Nat.add_assoc]; exact hc _ (by simp at hj; omega)) fun j d hj => hr _ d (by simpa [List.getElem?_drop] using hj)⟩
          | _ => simp [fieldD] at hd
        · cases hd
      | _ => simp [ixaD] at hd
    · cases h
  · cases h

theorem str_get (s : ByteArray) (i : Nat) : s.data.toList[i]? = s[i]? := by
  by_cases h : i < s.size
  · have h' : i < s.data.toList.length := by rw [Array.length_toList]; exact h
    rw [List.getElem?_eq_getElem h', getElem?_pos s i h]
    rfl
  · have h' : ¬ i < s.data.toList.length := by rw [Array.length_toList]; exact h
    rw [List.getElem?_eq_none (by omega), getElem?_neg s i h]

theorem indexStr_sound {t : TypeId} (hu : P.underlying t = some .string) {v u : Value} {x y : D} (hx : Rep I w loc v x) (hy : Rep I w loc u y) {d : D} (hd : ixtD x y = some d) :
    ∃ q, (Instr.index t v u).run P w = .ok q w ∧ Rep I w loc q d := by
  cases hx with
  | str _ s =>
    cases hy with
    | int _ kk n =>
      simp only [ixtD] at hd
      split at hd
      · rename_i h0
        rw [str_get] at hd
        unfold byteAt at hd
        split at hd
        · rename_i b hb
          injection hd with hd
          subst hd
          exact ⟨_, by simp [Instr.index, asIntOf, run_underlying hu, h0, hb], .int _ _ _⟩
        · cases hd
      · cases hd
    | _ => simp [ixtD] at hd
  | _ => simp [ixtD] at hd

theorem extr_sound {v : Value} {x : D} (hx : Rep I w loc v x) {j : Nat} {d : D} (hd : extrD x j = some d) : ∃ q, (Instr.extract v j).run P w = .ok q w ∧ Rep I w loc q d := by
  cases hx with
  | tup _ cs ds hl h =>
    simp only [extrD] at hd
    have hj : j < cs.length := by have := (List.getElem?_eq_some_iff.1 hd).1; omega
    refine ⟨cs[j], ?_, h j _ d (List.getElem?_eq_getElem hj) hd⟩
    have e : cs.toArray[j]? = some cs[j] := by rw [List.getElem?_toArray]; exact List.getElem?_eq_getElem hj
    simp only [Instr.extract, e]
    rfl
  | _ => simp [extrD] at hd

theorem rep_len {v : Value} {x : D} (hx : Rep I w loc v x) {n : Nat} (hd : lenD x = some n) : (∃ a c, v = .slice a n c) ∨ (∃ s : ByteArray, v = .string s ∧ s.size = n) := by
  cases hx with
  | str _ s => injection hd with hd; exact .inr ⟨s, rfl, by rw [← hd, Array.length_toList]; rfl⟩
  | slnil => injection hd with hd; subst hd; exact .inl ⟨_, _, rfl⟩
  | sl _ b o cap k rows cell hb hc hk hcell h => injection hd with hd; subst hd; exact .inl ⟨_, _, rfl⟩
  | nsl => injection hd with hd; subst hd; exact .inl ⟨_, _, rfl⟩
  | osl _ id off len L hL hn h => injection hd with hd; subst hd; exact .inl ⟨_, _, rfl⟩
  | onil _ id L hL hn => injection hd with hd; subst hd; exact .inl ⟨_, _, rfl⟩
  | _ => simp [lenD] at hd
def okLen (P : Program) (s : Bool) (t : TypeId) : Bool := match P.underlying t with | some (.slice _) => !s | some .string => s | _ => false
theorem len_sound {s : Bool} {t ty : TypeId} (h : okLen P s t = true) {v : Value} {x : D} (hx : Rep I w loc v x) {d : D} (hd : lenE s x = some d) :
    ∃ q, (Builtin.len_ #[t] ty #[v]).run P w = .ok q w ∧ Rep I w loc q d := by
  unfold lenE at hd
  split at hd
  · rename_i hs
    split at hd
    · rename_i n hn
      injection hd with hd
      subst hd
      unfold okLen at h
      rcases rep_len hx hn with ⟨a, c, rfl⟩ | ⟨z, rfl, hz⟩
      · have : isStr x = false := by cases hx <;> rfl
        rw [this] at hs
        subst hs
        split at h
        · rename_i e he
          exact ⟨.int .i64 n, by simp [Builtin.len_, run_underlying he, goInt], .int _ _ _⟩
        · simp at h
        · cases h
      · have : isStr x = true ∨ x = .junk := by cases hx <;> first | exact .inl rfl | exact .inr rfl
        rcases this with this | rfl
        · rw [this] at hs
          subst hs
          split at h
          · simp at h
          · rename_i he
            exact ⟨.int .i64 n, by simp [Builtin.len_, run_underlying he, goInt, hz], .int _ _ _⟩
          · cases h
        · simp [lenD] at hn
    · cases hd
  · cases hd
end Go.Vi
