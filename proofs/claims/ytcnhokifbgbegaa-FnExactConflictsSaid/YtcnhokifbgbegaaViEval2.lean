/- Vi: literals, slices, append, conversions, arithmetic. -/
import Derived.Test.YtcnhokifbgbegaaViEval
import Derived.Lib.Strings
set_option linter.unusedSimpArgs false
set_option linter.unusedVariables false
namespace Go.Vi
open Go.RowKit
variable {P : Program} {loc : Locs} {I : Nat → Prop} {st : Store} {w : World}

/-! ### What a slice's value leads to -/
/-- Rows in memory from offset o of block b on, so many cells each. -/
def RowsAt (I : Nat → Prop) (w : World) (b o k : Nat) (rows : List (List D)) : Prop :=
  (∀ r ∈ rows, r.length = k) ∧ ∀ (i : Nat) (r : List D) (j : Nat) (d : D), rows[i]? = some r → r[j]? = some d → ∃ u, w.cell? ⟨b, o + (i * k + j), none⟩ = some u ∧ Rep I w Locs.no u d

theorem rows_at (hs : Sim P loc I st w) {v : Value} {x : D} (hx : Rep I w loc v x) {rows : List (List D)} (hr : rowsD st x = some rows) :
    (v = .slice none 0 0 ∧ rows = []) ∨ ∃ b o cap k, v = .slice (some ⟨b, o, none⟩) rows.length cap ∧ RowsAt I w b o k rows := by
  cases hx with
  | slnil => injection hr with hr; exact .inl ⟨rfl, hr.symm⟩
  | nsl => injection hr with hr; exact .inl ⟨rfl, hr.symm⟩
  | sl _ b o cap k rows' cell hb hc hk hcell h =>
    injection hr with hr
    subst hr
    refine .inr ⟨b, o, cap, k, rfl, hk, fun i r j d hi hj => ⟨cell i j, hcell i j (List.getElem?_eq_some_iff.1 hi).1 ?_, h i j r d hi hj⟩⟩
    rw [← hk r (List.mem_of_getElem? hi)]
    exact (List.getElem?_eq_some_iff.1 hj).1
  | osl _ id off len L hL hn hcap =>
    simp only [rowsD] at hr
    split at hr
    · rename_i e rows' ho
      split at hr
      · rename_i hle
        injection hr with hr
        subst hr
        have hh := hs.obj id _ ho
        obtain ⟨L', hL', hLk, hok, hhh⟩ := hh
        rw [hL] at hL'; injection hL' with hL'; subst hL'
        rcases hhh with ⟨h0, _⟩ | ⟨_, cur, hh, h1, h2, h3, h4⟩
        · rw [hn] at h0; cases h0
        · have hlen : ((rows'.drop off).take len).length = len := by simp; omega
          refine .inr ⟨L.b, off * L.k, L.cap - off, L.k, by rw [hlen], fun r hr => ?_, fun i r j d hi hj => ?_⟩
          · have := hok r (List.mem_of_mem_drop (List.mem_of_mem_take hr))
            simp [rowOk] at this
            exact this.1
          · have hil : i < len := by have := (List.getElem?_eq_some_iff.1 hi).1; omega
            rw [List.getElem?_take, if_pos hil, List.getElem?_drop] at hi
            obtain ⟨u, hu, hrep⟩ := h4 _ r j d hi hj
            refine ⟨u, ?_, hrep⟩
            rw [cell_of_row w L.b _ cur e (0, 0) hh, ← hu]
            congr 1
            rw [Nat.add_mul]; omega
      · cases hr
    · cases hr
  | onil _ id L hL hn =>
    simp only [rowsD] at hr
    split at hr
    · split at hr
      · injection hr with hr; exact .inl ⟨rfl, by rw [← hr]; simp⟩
      · cases hr
    · cases hr
  | _ => simp [rowsD] at hr

theorem RowsAt.rep {b o k cap : Nat} {rows : List (List D)} (h : RowsAt I w b o k rows) (hI : I b) (hc : rows.length ≤ cap) : Rep I w loc (.slice (some ⟨b, o, none⟩) rows.length cap) (.sl rows) := by
  refine .sl _ b o cap k rows (fun i j => (w.cell? ⟨b, o + (i * k + j), none⟩).getD Go.undef) (fun _ => hI) hc h.1 (fun i j hi hj => ?_) fun i j r d hi hj => ?_
  · have hr := h.1 _ (List.getElem_mem hi)
    obtain ⟨u, hu, _⟩ := h.2 i rows[i] j (rows[i][j]'(by omega)) (List.getElem?_eq_getElem hi) (List.getElem?_eq_getElem _)
    rw [hu]; rfl
  · obtain ⟨u, hu, hrep⟩ := h.2 i r j d hi hj
    rw [hu]; exact hrep

/-! ### Slicing -/
def okSlc (P : Program) (t e k : Nat) : Bool := okElem P t e k || (match P.underlying t with | some .string => k == 0 | _ => false)
theorem run_slice_vals {t e : TypeId} {i : TypeInfo} (hu : P.underlying t = some (.slice e)) (hi : P.info? e = some i) (a : Option Addr) (len cap : Nat) (lo hi' : Option Value) (l h : Int)
    (hlo : (lo = none ∧ l = 0) ∨ ∃ k, lo = some (.int k l)) (hhi : (hi' = none ∧ h = len) ∨ ∃ k, hi' = some (.int k h)) (h0 : 0 ≤ l) (h1 : l ≤ h) (h2 : h ≤ cap) (hlc : len ≤ cap) :
    (Instr.sliceAt t (.slice a len cap) lo hi' none).run P w = .ok (.slice (if cap = l.toNat then a else a.map (·.add (l.toNat * i.size))) (h.toNat - l.toNat) (cap - l.toNat)) w := by
  have eh : (h.toNat : Int) = h := Int.toNat_of_nonneg (by omega)
  have h3 : 0 ≤ h := by omega
  have hu' : P.underlying t = some (.slice (P.elem t)) := by simp [Program.elem, hu]
  have hel : P.elem t = e := by simp [Program.elem, hu]
  have hsz : (sizeOf (P.elem t)).run P w = .ok i.size w := by rw [hel]; exact run_sizeOf hi w
  rw [run_sliceAt_slice (h := hu')]
  rcases hlo with ⟨rfl, rfl⟩ | ⟨kl, rfl⟩ <;> rcases hhi with ⟨rfl, rfl⟩ | ⟨kh, rfl⟩
  · rw [run_slice_all (ht := hu'), hsz]; simp [Result.andThen, sliced]
  · rw [run_slice_h (ht := hu') (h0 := h3) (h2 := h2), hsz]; simp [Result.andThen, sliced]
  · rw [run_slice_l (ht := hu') (h0 := h0) (h1 := h1), hsz]; simp [Result.andThen, sliced]
  · rw [run_slice_lh (ht := hu') (h0 := h0) (h1 := h1) (h2 := h2), hsz]; simp [Result.andThen, sliced]

theorem run_slice_strs {t : TypeId} (hu : P.underlying t = some .string) (s : ByteArray) (lo hi' : Option Value) (l h : Int)
    (hlo : (lo = none ∧ l = 0) ∨ ∃ k, lo = some (.int k l)) (hhi : (hi' = none ∧ h = s.size) ∨ ∃ k, hi' = some (.int k h)) (h0 : 0 ≤ l) (h1 : l ≤ h) (h2 : h ≤ s.size) :
    (Instr.sliceAt t (.string s) lo hi' none).run P w = .ok (.string (s.extract l.toNat h.toNat)) w := by
  have eh : (h.toNat : Int) = h := Int.toNat_of_nonneg (by omega)
  have h3 : 0 ≤ h := by omega
  rw [run_sliceAt_string (h := hu)]
  rcases hlo with ⟨rfl, rfl⟩ | ⟨kl, rfl⟩ <;> rcases hhi with ⟨rfl, rfl⟩ | ⟨kh, rfl⟩ <;>
    simp [Instr.slice, run_underlying hu, Instr.sliceBounds, run_sliceBound, *, eh]

theorem sliceV_sound (hs : Sim P loc I st w) {t e k : Nat} (hok : okSlc P t e k = true) {v : Value} {x : D} (hx : Rep I w loc v x) {l h : Int} {lo hi' : Option Value}
    (hlo : (lo = none ∧ l = 0) ∨ ∃ k, lo = some (.int k l)) (hhi : (hi' = none ∧ lenD x = some h.toNat ∧ 0 ≤ h) ∨ ∃ k, hi' = some (.int k h)) {d : D} (hd : sliceV st e k x l h = some d) :
    ∃ q, (Instr.sliceAt t v lo hi' none).run P w = .ok q w ∧ Rep I w loc q d := by
  have hel : k ≠ 0 → okElem P t e k = true := by
    intro hk
    simp only [okSlc, Bool.or_eq_true] at hok
    rcases hok with h1 | h1
    · exact h1
    · split at h1
      · simp at h1; exact absurd h1 hk
      · cases h1
  have hhi' : ∀ n : Nat, lenD x = some n → (hi' = none ∧ h = n) ∨ ∃ k, hi' = some (.int k h) := by
    intro n hn
    rcases hhi with ⟨rfl, h1, h2⟩ | h1
    · rw [hn] at h1; injection h1 with h1; exact .inl ⟨rfl, by omega⟩
    · exact .inr h1
  cases hx with
  | str _ s =>
    simp only [sliceV] at hd
    split at hd
    · rename_i hc
      obtain ⟨h0, h1, h2, hk⟩ := hc
      injection hd with hd
      subst hd
      have hu : P.underlying t = some .string := by
        simp only [okSlc, Bool.or_eq_true] at hok
        rcases hok with h1 | h1
        · obtain ⟨_, _, _, _, h5, _⟩ := okElem_spec h1; exact absurd hk h5
        · split at h1
          · assumption
          · cases h1
      have hsz : s.data.toList.length = s.size := by rw [Array.length_toList]; rfl
      refine ⟨_, run_slice_strs hu s lo hi' l h hlo (hhi' s.size (by simp [lenD])) h0 h1 (by omega), ?_⟩
      have : (s.extract l.toNat h.toNat).data.toList = (s.data.toList.drop l.toNat).take (h.toNat - l.toNat) := by
        rw [Lib.extract_data]
      rw [← this]
      exact .str _ _
    · cases hd
  | slnil =>
    simp only [sliceV] at hd
    split at hd
    · rename_i hc
      obtain ⟨h0, h1, h2, _, hk⟩ := hc
      injection hd with hd
      subst hd
      obtain ⟨hu, i, hi, _⟩ := okElem_spec (hel hk)
      have hl0 : l = 0 := by simp at h2; omega
      have hh0 : h = 0 := by simp at h2; omega
      subst hl0; subst hh0
      exact ⟨_, run_slice_vals hu hi none 0 0 lo hi' 0 0 hlo (hhi' 0 rfl) (Int.le_refl _) (Int.le_refl _) (Int.le_refl _) (Nat.le_refl _), by simpa using Rep.slnil loc⟩
    · cases hd
  | nsl =>
    simp only [sliceV] at hd
    split at hd
    · rename_i hc
      obtain ⟨rfl, rfl, hk⟩ := hc
      injection hd with hd
      subst hd
      obtain ⟨hu, i, hi, _⟩ := okElem_spec (hel hk)
      exact ⟨_, run_slice_vals hu hi none 0 0 lo hi' 0 0 hlo (hhi' 0 rfl) (Int.le_refl _) (Int.le_refl _) (Int.le_refl _) (Nat.le_refl _), by simpa using Rep.nsl loc⟩
    · cases hd
  | sl _ b o cap k' rows cell hb hc hkr hcell hr =>
    simp only [sliceV] at hd
    split at hd
    · rename_i hcc
      obtain ⟨h0, h1, h2, hfit, hk⟩ := hcc
      injection hd with hd
      subst hd
      obtain ⟨hu, i, hi, hik, _⟩ := okElem_spec (hel hk)
      refine ⟨_, run_slice_vals hu hi _ rows.length cap lo hi' l h hlo (hhi' _ rfl) h0 h1 (by omega) hc, ?_⟩
      have hlen : ((rows.drop l.toNat).take (h.toNat - l.toNat)).length = h.toNat - l.toNat := by simp; omega
      by_cases hempty : h.toNat - l.toNat = 0
      · have hnil : (rows.drop l.toNat).take (h.toNat - l.toNat) = [] := by rw [hempty]; simp
        rw [hnil, hempty]
        have key : ∀ o' c, Rep I w loc (.slice (some ⟨b, o', none⟩) 0 c) (.sl []) := fun o' c => .sl _ b o' c 0 [] (fun _ _ => Go.undef) (fun h => absurd rfl h) (by simp) (by simp) (fun i j hi => by simp at hi) fun i j r d h => by simp at h
        split
        · exact key _ _
        · simp only [Option.map_some, add_at]; exact key _ _
      · have hll : l.toNat < rows.length := by omega
        have hk' : k' = k := by
          rw [List.getElem?_eq_getElem hll] at hfit
          simp [rowFits] at hfit
          rw [← hfit]
          exact (hkr _ (List.getElem_mem hll)).symm
        subst hk'
        rw [if_neg (by omega)]
        simp only [Option.map_some, add_at]
        have q : Rep I w loc _ _ := Rep.sl (I := I) (w := w) loc b (o + l.toNat * i.size) (cap - l.toNat) k' ((rows.drop l.toNat).take (h.toNat - l.toNat)) (fun i j => cell (l.toNat + i) j) (fun hne => hb (by rintro rfl; simp at hne)) (by rw [hlen]; omega) (fun r hr => hkr r (List.mem_of_mem_drop (List.mem_of_mem_take hr))) (fun i' j hi' hj => by
            rw [hlen] at hi'
            rw [← hcell (l.toNat + i') j (by omega) hj, hik]
            congr 2
            rw [Nat.add_mul]; omega) fun i' j r d hi' hj => by
            have hil : i' < h.toNat - l.toNat := by have := (List.getElem?_eq_some_iff.1 hi').1; omega
            rw [List.getElem?_take, if_pos hil, List.getElem?_drop] at hi'
            exact hr _ j r d hi' hj
        rw [hlen] at q
        exact q
    · cases hd
  | osl _ id off len L hL hn hcap =>
    simp only [sliceV] at hd
    split at hd
    · rename_i e' rows ho
      split at hd
      · rename_i hcc
        obtain ⟨h0, h1, h2, rfl, hk, hlt⟩ := hcc
        injection hd with hd
        subst hd
        obtain ⟨hu, i, hi, hik, _, hck⟩ := okElem_spec (hel hk)
        obtain ⟨L', hL', hLk, _⟩ := hs.obj id _ ho
        rw [hL] at hL'; injection hL' with hL'; subst hL'
        refine ⟨_, run_slice_vals hu hi _ len (L.cap - off) lo hi' l h hlo (hhi' _ rfl) h0 h1 (by omega) (by omega), ?_⟩
        have e1 : (if L.cap - off = l.toNat then some (⟨L.b, off * L.k, none⟩ : Addr) else (some (⟨L.b, off * L.k, none⟩ : Addr)).map (·.add (l.toNat * i.size))) = some ⟨L.b, (off + l.toNat) * L.k, none⟩ := by
          split
          · have : l.toNat = 0 := by omega
            rw [this]; rfl
          · simp only [Option.map_some, add_at, hik, hLk, hck, Nat.add_mul]
        rw [e1, show L.cap - off - l.toNat = L.cap - (off + l.toNat) by omega]
        exact .osl _ id _ _ L hL hn (by omega)
      · cases hd
    · cases hd
  | onil _ id L hL hn =>
    simp only [sliceV] at hd
    split at hd
    · rename_i e' rows ho
      split at hd
      · rename_i hcc
        obtain ⟨h0, h1, h2, rfl, hk, hlt⟩ := hcc
        injection hd with hd
        subst hd
        obtain ⟨hu, i, hi, _⟩ := okElem_spec (hel hk)
        have hl0 : l = 0 := by omega
        have hh0 : h = 0 := by omega
        subst hl0; subst hh0
        exact ⟨_, run_slice_vals hu hi none 0 0 lo hi' 0 0 hlo (hhi' 0 rfl) (Int.le_refl _) (Int.le_refl _) (Int.le_refl _) (Nat.le_refl _), by simpa using Rep.onil loc id L hL hn⟩
      · cases hd
    · cases hd
  | _ => simp [sliceV] at hd

theorem sliceD_sound (hs : Sim P loc I st w) {t e k : Nat} (hok : okSlc P t e k = true) {v : Value} {x : D} (hx : Rep I w loc v x) {lo hi' : Option Value} {dl dh : Option D}
    (hlo : (lo = none ∧ dl = none) ∨ ∃ u y, lo = some u ∧ dl = some y ∧ Rep I w loc u y) (hhi : (hi' = none ∧ dh = none) ∨ ∃ u y, hi' = some u ∧ dh = some y ∧ Rep I w loc u y) {d : D} (hd : sliceD st e k x dl dh = some d) :
    ∃ q, (Instr.sliceAt t v lo hi' none).run P w = .ok q w ∧ Rep I w loc q d := by
  have gi : ∀ {u : Value} {kk : IntKind} {n : Int}, Rep I w loc u (.int kk n) → u = .int kk n := fun h => by cases h; rfl
  unfold sliceD at hd
  split at hd
  · split at hd
    · rename_i n hn
      rcases hlo with ⟨rfl, _⟩ | ⟨_, _, _, h, _⟩
      · rcases hhi with ⟨rfl, _⟩ | ⟨_, _, _, h, _⟩
        · exact sliceV_sound hs hok hx (.inl ⟨rfl, rfl⟩) (.inl ⟨rfl, by simpa using hn, by omega⟩) hd
        · cases h
      · cases h
    · cases hd
  · split at hd
    · rename_i l n hn
      rcases hlo with ⟨_, h⟩ | ⟨u, y, rfl, h, hr⟩
      · cases h
      · injection h with h; subst h
        rcases hhi with ⟨rfl, _⟩ | ⟨_, _, _, h, _⟩
        · exact sliceV_sound hs hok hx (.inr ⟨_, by rw [gi hr]⟩) (.inl ⟨rfl, by simpa using hn, by omega⟩) hd
        · cases h
    · cases hd
  · rcases hlo with ⟨rfl, _⟩ | ⟨_, _, _, h, _⟩
    · rcases hhi with ⟨_, h⟩ | ⟨u, y, rfl, h, hr⟩
      · cases h
      · injection h with h; subst h
        exact sliceV_sound hs hok hx (.inl ⟨rfl, rfl⟩) (.inr ⟨_, by rw [gi hr]⟩) hd
    · cases h
  · rcases hlo with ⟨_, h⟩ | ⟨u, y, rfl, h, hr⟩
    · cases h
    · injection h with h; subst h
      rcases hhi with ⟨_, h⟩ | ⟨u2, y2, rfl, h, hr2⟩
      · cases h
      · injection h with h; subst h
        exact sliceV_sound hs hok hx (.inr ⟨_, by rw [gi hr]⟩) (.inr ⟨_, by rw [gi hr2]⟩) hd
  · cases hd
end Go.Vi
