/- Vi: from the form's reading of arguments to abstract values. -/
import Derived.Test.YtcnhokifbgbegaaViSound
import Derived.OpenShut
import Derived.ChangeArms
set_option linter.unusedSimpArgs false
set_option linter.unusedVariables false
namespace Go.Vi
open Go.RowKit
variable {P : Program} {H : Type} {enc : TypeId × Value → H} {w : World} {base : Nat} {sp : Nat → Bool} {held : Bool}

/-- What a cell is. -/
inductive Ty where
  | int (k : IntKind)
  | bool
  | str
  | sl (row : List Ty)
  deriving Inhabited, BEq

/-- The cells of a type. -/
def tyFields (P : Program) (f : TypeId → Option (List Ty)) : List Field → Nat → Option (List Ty)
  | [], _ => some []
  | fd :: fs, off =>
    match f fd.type with
    | some s => if fd.offset = off ∧ P.cellsOf fd.type = s.length then (tyFields P f fs (off + s.length)).map (s ++ ·) else none
    | none => none
def tyFlat (P : Program) : Nat → TypeId → Option (List Ty)
  | 0, _ => none
  | n + 1, t =>
    match P.underlying t with
    | some (.int k) => some [.int k]
    | some .bool => some [.bool]
    | some .string => some [.str]
    | some (.struct fs) => (tyFields P (tyFlat P n) fs.toList 0).bind fun r => if P.cellsOf t = r.length then some r else none
    | _ => none
/-- An argument's cells: flat, or a slice of what is flat. -/
def tyArg (P : Program) (n : Nat) (t : TypeId) : Option (List Ty) :=
  match P.underlying t with
  | some (.slice e) => (tyFlat P n e).bind fun r => if P.cellsOf e = r.length ∧ 0 < r.length then some [.sl r] else none
  | _ => tyFlat P n t

/-- An abstract value of that kind. -/
inductive TyD : Ty → D → Prop
  | int (k : IntKind) (n : Int) (h : (Lit.int k n).wf = true) : TyD (.int k) (.int k n)
  | bool (b : Bool) : TyD .bool (.bool b)
  | str (s : List UInt8) (h : s.length ≤ maxLen) : TyD .str (.str s)
  | sl (ts : List Ty) (rows : List (List D)) (hl : rows.length ≤ maxLen) (hr : ∀ r ∈ rows, r.length = ts.length) (h : ∀ r ∈ rows, ∀ (i : Nat) (t : Ty) (d : D), ts[i]? = some t → r[i]? = some d → TyD t d) : TyD (.sl ts) (.sl rows)

def TyDs (ts : List Ty) (ds : List D) : Prop := ds.length = ts.length ∧ ∀ (i : Nat) (t : Ty) (d : D), ts[i]? = some t → ds[i]? = some d → TyD t d
/-- Cells of those kinds, and what they say. -/
def Says (I : Nat → Prop) (w : World) (ts : List Ty) (cs : List Value) : Prop := ∃ ds : List D, cs.length = ds.length ∧ TyDs ts ds ∧ ∀ (i : Nat) (c : Value) (d : D), cs[i]? = some c → ds[i]? = some d → Rep I w Locs.no c d

theorem Says.one {I : Nat → Prop} {t : Ty} {c : Value} {d : D} (h : TyD t d) (hr : Rep I w Locs.no c d) : Says I w [t] [c] := by
  refine ⟨[d], rfl, ⟨rfl, fun i t' d' ht hd => ?_⟩, fun i c' d' hc hd => ?_⟩
  · cases i with
    | zero => simp at ht hd; subst ht; subst hd; exact h
    | succ i => simp at ht
  · cases i with
    | zero => simp at hc hd; subst hc; subst hd; exact hr
    | succ i => simp at hc
theorem Says.append {I : Nat → Prop} {ta tb : List Ty} {ca cb : List Value} (ha : Says I w ta ca) (hb : Says I w tb cb) : Says I w (ta ++ tb) (ca ++ cb) := by
  obtain ⟨da, h1, ⟨h2, h3⟩, h4⟩ := ha
  obtain ⟨db, k1, ⟨k2, k3⟩, k4⟩ := hb
  refine ⟨da ++ db, by simp [h1, k1], ⟨by simp [h2, k2], fun i t d ht hd => ?_⟩, fun i c d hc hd => ?_⟩
  · by_cases h : i < ta.length
    · rw [List.getElem?_append_left h] at ht
      rw [List.getElem?_append_left (by omega)] at hd
      exact h3 i t d ht hd
    · rw [List.getElem?_append_right (by omega)] at ht
      rw [List.getElem?_append_right (by omega), h2] at hd
      exact k3 _ t d ht hd
  · by_cases h : i < ca.length
    · rw [List.getElem?_append_left h] at hc
      rw [List.getElem?_append_left (by omega)] at hd
      exact h4 i c d hc hd
    · rw [List.getElem?_append_right (by omega)] at hc
      rw [List.getElem?_append_right (by omega), ← h1] at hd
      exact k4 _ c d hc hd
theorem Says.nil {I : Nat → Prop} : Says I w [] [] := ⟨[], rfl, ⟨rfl, fun i t d h => by simp at h⟩, fun i c d h => by simp at h⟩

theorem cells_get {a : Addr} {n : Nat} {cs : List Value} (h : w.cells? base a n = some cs) : cs.length = n ∧ ∀ i, i < n → w.cell? (a.add i) = cs[i]? := by
  unfold World.cells? at h
  split at h
  · refine ⟨by simpa using mapM_some_length h, fun i hi => mapM_some_get h i i (by simp [hi])⟩
  · cases h

theorem trod_flat {I : Nat → Prop} : ∀ (n : Nat) {t : TypeId} {fuel : Nat} {cs : List Value} {x : DataW H × List MemPlace} {ts : List Ty}, tyFlat P n t = some ts → DataW.trod enc P w base sp held fuel t cs = some x → Says I w ts cs
  | 0, _, _, _, _, _, h, _ => by simp [tyFlat] at h
  | n + 1, t, fuel, cs, x, ts, h, hx => by
    unfold tyFlat at h
    split at h
    · rename_i k hu
      injection h with h; subst h
      obtain ⟨m, rfl, _, hw⟩ := DataW.trod_int hu hx
      exact .one (.int k m hw) (.int _ _ _)
    · rename_i hu
      injection h with h; subst h
      obtain ⟨b, rfl, _⟩ := DataW.trod_bool hu hx
      exact .one (.bool b) (.bool _ _)
    · rename_i hu
      injection h with h; subst h
      obtain ⟨s, rfl, _, hs⟩ := DataW.trod_string hu hx
      exact .one (.str _ (by rw [Array.length_toList]; exact hs)) (.str _ _)
    · rename_i fs hu
      obtain ⟨r, hfs, hrr⟩ := Option.bind_eq_some_iff.1 h
      obtain ⟨hcl, rfl⟩ : P.cellsOf t = r.length ∧ r = ts := by
        split at hrr
        · injection hrr with hrr; exact ⟨by assumption, hrr⟩
        · cases hrr
      obtain ⟨xs, m, rfl, _, hlen, _, hf⟩ := DataW.trod_struct hu hx
      have key : ∀ (l : List Field) (off : Nat) (ts : List Ty), (∀ f ∈ l, ∃ y, DataW.trod enc P w base sp held m f.type ((cs.drop f.offset).take (P.cellsOf f.type)) = some y) → tyFields P (tyFlat P n) l off = some ts →
          Says I w ts ((cs.drop off).take ts.length) := by
        intro l
        induction l with
        | nil => intro off ts _ h; injection h with h; subst h; simpa using Says.nil
        | cons f l ih =>
          intro off ts hall h
          unfold tyFields at h
          split at h
          · rename_i s hs
            split at h
            · rename_i hc
              obtain ⟨rfl, hsz⟩ := hc
              obtain ⟨ts2, h2, rfl⟩ := Option.map_eq_some_iff.1 h
              obtain ⟨y, hy⟩ := hall f (by simp)
              have h1 := trod_flat (I := I) n hs hy
              rw [hsz] at h1
              have h3 := ih (f.offset + s.length) ts2 (fun g hg => hall g (by simp [hg])) h2
              have := h1.append h3
              rw [← List.drop_drop] at this
              rw [List.length_append, List.take_add]
              exact this
            · cases h
          · cases h
      have h0 := key fs.toList 0 r (fun f hf' => by
        obtain ⟨i, hi⟩ := List.getElem?_of_mem hf'
        have hi' : fs[i]? = some f := by simpa using hi
        have := hf i f hi'
        have hlt : i < xs.length := by
          have := (Array.getElem?_eq_some_iff.1 hi').1
          omega
        exact ⟨xs[i], by rw [this]; exact List.getElem?_eq_getElem hlt⟩) hfs
      rw [List.drop_zero, List.take_of_length_le (by omega)] at h0
      exact h0
    · cases h

theorem trod_arg {I : Nat → Prop} (hI : ∀ b, b < w.heap.size → I b) {n : Nat} {t : TypeId} {fuel : Nat} {cs : List Value} {x : DataW H × List MemPlace} {ts : List Ty} (h : tyArg P n t = some ts) (hx : DataW.trod enc P w base sp held fuel t cs = some x)
    (hspot : ∀ a len cap, cs = [.slice (some a) len cap] → a.spot = none) : Says I w ts cs := by
  unfold tyArg at h
  split at h
  · rename_i e hu
    obtain ⟨r, hr, h⟩ := Option.bind_eq_some_iff.1 h
    split at h
    · rename_i hce2
      obtain ⟨hce, hpos⟩ := hce2
      injection h with h
      subst h
      rcases DataW.trod_slice hu hx with ⟨rfl, _⟩ | ⟨a, len, cap, elems, rest, m, _, rfl, _, _, hlc, hcm, hlen, hel, _, _⟩
      · exact .one (.sl r [] (by simp) (fun _ h => by simp at h) fun _ h => by simp at h) (.slnil _)
      · have hs := hspot a len cap rfl
        obtain ⟨ab, ao, as⟩ := a
        simp only at hs
        subst hs
        -- each row
        have row : ∀ i, i < len → ∃ ds : List D, ds.length = r.length ∧ (∀ (j : Nat) (t : Ty) (d : D), r[j]? = some t → ds[j]? = some d → TyD t d) ∧
            ∀ j d, ds[j]? = some d → ∃ u, w.cell? ⟨ab, ao + (i * r.length + j), none⟩ = some u ∧ Rep I w Locs.no u d := by
          intro i hi
          have h1 := hel i hi
          rw [List.getElem?_eq_getElem (by omega)] at h1
          obtain ⟨rc, hrc, h2⟩ := Option.bind_eq_some_iff.1 h1
          obtain ⟨hrl, hcell⟩ := cells_get hrc
          obtain ⟨ds, d1, ⟨d2, d3⟩, d4⟩ := trod_flat (I := I) n hr h2
          refine ⟨ds, d2, d3, fun j d hd => ?_⟩
          have hj : j < rc.length := by rw [d1]; exact (List.getElem?_eq_some_iff.1 hd).1
          have hc := hcell j (by omega)
          rw [List.getElem?_eq_getElem hj] at hc
          refine ⟨rc[j], ?_, d4 j _ d (List.getElem?_eq_getElem hj) hd⟩
          rw [add_at, add_at, hce] at hc
          rw [← hc, Nat.add_assoc]
        let rows : List (List D) := (List.range len).map fun i => if hi : i < len then (row i hi).choose else []
        have hrows : ∀ i (q : List D), rows[i]? = some q → ∃ hi : i < len, q = (row i hi).choose := by
          intro i q hq
          simp only [rows, List.getElem?_map] at hq
          obtain ⟨k, hk, rfl⟩ := Option.map_eq_some_iff.1 hq
          have hk' := (List.getElem?_eq_some_iff.1 hk)
          have hi : i < len := by simpa using hk'.1
          have : k = i := by have := hk'.2; simp at this; exact this.symm
          subst this
          exact ⟨hi, by rw [dif_pos hi]⟩
        have hrlen : rows.length = len := by simp [rows]
        have hmem : ∀ q ∈ rows, ∃ i, rows[i]? = some q := fun q hq => List.getElem?_of_mem hq
        refine .one (.sl r rows (by rw [hrlen]; omega) (fun q hq => ?_) fun q hq => ?_) ?_
        · obtain ⟨i, hi⟩ := hmem q hq
          obtain ⟨hi', rfl⟩ := hrows i q hi
          exact (row i hi').choose_spec.1
        · obtain ⟨i, hi⟩ := hmem q hq
          obtain ⟨hi', rfl⟩ := hrows i q hi
          exact (row i hi').choose_spec.2.1
        · have hra : RowsAt I w ab ao r.length rows := by
            refine ⟨fun q hq => ?_, fun i q j d hi hj => ?_⟩
            · obtain ⟨i, hi⟩ := hmem q hq
              obtain ⟨hi', rfl⟩ := hrows i q hi
              exact (row i hi').choose_spec.1
            · obtain ⟨hi', rfl⟩ := hrows i q hi
              exact (row i hi').choose_spec.2.2 j d hj
          by_cases hz : len = 0
          · have hnil : rows = [] := List.eq_nil_of_length_eq_zero (by omega)
            rw [hnil]
            subst hz
            exact .sl _ ab ao cap 0 [] (fun _ _ => Go.undef) (fun h => absurd rfl h) (by simp) (by simp) (fun i j hi => by simp at hi) fun i j r d h => by simp at h
          · have hIab : I ab := by
              refine hI ab ?_
              obtain ⟨ds, d1, _, d3⟩ := row 0 (by omega)
              obtain ⟨u, hu, _⟩ := d3 0 _ (List.getElem?_eq_getElem (by omega : 0 < ds.length))
              unfold World.cell? at hu
              cases hq : w.heap[ab]? with
              | none => simp [hq] at hu
              | some o => exact (Array.getElem?_eq_some_iff.1 hq).1
            have := hra.rep (loc := Locs.no) (cap := cap) hIab (by omega)
            rw [hrlen] at this
            exact this
    · cases h
  · exact trod_flat n h hx
end Go.Vi
