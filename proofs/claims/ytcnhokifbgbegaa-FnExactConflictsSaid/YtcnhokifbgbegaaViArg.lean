/- Vi: all arguments of a law's call, from the form's reading of them. -/
import Derived.Test.YtcnhokifbgbegaaViLaw
import Derived.WideShapes
import Derived.OpenShut
import Derived.Below
import Derived.Carry
import Derived.ChangeShapes
import Derived.ChangeAt
set_option linter.unusedSimpArgs false
set_option linter.unusedVariables false
namespace Go.Vi
open Go.RowKit Go.ChangeShapes Go.WideShapes Go.ChangeAt
variable {P : Program} {H : Type} {enc : TypeId × Value → H} {w : World} {base : Nat} {sp : Nat → Bool} {held : Bool}

/-- A parameter: whether it is a struct, and its cells. -/
def argK (P : Program) (n : Nat) (t : TypeId) : Option (Bool × List Ty) := match P.underlying t with
  | some (.struct _) => (tyFlat P n t).map fun ts => (true, ts)
  | some (.slice _) => (tyArg P n t).map fun ts => (false, ts)
  | some (.int k) => some (false, [.int k])
  | some .bool => some (false, [.bool])
  | some .string => some (false, [.str])
  | _ => none
def wrapD (b : Bool) (ds : List D) : D := if b then .agg ds else ds.headD .junk
def ArgTy (k : Bool × List Ty) (d : D) : Prop := ∃ ds, TyDs k.2 ds ∧ d = wrapD k.1 ds

theorem says_one {I : Nat → Prop} {t : Ty} {v : Value} (h : Says I w [t] [v]) : ∃ ds, TyDs [t] ds ∧ Rep I w Locs.no v (wrapD false ds) := by
  obtain ⟨ds, h1, h2, h3⟩ := h
  obtain ⟨d, rfl⟩ : ∃ d, ds = [d] := by match ds, h2.1 with | [d], _ => exact ⟨d, rfl⟩
  exact ⟨[d], h2, h3 0 v d rfl rfl⟩

theorem arg_of {I : Nat → Prop} (hI : ∀ b, b < w.heap.size → I b) {n : Nat} {t : TypeId} {v : Value} {d : DataW H} {p : List MemPlace} {k : Bool × List Ty} (h : argK P n t = some k) (hx : DataW.Trod enc P w base sp held t v d p)
    {W0 : World} {r : Reach} {b0 : Nat} (hok : Value.okWide P W0 r b0 t v) : ∃ dd, ArgTy k dd ∧ Rep I w Locs.no v dd := by
  obtain ⟨fuel, hf⟩ := hx
  unfold argK at h
  split at h
  · rename_i fs hu
    obtain ⟨ts, hts, rfl⟩ := Option.map_eq_some_iff.1 h
    obtain ⟨cs, rfl, _⟩ := okWide_struct hu hok
    obtain ⟨ds, h1, h2, h3⟩ := trod_flat (I := I) n hts hf
    simp only [Value.cells] at h1 h3
    exact ⟨.agg ds, ⟨ds, h2, rfl⟩, by simpa using Rep.agg (I := I) (w := w) Locs.no cs.toList ds h1 h3⟩
  · rename_i e hu
    obtain ⟨ts, hts, rfl⟩ := Option.map_eq_some_iff.1 h
    obtain ⟨a, len, cap, rfl⟩ := okWide_slice hu hok
    have hs : Says I w ts [Value.slice a len cap] := by
      refine trod_arg hI hts hf fun a' len' cap' he => ?_
      simp at he
      obtain ⟨rfl, rfl, rfl⟩ := he
      unfold Value.okWide at hok
      rw [hu] at hok
      simp only at hok
      unfold Cell.okWide at hok
      rw [hu] at hok
      simp only at hok
      unfold Cell.ok at hok
      rw [hu] at hok
      exact hok.2.2.2.1
    have hl : ∃ t, ts = [t] := by
      unfold tyArg at hts
      rw [hu] at hts
      simp only at hts
      obtain ⟨r, _, hr⟩ := Option.bind_eq_some_iff.1 hts
      split at hr
      · injection hr with hr; exact ⟨_, hr.symm⟩
      · cases hr
    obtain ⟨t, rfl⟩ := hl
    obtain ⟨ds, h1, h2⟩ := says_one hs
    exact ⟨_, ⟨ds, h1, rfl⟩, h2⟩
  · rename_i k hu
    injection h with h; subst h
    obtain ⟨m, rfl⟩ := okWide_int hu hok
    obtain ⟨ds, h1, h2⟩ := says_one (trod_flat (I := I) (ts := [.int k]) 1 (by unfold tyFlat; rw [hu]) hf)
    exact ⟨_, ⟨ds, h1, rfl⟩, h2⟩
  · rename_i hu
    injection h with h; subst h
    obtain ⟨m, rfl⟩ := okWide_bool hu hok
    obtain ⟨ds, h1, h2⟩ := says_one (trod_flat (I := I) (ts := [.bool]) 1 (by unfold tyFlat; rw [hu]) hf)
    exact ⟨_, ⟨ds, h1, rfl⟩, h2⟩
  · rename_i hu
    injection h with h; subst h
    obtain ⟨m, rfl⟩ := okWide_string hu hok
    obtain ⟨ds, h1, h2⟩ := says_one (trod_flat (I := I) (ts := [.str]) 1 (by unfold tyFlat; rw [hu]) hf)
    exact ⟨_, ⟨ds, h1, rfl⟩, h2⟩
  · cases h

/-- All of them. -/
inductive ArgsTy : List (Bool × List Ty) → List D → Prop
  | nil : ArgsTy [] []
  | cons {k : Bool × List Ty} {ks : List (Bool × List Ty)} {d : D} {ds : List D} (h : ArgTy k d) (hs : ArgsTy ks ds) : ArgsTy (k :: ks) (d :: ds)

theorem args_of {I : Nat → Prop} (hI : ∀ b, b < w.heap.size → I b) {n : Nat} {W0 : World} {r : Reach} {b0 : Nat} : ∀ {ts : List TypeId} {ks : List (Bool × List Ty)} {vs : List Value} {ds : List (DataW H)} {p : List MemPlace}, ts.mapM (argK P n) = some ks →
    DataW.TrodAll enc P w base sp held ts vs ds p → (∀ (j : Nat) t v, ts[j]? = some t → vs[j]? = some v → Value.okWide P W0 r b0 t v) → ∃ dd, ArgsTy ks dd ∧ RepAll I w Locs.no vs dd
  | [], ks, vs, ds, p, hk, hx, _ => by
    obtain ⟨rfl, rfl, rfl⟩ := trodAll_nil hx
    simp at hk
    subst hk
    exact ⟨[], .nil, rfl, fun i u d h => by simp at h⟩
  | t :: ts, ks, vs, ds, p, hk, hx, hok => by
    obtain ⟨v, vs, d, ds, p0, p1, rfl, rfl, rfl, h0, h1⟩ := trodAll_cons hx
    rw [List.mapM_cons] at hk
    obtain ⟨k, hk1, hk⟩ := Option.bind_eq_some_iff.1 hk
    obtain ⟨ks', hk2, hk⟩ := Option.bind_eq_some_iff.1 hk
    injection hk with hk
    subst hk
    obtain ⟨d0, a0, r0⟩ := arg_of hI hk1 h0 (hok 0 t v rfl rfl)
    obtain ⟨dd, a1, r1, r2⟩ := args_of hI hk2 h1 fun j t v ht hv => hok (j + 1) t v (by simpa using ht) (by simpa using hv)
    refine ⟨d0 :: dd, .cons a0 a1, by simpa using r1, fun i u d hu hd => ?_⟩
    cases i with
    | zero => simp at hu hd; subst hu; subst hd; exact r0
    | succ i => exact r2 i u d (by simpa using hu) (by simpa using hd)

theorem trodAll_lt : ∀ {ts : List TypeId} {vs : List Value} {ds : List (DataW H)} {p : List MemPlace}, DataW.TrodAll enc P w base sp held ts vs ds p → ∀ x ∈ p, x.block < w.heap.size
  | [], vs, ds, p, hx, x, hm => by
    obtain ⟨rfl, rfl, rfl⟩ := trodAll_nil hx
    cases hm
  | t :: ts, vs, ds, p, hx, x, hm => by
    obtain ⟨v, vs, d, ds, p0, p1, rfl, rfl, rfl, h0, h1⟩ := trodAll_cons hx
    rcases List.mem_append.1 hm with hm | hm
    · obtain ⟨m, h0⟩ := h0
      exact DataW.trod_lt m _ _ _ h0 x hm
    · exact trodAll_lt h1 x hm

theorem trodAll_ds : ∀ {ts : List TypeId} {vs : List Value} {ds : List (DataW H)} {p : List MemPlace}, DataW.TrodAll enc P w base sp held ts vs ds p → ds.length = ts.length
  | [], vs, ds, p, hx => by
    obtain ⟨rfl, rfl, rfl⟩ := trodAll_nil hx
    rfl
  | t :: ts, vs, ds, p, hx => by
    obtain ⟨v, vs, d, ds, p0, p1, rfl, rfl, rfl, h0, h1⟩ := trodAll_cons hx
    simp [trodAll_ds h1]
theorem ds1 {α : Type} {l : List α} (h : l.length = 1) : ∃ a, l = [a] := by match l, h with | [a], _ => exact ⟨a, rfl⟩
theorem ds2 {α : Type} {l : List α} (h : l.length = 2) : ∃ a b, l = [a, b] := by match l, h with | [a, b], _ => exact ⟨a, b, rfl⟩
theorem ds3 {α : Type} {l : List α} (h : l.length = 3) : ∃ a b c, l = [a, b, c] := by match l, h with | [a, b, c], _ => exact ⟨a, b, c, rfl⟩

theorem trodAll_below (hl : laidOutB P = true) {W W' : World} (hb : Below W.heap.size W W') : ∀ {ts : List TypeId} {vs : List Value} {ds : List (DataW H)} {p : List MemPlace}, (ts.all fun t => P.readableRec t && decide (t < P.types.size)) = true →
    DataW.TrodAll enc P W 0 (fun _ => true) true ts vs ds p → DataW.TrodAll enc P W' 0 (fun b => decide (b < W.heap.size)) true ts vs ds p
  | [], vs, ds, p, _, hx => by
    obtain ⟨rfl, rfl, rfl⟩ := trodAll_nil hx
    exact trodAll_mk0
  | t :: ts, vs, ds, p, ht, hx => by
    have hlt := trodAll_lt hx
    obtain ⟨v, vs, d, ds, p0, p1, rfl, rfl, rfl, h0, h1⟩ := trodAll_cons hx
    simp only [List.all_cons, Bool.and_eq_true, decide_eq_true_eq] at ht
    exact trodAll_cons_mk (Below.trod hl ht.1.1 ht.1.2 h0 hb fun x hx => hlt x (by simp [hx])) (trodAll_below hl hb (by simpa using ht.2) h1)
end Go.Vi
