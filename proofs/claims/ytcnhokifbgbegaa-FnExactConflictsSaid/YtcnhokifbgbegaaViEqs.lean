/- Vi: '==' of structs whose cells are words. -/
import Derived.Test.YtcnhokifbgbegaaViArith
set_option linter.unusedSimpArgs false
set_option linter.unusedVariables false
namespace Go.Vi
open Go.RowKit
variable {P : Program} {loc : Locs} {I : Nat → Prop} {st : Store} {w : World}

/-- The kinds of a struct's fields from offset 'off' on, each field's by 'f'. -/
def shFields (P : Program) (f : TypeId → Option (List Kd)) : List Field → Nat → Option (List Kd)
  | [], _ => some []
  | fd :: fs, off =>
    match f fd.type, P.info? fd.type with
    | some s, some i => if fd.offset = off ∧ fd.name ≠ "_" ∧ i.size = s.length then (shFields P f fs (off + s.length)).map (s ++ ·) else none
    | _, _ => none
def shapeAt (P : Program) : Nat → TypeId → Option (List Kd)
  | 0, _ => none
  | n + 1, t =>
    match P.underlying t with
    | some (.int k) => some [.i k]
    | some .bool => some [.b]
    | some .string => some [.s]
    | some (.struct fs) => if P.stoodInHeld t then none else shFields P (shapeAt P n) fs.toList 0
    | _ => none

/-- Two cells of one kind: alike or not. -/
inductive Cmp : Kd → Value → Value → Bool → Prop
  | i (k : IntKind) (a b : Int) : Cmp (.i k) (.int k a) (.int k b) (a == b)
  | b (x y : Bool) : Cmp .b (.bool x) (.bool y) (x == y)
  | s (x y : ByteArray) : Cmp .s (.string x) (.string y) (x.data.toList == y.data.toList)
inductive Cmps : List Kd → List Value → List Value → Bool → Prop
  | nil : Cmps [] [] [] true
  | cons {k : Kd} {ks : List Kd} {x y : Value} {xs ys : List Value} {r q : Bool} (h : Cmp k x y r) (t : Cmps ks xs ys q) : Cmps (k :: ks) (x :: xs) (y :: ys) (r && q)

theorem Cmps.len {ks : List Kd} {xs ys : List Value} {r : Bool} (h : Cmps ks xs ys r) : xs.length = ks.length ∧ ys.length = ks.length := by
  induction h with
  | nil => exact ⟨rfl, rfl⟩
  | cons _ _ ih => simp [ih.1, ih.2]
theorem Cmps.split {a b : List Kd} : ∀ {xs ys : List Value} {r : Bool}, Cmps (a ++ b) xs ys r → ∃ r1 r2, Cmps a (xs.take a.length) (ys.take a.length) r1 ∧ Cmps b (xs.drop a.length) (ys.drop a.length) r2 ∧ r = (r1 && r2) := by
  induction a with
  | nil => intro xs ys r h; exact ⟨true, r, by simpa using Cmps.nil, by simpa using h, by simp⟩
  | cons k a ih =>
    intro xs ys r h
    cases h with
    | cons h t =>
      obtain ⟨r1, r2, h1, h2, rfl⟩ := ih t
      exact ⟨_, r2, by simpa using Cmps.cons h h1, by simpa using h2, by rw [Bool.and_assoc]⟩

/-- A value of type t with these cells. -/
def asVal (P : Program) (t : TypeId) (xs : List Value) (v : Value) : Prop :=
  match P.underlying t with
  | some (.struct _) => v = .agg xs.toArray
  | _ => xs = [v]

theorem part_at {e : TypeId} {n : Nat} {s : List Kd} (hs : shapeAt P n e = some s) {i : TypeInfo} (hi : P.info? e = some i) (hsz : i.size = s.length) (cs : Array Value) (off : Nat) (hl : ((cs.toList.drop off).take s.length).length = s.length) :
    ∃ v, (part e cs off).run P w = .ok v w ∧ asVal P e ((cs.toList.drop off).take s.length) v := by
  cases n with
  | zero => simp [shapeAt] at hs
  | succ n =>
    unfold shapeAt at hs
    cases hu : P.underlying e with
    | none => simp [hu] at hs
    | some kd =>
      have agg : ∀ fs, kd = .struct fs → ∃ v, (part e cs off).run P w = .ok v w ∧ asVal P e ((cs.toList.drop off).take s.length) v := by
        rintro fs rfl
        refine ⟨.agg (cs.extract off (off + i.size)), by simp [part, run_isAgg hu, aggB, run_sizeOf hi], ?_⟩
        simp only [asVal, hu]
        congr 1
        apply Array.ext'
        rw [Array.toList_extract, hsz]
        simp [List.extract]
      have plain : aggB kd = false → s.length = 1 → (∀ fs, kd ≠ .struct fs) → ∃ v, (part e cs off).run P w = .ok v w ∧ asVal P e ((cs.toList.drop off).take s.length) v := by
        intro ha h1 hne
        rw [h1] at hl
        have hlt : off < cs.size := by simp at hl; omega
        refine ⟨cs[off], by simp [part, run_isAgg hu, ha, hlt], ?_⟩
        have : (cs.toList.drop off).take s.length = [cs[off]] := by
          rw [h1, List.drop_eq_getElem_cons (by simpa using hlt)]
          simp
        rw [this]
        simp only [asVal, hu]
        split
        · rename_i fs hfs; injection hfs with hfs; exact absurd hfs (hne fs)
        · trivial
      cases kd
      case struct fs => exact agg fs rfl
      case int k => simp [hu] at hs; exact plain rfl (by rw [← hs]; rfl) (by simp)
      case bool => simp [hu] at hs; exact plain rfl (by rw [← hs]; rfl) (by simp)
      case string => simp [hu] at hs; exact plain rfl (by rw [← hs]; rfl) (by simp)
      all_goals simp [hu] at hs

theorem run_eqFields {n d : Nat} (IH : ∀ (t : TypeId) (s : List Kd) (xs ys : List Value) (r : Bool) (x y : Value) (w : World), shapeAt P n t = some s → Cmps s xs ys r → asVal P t xs x → asVal P t ys y → (Op.equalIn d t x y).run P w = .ok r w)
    (cs ds : Array Value) : ∀ (fs : List Field) (off : Nat) (s : List Kd) (r : Bool), shFields P (shapeAt P n) fs off = some s → Cmps s (cs.toList.drop off) (ds.toList.drop off) r →
    (Op.eqFields d cs ds fs).run P w = .ok r w
  | [], off, s, r, hs, h => by
    injection hs with hs
    subst hs
    generalize cs.toList.drop off = a at h
    generalize ds.toList.drop off = b at h
    cases h
    simp [Op.eqFields]
  | fd :: fs, off, s, r, hs, h => by
    unfold shFields at hs
    split at hs
    · rename_i s1 i hs1 hi
      split at hs
      · rename_i hc
        obtain ⟨rfl, hname, hsz⟩ := hc
        obtain ⟨s2, hs2, rfl⟩ := Option.map_eq_some_iff.1 hs
        obtain ⟨r1, r2, h1, h2, rfl⟩ := h.split
        obtain ⟨l1, l2⟩ := h1.len
        obtain ⟨x, hx, hxv⟩ := part_at (w := w) hs1 hi hsz cs fd.offset l1
        obtain ⟨y, hy, hyv⟩ := part_at (w := w) hs1 hi hsz ds fd.offset l2
        have he := IH fd.type s1 _ _ r1 x y w hs1 h1 hxv hyv
        rw [List.drop_drop, List.drop_drop] at h2
        have hrest := run_eqFields IH cs ds fs (fd.offset + s1.length) s2 r2 hs2 h2
        simp only [Op.eqFields, hname, ne_eq, not_false_eq_true, if_true, Sem.run_bind, hx, hy, he, Result.andThen_ok]
        cases r1
        · simp
        · simpa using hrest
      · cases hs
    · cases hs

theorem run_eq_shape : ∀ (n d : Nat) (t : TypeId) (s : List Kd) (xs ys : List Value) (r : Bool) (x y : Value) (w : World), shapeAt P n t = some s → Cmps s xs ys r → asVal P t xs x → asVal P t ys y →
    (Op.equalIn (d + n) t x y).run P w = .ok r w
  | 0, _, _, _, _, _, _, _, _, _, hs, _, _, _ => by simp [shapeAt] at hs
  | n + 1, d, t, s, xs, ys, r, x, y, w, hs, hc, hx, hy => by
    unfold shapeAt at hs
    rw [show d + (n + 1) = (d + n) + 1 by omega]
    cases hu : P.underlying t with
    | none => simp [hu] at hs
    | some kd =>
      have hx' := hx
      have hy' := hy
      simp only [asVal, hu] at hx' hy'
      cases kd
      case struct fs =>
        simp only at hx' hy'
        subst hx'; subst hy'
        simp only [hu] at hs
        split at hs
        · cases hs
        · rename_i hst
          have hf : P.fieldsOf t = fs := by simp [Program.fieldsOf, hu]
          rw [run_equalIn_struct w (d + n) t _ _ (by rw [hf]; exact hu) (by simpa using hst), hf]
          exact run_eqFields (fun t s xs ys r x y w h1 h2 h3 h4 => run_eq_shape n d t s xs ys r x y w h1 h2 h3 h4) _ _ _ 0 s r hs (by simpa using hc)
      case int k =>
        simp [hu] at hs
        subst hs
        simp only at hx' hy'
        subst hx'; subst hy'
        cases hc with
        | cons h t' =>
          cases t'
          cases h
          rw [run_equalIn_int w (d + n) t k k _ _ hu]
          simp
      case bool =>
        simp [hu] at hs
        subst hs
        simp only at hx' hy'
        subst hx'; subst hy'
        cases hc with
        | cons h t' =>
          cases t'
          cases h
          rw [run_equalIn_bool' w (d + n) t _ _ hu]
          simp
      case string =>
        simp [hu] at hs
        subst hs
        simp only at hx' hy'
        subst hx'; subst hy'
        cases hc with
        | cons h t' =>
          cases t'
          cases h
          rw [run_equalIn_string w (d + n) t _ _ hu, bytes_eq]
          simp
      all_goals simp [hu] at hs

theorem cmps_step {k : Kd} {sh : List Kd} {x y : D} {xs ys : List D} {q r : Bool} {cs ds : List Value} (hl1 : cs.length = (x :: xs).length) (hl2 : ds.length = (y :: ys).length)
    (h1 : ∀ (i : Nat) (c : Value) (d : D), cs[i]? = some c → (x :: xs)[i]? = some d → Rep I w loc c d) (h2 : ∀ (i : Nat) (c : Value) (d : D), ds[i]? = some c → (y :: ys)[i]? = some d → Rep I w loc c d)
    (hk : ∀ c d, Rep I w loc c x → Rep I w loc d y → Cmp k c d r)
    (ih : ∀ {cs ds : List Value}, cs.length = xs.length → ds.length = ys.length →
      (∀ (i : Nat) (c : Value) (d : D), cs[i]? = some c → xs[i]? = some d → Rep I w loc c d) → (∀ (i : Nat) (c : Value) (d : D), ds[i]? = some c → ys[i]? = some d → Rep I w loc c d) → Cmps sh cs ds q) : Cmps (k :: sh) cs ds (r && q) := by
  cases cs with
  | nil => simp at hl1
  | cons c cs =>
    cases ds with
    | nil => simp at hl2
    | cons d ds =>
      exact .cons (hk c d (h1 0 _ _ rfl rfl) (h2 0 _ _ rfl rfl)) (ih (by simpa using hl1) (by simpa using hl2) (fun i c d h3 h4 => h1 (i + 1) c d (by simpa using h3) (by simpa using h4)) fun i c d h3 h4 => h2 (i + 1) c d (by simpa using h3) (by simpa using h4))

theorem cmps_of {sh : List Kd} : ∀ {xs ys : List D} {r : Bool}, eqSh sh xs ys = some r → ∀ {cs ds : List Value}, cs.length = xs.length → ds.length = ys.length →
    (∀ (i : Nat) (c : Value) (d : D), cs[i]? = some c → xs[i]? = some d → Rep I w loc c d) → (∀ (i : Nat) (c : Value) (d : D), ds[i]? = some c → ys[i]? = some d → Rep I w loc c d) → Cmps sh cs ds r := by
  induction sh with
  | nil =>
    intro xs ys r h cs ds hl1 hl2 h1 h2
    unfold eqSh at h
    split at h
    · injection h with h; subst h
      have e1 : cs = [] := List.eq_nil_of_length_eq_zero (by simpa using hl1)
      have e2 : ds = [] := List.eq_nil_of_length_eq_zero (by simpa using hl2)
      rw [e1, e2]
      exact .nil
    · rename_i heq; cases heq
    · rename_i heq; cases heq
    · rename_i heq; cases heq
    · cases h
  | cons k sh ih =>
    intro xs ys r h cs ds hl1 hl2 h1 h2
    unfold eqSh at h
    split at h
    · rename_i heq; cases heq
    · rename_i k' sh' k1 a xs k2 b ys heq
      injection heq with e1 e2
      subst e1; subst e2
      split at h
      · rename_i hk
        obtain ⟨rfl, rfl⟩ := hk
        obtain ⟨q, hq, rfl⟩ := Option.map_eq_some_iff.1 h
        exact cmps_step hl1 hl2 h1 h2 (fun c d r1 r2 => by cases r1; cases r2; exact .i _ a b) (ih hq)
      · cases h
    · rename_i sh' a xs b ys heq
      injection heq with e1 e2
      subst e1; subst e2
      obtain ⟨q, hq, rfl⟩ := Option.map_eq_some_iff.1 h
      exact cmps_step hl1 hl2 h1 h2 (fun c d r1 r2 => by cases r1; cases r2; exact .b a b) (ih hq)
    · rename_i sh' a xs b ys heq
      injection heq with e1 e2
      subst e1; subst e2
      obtain ⟨q, hq, rfl⟩ := Option.map_eq_some_iff.1 h
      refine cmps_step hl1 hl2 h1 h2 (fun c d r1 r2 => ?_) (ih hq)
      cases r1 with
      | str _ s1 => cases r2 with
        | str _ s2 => exact .s s1 s2
    · cases h

def okEqs (P : Program) (t : TypeId) (sh : List Kd) : Bool :=
  (match P.underlying t with | some (.struct _) => true | _ => false) && shapeAt P 8 t == some sh && !P.eqGuardType P.depth t
theorem eqs_sound {sh : List Kd} {neg : Bool} {t : TypeId} (hok : okEqs P t sh = true) {xo yo : Operand} {u v : Value} {x y : D} (hx : Rep I w loc u x) (hy : Rep I w loc v y) {d : D} (hd : eqsD sh neg x y = some d) :
    ∃ q, (do eqGuard (if neg then .neq else .eql) t xo yo u v; binOp (if neg then .neq else .eql) t u v : Sem Value).run P w = .ok q w ∧ Rep I w loc q d := by
  simp only [okEqs, Bool.and_eq_true, beq_iff_eq, Bool.not_eq_true'] at hok
  obtain ⟨⟨hst, hsh⟩, hg⟩ := hok
  unfold eqsD at hd
  split at hd
  · rename_i a c
    obtain ⟨r, hr, rfl⟩ := Option.map_eq_some_iff.1 hd
    cases hx with
    | agg _ cs ds hl h =>
      cases hy with
      | agg _ cs2 ds2 hl2 h2 =>
        have hcmp := cmps_of hr hl hl2 h h2
        have hv : ∀ xs : List Value, asVal P t xs (.agg xs.toArray) := by
          intro xs
          unfold asVal
          split at hst
          · rename_i fs hu; simp [hu]
          · cases hst
        have he := run_eq_shape 8 9992 t sh _ _ r _ _ w hsh hcmp (hv _) (hv _)
        cases neg
        · exact ⟨.bool r, by rw [if_neg (by simp), Sem.run_bind, run_eqGuard_agg w _ _ _ _ _ _ hg, Result.andThen_ok, run_eql_struct, he]; rfl, .bool _ _⟩
        · exact ⟨.bool !r, by rw [if_pos rfl, Sem.run_bind, run_eqGuard_agg w _ _ _ _ _ _ hg, Result.andThen_ok, run_neq_struct, he]; rfl, .bool _ _⟩
  · cases hd
end Go.Vi
