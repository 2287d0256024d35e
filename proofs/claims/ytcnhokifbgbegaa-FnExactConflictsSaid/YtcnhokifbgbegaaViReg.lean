/- Vi: regions: operations in any order that their edges leave. -/
import Derived.Test.YtcnhokifbgbegaaViCall2
set_option linter.unusedSimpArgs false
set_option linter.unusedVariables false
namespace Go.Vi
open Go.RowKit

/-! ### What an operation looks at -/
def opnds : VOp → List Opd
  | .mv x | .box x | .ld _ x | .nilc x | .not x | .neg x | .cvi _ x | .cvbs x | .cvsb x | .fld _ x | .extr x _ | .len _ x => [x]
  | .pick c a b => [c, a, b]
  | .alloc _ | .alen _ => []
  | .build _ ps => ps.map fun p => p.2.2
  | .bsl _ _ _ xs => xs
  | .sto _ x y | .bin _ x y | .eqs _ _ x y | .eqb _ x y | .ixs _ _ x y | .ixa _ _ x y | .ixt x y | .app _ _ _ x y | .mx x y | .mn x y | .copy x y | .mks _ _ x y => [x, y]
  | .mkf _ caps => caps
  | .slc _ _ x lo hi => x :: (lo.toList ++ hi.toList)
  | .call _ _ _ as => as
  | .callc x as => x :: as
def tmpsOf (l : List Opd) : List Nat := l.filterMap fun | .t n => some n | _ => none
def usesOf (o : VOper) : List Nat := tmpsOf (opnds o.op) ++ (match o.g with | some (t, _) => [t] | none => [])

section
variable {gl : Nat → Option (List D)} {call : Nat → List D → Store → Option (D × Store)}

theorem ev_congr {σ σ' : St} {l : List Opd} (h : ∀ t ∈ tmpsOf l, σ.env t = σ'.env t) : ∀ x ∈ l, σ.ev gl x = σ'.ev gl x := by
  intro x hx
  cases x with
  | t n => exact h n (List.mem_filterMap.2 ⟨_, hx, rfl⟩)
  | c d => rfl
  | g n => rfl

theorem fillP_congr {ev ev' : Opd → D} : ∀ (z : List D) (ps : List (Nat × Nat × Opd)), (∀ p ∈ ps, ev p.2.2 = ev' p.2.2) → fillP ev z ps = fillP ev' z ps
  | z, [], _ => rfl
  | z, (off, n, x) :: ps, h => by
    simp only [fillP]
    rw [h (off, n, x) (by simp)]
    split
    · exact fillP_congr _ ps fun p hp => h p (by simp [hp])
    · rfl

theorem evalOp_congr {σ σ' : St} (o : VOp) (hst : σ.st = σ'.st) (h : ∀ t ∈ tmpsOf (opnds o), σ.env t = σ'.env t) : evalOp gl call σ o = evalOp gl call σ' o := by
  have hx := ev_congr (gl := gl) h
  cases o <;> simp only [opnds, List.mem_cons, List.not_mem_nil, or_false, forall_eq_or_imp, forall_eq] at hx <;> simp only [evalOp, hst]
  case mv => rw [hx]
  case pick => rw [hx.1, hx.2.1, hx.2.2]
  case box => rw [hx]
  case build z ps => rw [fillP_congr z ps fun p hp => hx p.2.2 (List.mem_map.2 ⟨p, hp, rfl⟩)]
  case bsl own e k xs => rw [List.map_congr_left fun x h => by rw [hx x h]]
  case ld => rw [hx]
  case sto => rw [hx.1, hx.2]
  case nilc => rw [hx]
  case bin => rw [hx.1, hx.2]
  case eqs => rw [hx.1, hx.2]
  case eqb => rw [hx.1, hx.2]
  case not => rw [hx]
  case neg => rw [hx]
  case cvi => rw [hx]
  case cvbs => rw [hx]
  case cvsb => rw [hx]
  case mkf f caps => rw [List.map_congr_left fun x h => hx x h]
  case mks => rw [hx.1, hx.2]
  case slc e k x lo hi =>
    have h1 : lo.map (σ.ev gl) = lo.map (σ'.ev gl) := by cases lo with | none => rfl | some y => simp only [Option.map_some]; rw [hx.2 y (by simp)]
    have h2 : hi.map (σ.ev gl) = hi.map (σ'.ev gl) := by cases hi with | none => rfl | some y => simp only [Option.map_some]; rw [hx.2 y (by simp)]
    rw [hx.1, h1, h2]
  case fld => rw [hx]
  case ixs => rw [hx.1, hx.2]
  case ixa => rw [hx.1, hx.2]
  case ixt => rw [hx.1, hx.2]
  case extr => rw [hx]
  case call f rw fz as => rw [List.map_congr_left fun x h => hx x h]
  case callc x as => rw [hx.1, List.map_congr_left fun x h => hx.2 x h]
  case len => rw [hx]
  case app => rw [hx.1, hx.2]
  case mx => rw [hx.1, hx.2]
  case mn => rw [hx.1, hx.2]

/-- Doesn't look at the store, nor touch it. -/
def worldless : VOp → Bool
  | .mv _ | .pick _ _ _ | .build _ _ | .nilc _ | .bin _ _ _ | .eqs _ _ _ _ | .eqb _ _ _ | .not _ | .neg _ | .cvi _ _ | .cvsb _ | .mkf _ _ | .fld _ _ | .ixa _ _ _ _ | .ixt _ _ | .extr _ _ | .len _ _ | .alen _ | .mx _ _ | .mn _ _ => true
  | _ => false
/-- Leaves the store as it is. -/
def reader : VOp → Bool
  | .ld _ _ | .slc _ _ _ _ _ | .ixs _ _ _ _ | .cvbs _ | .callc _ _ => true
  | .call _ rw fz _ => rw.isEmpty && fz.isNone
  | o => worldless o

theorem giveE_st (r : Option D) (s : Store) : giveE r s = r.map fun d => (d, s) := by unfold giveE; split <;> rfl
theorem worldless_spec {o : VOp} (h : worldless o = true) (e : Env) (m : Nat) : ∃ r : Option D, ∀ s : Store, evalOp gl call ⟨e, s, m⟩ o = r.map fun d => (d, s) := by
  have ev : ∀ (s s' : Store) (x : Opd), St.ev gl ⟨e, s, m⟩ x = St.ev gl ⟨e, s', m⟩ x := fun s s' x => by cases x <;> rfl
  have evf : ∀ (s : Store), St.ev gl ⟨e, s, m⟩ = St.ev gl ⟨e, [], m⟩ := fun s => funext fun x => ev s [] x
  cases o <;> simp only [worldless] at h <;> simp only [evalOp, evf, giveE_st]
  case pick c a b =>
    refine ⟨(match St.ev gl ⟨e, [], m⟩ c with | .bool p => some (pickD p (St.ev gl ⟨e, [], m⟩ a) (St.ev gl ⟨e, [], m⟩ b)) | _ => none), fun s => ?_⟩
    unfold pickE
    split <;> simp_all
  case mv x => exact ⟨some (St.ev gl ⟨e, [], m⟩ x), fun s => rfl⟩
  case mkf f caps => exact ⟨some (.clo f (caps.map (St.ev gl ⟨e, [], m⟩))), fun s => rfl⟩
  case alen n => exact ⟨some (.int .i64 (Int.ofNat n)), fun s => rfl⟩
  all_goals first | exact ⟨_, fun s => rfl⟩ | cases h

theorem overStore_id (g : Nat → Option Obj → Option Obj) (hg : ∀ i o, g i o = o) : ∀ (st : Store) (i : Nat), overStore g i st = st
  | [], _ => rfl
  | o :: os, i => by simp only [overStore, hg]; rw [overStore_id g hg os]
theorem callWith_frozen {f : Nat} {as : List D} {st st' : Store} {d : D} (h : callWith call f [] none as st = some (d, st')) : st' = st := by
  unfold callWith at h
  simp only [rootsOf] at h
  split at h
  · split at h
    · cases h
    · split at h
      · split at h
        · injection h with h
          injection h with _ h
          rw [← h]
          have e0 : dropAll st ([] ++ nested st []) = st := by
            unfold dropAll nested
            exact overStore_id _ (fun i o => by simp) st 0
          rw [e0]
          unfold writeBack
          rw [overStore_id _ (fun i o => by simp) st 0]
          simp
        · cases h
      · cases h
  · cases h
theorem reader_spec {o : VOp} (h : reader o = true) {σ : St} {d : D} {st' : Store} (he : evalOp gl call σ o = some (d, st')) : st' = σ.st := by
  have wl : worldless o = true → st' = σ.st := fun hw => by
    obtain ⟨r, hr⟩ := worldless_spec (gl := gl) (call := call) hw σ.env σ.m
    have := hr σ.st
    rw [show (⟨σ.env, σ.st, σ.m⟩ : St) = σ from rfl, he] at this
    obtain ⟨_, _, h⟩ := Option.map_eq_some_iff.1 this.symm
    injection h with _ h
    exact h.symm
  cases o <;> first | exact wl h | skip
  case ld => exact (giveE_some he).2
  case slc => exact (giveE_some he).2
  case ixs => exact (giveE_some he).2
  case cvbs => exact (giveE_some he).2
  case call f rw fz as =>
    simp only [reader, Bool.and_eq_true, List.isEmpty_iff, Option.isNone_iff_eq_none] at h
    obtain ⟨rfl, rfl⟩ := h
    exact callWith_frozen he
  case callc x as =>
    simp only [evalOp, callE] at he
    split at he
    · exact callWith_frozen he
    · cases he

/-! ### A step, and two in the other order -/
def outcome (gl : Nat → Option (List D)) (call : Nat → List D → Store → Option (D × Store)) (o : VOper) (σ : St) : Option (D × Store) :=
  match o.g with
  | none => evalOp gl call σ o.op
  | some (t, want) =>
    match σ.env t with
    | .bool b => if b = want then evalOp gl call σ o.op else some (.undef, σ.st)
    | .undef => some (.undef, σ.st)
    | _ => none
theorem stepOp_eq (o : VOper) (σ : St) : stepOp gl call o σ = (outcome gl call o σ).map fun p => { σ with env := putO σ.env o.dst p.1, st := p.2 } := by
  obtain ⟨dst, op, g⟩ := o
  cases g with
  | none => rfl
  | some p =>
    obtain ⟨t, want⟩ := p
    simp only [stepOp, outcome]
    cases hq : σ.env t <;> simp only
    case bool b => by_cases hb : b = want <;> simp [hb]
    all_goals rfl

theorem outcome_congr {o : VOper} {σ σ' : St} (hst : σ.st = σ'.st) (h : ∀ t ∈ usesOf o, σ.env t = σ'.env t) : outcome gl call o σ = outcome gl call o σ' := by
  have h1 : ∀ t ∈ tmpsOf (opnds o.op), σ.env t = σ'.env t := fun t ht => h t (List.mem_append_left _ ht)
  unfold outcome
  rw [evalOp_congr o.op hst h1, hst]
  split
  · rfl
  · rename_i t want hg
    rw [h t (by unfold usesOf; rw [hg]; simp)]
theorem outcome_worldless {o : VOper} (hw : worldless o.op = true) (e : Env) (m : Nat) : ∃ r : Option D, ∀ s : Store, outcome gl call o ⟨e, s, m⟩ = r.map fun d => (d, s) := by
  obtain ⟨r, hr⟩ := worldless_spec (gl := gl) (call := call) hw e m
  unfold outcome
  simp only [hr]
  split
  · exact ⟨r, fun _ => rfl⟩
  · rename_i t want hg
    cases e t
    case bool b =>
      by_cases hb : b = want
      · exact ⟨r, fun s => by simp [hb]⟩
      · exact ⟨some .undef, fun s => by simp [hb]⟩
    case undef => exact ⟨some .undef, fun s => rfl⟩
    all_goals exact ⟨none, fun s => rfl⟩
theorem outcome_reader {o : VOper} (hr : reader o.op = true) {σ : St} {d : D} {st' : Store} (h : outcome gl call o σ = some (d, st')) : st' = σ.st := by
  unfold outcome at h
  split at h
  · exact reader_spec hr h
  · split at h
    · split at h
      · exact reader_spec hr h
      · injection h with h; injection h with _ h; exact h.symm
    · injection h with h; injection h with _ h; exact h.symm
    · cases h

/-- What one lays the other does not look at. -/
def apartV (x y : VOper) : Bool :=
  (match x.dst with | some d => !(usesOf y).contains d && y.dst != some d | none => true) && (match y.dst with | some d => !(usesOf x).contains d | none => true)
def commV (x y : VOper) : Bool := apartV x y && (worldless x.op || worldless y.op || (reader x.op && reader y.op))

theorem putO_other {e : Env} {dst : Option Nat} {d : D} {l : List Nat} (h : ∀ t, dst = some t → t ∉ l) : ∀ t ∈ l, putO e dst d t = e t := by
  intro t ht
  unfold putO
  split
  · rename_i t' hd
    unfold put
    rw [if_neg]
    rintro rfl
    exact h t rfl ht
  · rfl
theorem putO_comm {e : Env} {a b : Option Nat} (h : ∀ t, a = some t → b ≠ some t) (x y : D) : putO (putO e a x) b y = putO (putO e b y) a x := by
  cases a with
  | none => cases b <;> rfl
  | some s =>
    cases b with
    | none => rfl
    | some t =>
      have hne : s ≠ t := fun e => h s rfl (by rw [e])
      funext z
      simp only [putO, put]
      by_cases h1 : z = t
      · rw [if_pos h1, if_neg (by omega), if_pos h1]
      · rw [if_neg h1, if_neg h1]

theorem swap {x y : VOper} (h : commV x y = true) {σ σ2 : St} (hr : (stepOp gl call x σ).bind (stepOp gl call y) = some σ2) : (stepOp gl call y σ).bind (stepOp gl call x) = some σ2 := by
  simp only [commV, apartV, Bool.and_eq_true, Bool.or_eq_true] at h
  obtain ⟨⟨ha, hb⟩, hc⟩ := h
  have u1 : ∀ t, x.dst = some t → t ∉ usesOf y := fun t ht => by rw [ht] at ha; simp at ha; exact ha.1
  have u2 : ∀ t, x.dst = some t → y.dst ≠ some t := fun t ht => by rw [ht] at ha; simp at ha; exact ha.2
  have u3 : ∀ t, y.dst = some t → t ∉ usesOf x := fun t ht => by rw [ht] at hb; simpa using hb
  obtain ⟨σ1, h1, h2⟩ := Option.bind_eq_some_iff.1 hr
  rw [stepOp_eq] at h1
  obtain ⟨⟨dx, s1⟩, hx, rfl⟩ := Option.map_eq_some_iff.1 h1
  rw [stepOp_eq] at h2
  obtain ⟨⟨dy, s2⟩, hy, rfl⟩ := Option.map_eq_some_iff.1 h2
  -- y ahead of x
  have hy0 : outcome gl call y { σ with st := s1 } = some (dy, s2) := by
    rw [← hy]
    exact outcome_congr rfl fun t ht => (putO_other u1 t ht).symm
  have done : ∀ s', outcome gl call y σ = some (dy, s') → outcome gl call x { σ with st := s' } = some (dx, s2) → (stepOp gl call y σ).bind (stepOp gl call x) = some { σ with env := putO (putO σ.env x.dst dx) y.dst dy, st := s2 } := by
    intro s' hy' hx'
    rw [stepOp_eq, hy']
    simp only [Option.map_some, Option.bind_some]
    have e1 : outcome gl call x { σ with env := putO σ.env y.dst dy, st := s' } = some (dx, s2) := by
      rw [← hx']
      exact outcome_congr rfl fun t ht => putO_other u3 t ht
    rw [stepOp_eq, e1]
    simp only [Option.map_some]
    rw [putO_comm u2 dx dy]
  rcases hc with (hc | hc) | ⟨hc1, hc2⟩
  · obtain ⟨r, hw⟩ := outcome_worldless (gl := gl) (call := call) hc σ.env σ.m
    have e := hw σ.st
    rw [show (⟨σ.env, σ.st, σ.m⟩ : St) = σ from rfl, hx] at e
    obtain ⟨d', rfl, e2⟩ := Option.map_eq_some_iff.1 e.symm
    injection e2 with e2 e3
    subst e2; subst e3
    exact done s2 hy0 (hw s2)
  · obtain ⟨r, hw⟩ := outcome_worldless (gl := gl) (call := call) hc σ.env σ.m
    have e := hw s1
    rw [show (⟨σ.env, s1, σ.m⟩ : St) = { σ with st := s1 } from rfl, hy0] at e
    obtain ⟨d', rfl, e2⟩ := Option.map_eq_some_iff.1 e.symm
    injection e2 with e2 e3
    subst e2; subst e3
    exact done σ.st (hw σ.st) hx
  · have e1 := outcome_reader hc1 hx
    subst e1
    have e2 := outcome_reader hc2 hy0
    simp only at e2
    subst e2
    exact done σ.st hy0 hx

/-! #### A load and a store of different objects -/
def ptr2 : VOp → VOp → Option (Nat × Nat)
  | .ld _ (.t p), .sto _ (.t q) _ => some (p, q)
  | .sto _ (.t p) _, .ld _ (.t q) => some (p, q)
  | _, _ => none
theorem load_other {st : Store} {n : Option Nat} {d : D} {id : Nat} {o : Option Obj} (h : ∀ a, objOf d = some a → a ≠ id) : loadD (st.set id o) n d = loadD st n d := by
  cases d with
  | ptr a off => simp only [loadD, obj_set_ne o (h a rfl)]
  | ept a r off => simp only [loadD, obj_set_ne o (h a rfl)]
  | _ => rfl
theorem store_at {st st' : Store} {n : Nat} {d y : D} (h : storeD st n d y = some st') : ∃ id o, objOf d = some id ∧ st' = st.set id o := by
  unfold storeD at h
  split at h
  · split at h
    · split at h
      · split at h
        · injection h with h; exact ⟨_, _, rfl, h.symm⟩
        · cases h
      · cases h
    · split at h
      · split at h
        · split at h
          · injection h with h; exact ⟨_, _, rfl, h.symm⟩
          · cases h
        · cases h
      · cases h
    · cases h
  · cases h
theorem disjD_spec {d e : D} (h : disjD d e = true) {a b : Nat} (ha : objOf d = some a) (hb : objOf e = some b) : a ≠ b := by
  unfold disjD at h
  rw [ha, hb] at h
  simpa [disjO] using h
theorem stoE_was {s : Option Store} {d : D} {st' : Store} (h : stoE s = some (d, st')) : s = some st' ∧ d = .undef := by
  unfold stoE at h
  split at h
  · injection h with h; injection h with h1 h2; subst h1; subst h2; exact ⟨rfl, rfl⟩
  · cases h

/-- They do commute here. -/
def CommAt (σ : St) (x y : VOper) : Prop := commV x y = true ∨ (x.g = none ∧ y.g = none ∧ apartV x y = true ∧ ∃ p q, ptr2 x.op y.op = some (p, q) ∧ (disjD (σ.env p) (σ.env q) = true ∨ disjD (σ.env q) (σ.env p) = true))
theorem swapAt {x y : VOper} {σ σ2 : St} (h : CommAt σ x y) (hr : (stepOp gl call x σ).bind (stepOp gl call y) = some σ2) : (stepOp gl call y σ).bind (stepOp gl call x) = some σ2 := by
  rcases h with h | ⟨gx, gy, ha, p, q, hpq, hd⟩
  · exact swap h hr
  simp only [apartV, Bool.and_eq_true] at ha
  obtain ⟨ha, hb⟩ := ha
  have u1 : ∀ t, x.dst = some t → t ∉ usesOf y := fun t ht => by rw [ht] at ha; simp at ha; exact ha.1
  have u2 : ∀ t, x.dst = some t → y.dst ≠ some t := fun t ht => by rw [ht] at ha; simp at ha; exact ha.2
  have u3 : ∀ t, y.dst = some t → t ∉ usesOf x := fun t ht => by rw [ht] at hb; simpa using hb
  obtain ⟨σ1, h1, h2⟩ := Option.bind_eq_some_iff.1 hr
  rw [stepOp_eq] at h1
  obtain ⟨⟨dx, s1⟩, hx, rfl⟩ := Option.map_eq_some_iff.1 h1
  rw [stepOp_eq] at h2
  obtain ⟨⟨dy, s2⟩, hy, rfl⟩ := Option.map_eq_some_iff.1 h2
  have hy0 : outcome gl call y { σ with st := s1 } = some (dy, s2) := by
    rw [← hy]
    exact outcome_congr rfl fun t ht => (putO_other u1 t ht).symm
  have done : ∀ s', outcome gl call y σ = some (dy, s') → outcome gl call x { σ with st := s' } = some (dx, s2) → (stepOp gl call y σ).bind (stepOp gl call x) = some { σ with env := putO (putO σ.env x.dst dx) y.dst dy, st := s2 } := by
    intro s' hy' hx'
    rw [stepOp_eq, hy']
    simp only [Option.map_some, Option.bind_some]
    have e1 : outcome gl call x { σ with env := putO σ.env y.dst dy, st := s' } = some (dx, s2) := by
      rw [← hx']
      exact outcome_congr rfl fun t ht => putO_other u3 t ht
    rw [stepOp_eq, e1]
    simp only [Option.map_some]
    rw [putO_comm u2 dx dy]
  have hne : ∀ a b, objOf (σ.env p) = some a → objOf (σ.env q) = some b → a ≠ b := fun a b h1 h2 => by
    rcases hd with hd | hd
    · exact disjD_spec hd h1 h2
    · exact (disjD_spec hd h2 h1).symm
  obtain ⟨dstx, opx, ggx⟩ := x
  obtain ⟨dsty, opy, ggy⟩ := y
  simp only at gx gy hpq
  subst gx; subst gy
  simp only [outcome] at hx hy0 done
  unfold ptr2 at hpq
  split at hpq
  · rename_i n p' m q' v
    injection hpq with hpq; injection hpq with e1 e2; subst e1; subst e2
    simp only [evalOp] at hx hy0 done
    obtain ⟨hx1, rfl⟩ := giveE_some hx
    obtain ⟨hy1, rfl⟩ := stoE_was hy0
    obtain ⟨id, o, hid, rfl⟩ := store_at hy1
    refine done _ (by simp only [St.ev] at hy1 ⊢; exact hy0) ?_
    have : loadD (σ.st.set id o) n (σ.env p') = loadD σ.st n (σ.env p') := load_other fun a ha => hne a id ha hid
    simp only [St.ev] at hx1 ⊢
    rw [this, hx1]; rfl
  · rename_i m p' v n q'
    injection hpq with hpq; injection hpq with e1 e2; subst e1; subst e2
    simp only [evalOp] at hx hy0 done
    obtain ⟨hx1, rfl⟩ := stoE_was hx
    obtain ⟨hy1, rfl⟩ := giveE_some hy0
    obtain ⟨id, o, hid, rfl⟩ := store_at hx1
    have : loadD (σ.st.set id o) n (σ.env q') = loadD σ.st n (σ.env q') := load_other fun a ha => (hne id a hid ha).symm
    simp only [St.ev] at hy1
    rw [this] at hy1
    exact done σ.st (by simp only [St.ev]; rw [hy1]; rfl) (by simp only [St.ev] at hx1 ⊢; exact hx)
  · cases hpq

/-- An operation that commutes with all ahead of it may come first. -/
theorem first {y : VOper} : ∀ (pre : List VOper) {σ σ2 : St}, (∀ l1 x l2 σ1, pre = l1 ++ x :: l2 → runOps gl call l1 σ = some σ1 → CommAt σ1 x y) → runOps gl call (pre ++ [y]) σ = some σ2 → runOps gl call (y :: pre) σ = some σ2
  | [], σ, σ2, _, h => h
  | x :: pre, σ, σ2, hc, h => by
    simp only [List.cons_append, runOps] at h
    obtain ⟨σ1, h1, h2⟩ := Option.bind_eq_some_iff.1 h
    have ih := first pre (fun l1 z l2 τ he hr => hc (x :: l1) z l2 τ (by rw [he]; rfl) (by simp only [runOps]; rw [h1]; exact hr)) h2
    simp only [runOps] at ih ⊢
    obtain ⟨σ3, h3, h4⟩ := Option.bind_eq_some_iff.1 ih
    have := swapAt (hc [] x pre σ rfl rfl) (σ2 := σ3) (by rw [h1]; exact h3)
    obtain ⟨σ4, h5, h6⟩ := Option.bind_eq_some_iff.1 this
    rw [h5]
    simp only [Option.bind_some]
    rw [h6]
    exact h4
theorem runOps_append (a b : List VOper) (σ : St) : runOps gl call (a ++ b) σ = (runOps gl call a σ).bind (runOps gl call b) := by
  induction a generalizing σ with
  | nil => rfl
  | cons x a ih =>
    simp only [List.cons_append, runOps]
    cases stepOp gl call x σ with
    | none => rfl
    | some s => simp only [Option.bind_some]; exact ih s
theorem to_front {y : VOper} {pre post : List VOper} {σ σ2 : St} (hc : ∀ l1 x l2 σ1, pre = l1 ++ x :: l2 → runOps gl call l1 σ = some σ1 → CommAt σ1 x y) (h : runOps gl call (pre ++ y :: post) σ = some σ2) : runOps gl call (y :: (pre ++ post)) σ = some σ2 := by
  rw [show pre ++ y :: post = (pre ++ [y]) ++ post by simp, runOps_append] at h
  obtain ⟨σ1, h1, h2⟩ := Option.bind_eq_some_iff.1 h
  have := first pre hc h1
  rw [show y :: (pre ++ post) = (y :: pre) ++ post by simp, runOps_append, this]
  exact h2
/-- What no operation lays is as it was. -/
theorem runOps_keeps {t : Nat} : ∀ (l : List VOper) {σ σ2 : St}, (∀ o ∈ l, o.dst ≠ some t) → runOps gl call l σ = some σ2 → σ2.env t = σ.env t
  | [], σ, σ2, _, h => by
    simp only [runOps] at h
    injection h with h; rw [h]
  | o :: l, σ, σ2, hl, h => by
    simp only [runOps] at h
    obtain ⟨σ1, h1, h2⟩ := Option.bind_eq_some_iff.1 h
    rw [runOps_keeps l (fun x hx => hl x (by simp [hx])) h2]
    rw [stepOp_eq] at h1
    obtain ⟨p, _, rfl⟩ := Option.map_eq_some_iff.1 h1
    exact putO_other (l := [t]) (fun t' ht hm => hl o (by simp) (by rw [ht, List.mem_singleton.1 hm])) t (by simp)
end
end Go.Vi
