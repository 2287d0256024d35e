/- Vi: the abstract machine's equations, in the form in which simp runs it ('simp only [go_sem, ..]'). -/
import Derived.Test.YtcnhokifbgbegaaViLim
import Derived.Attr
set_option linter.unusedVariables false
namespace Go.Vi
/-- (so that simp keeps the proof) -/
theorem hide {α : Sort _} {a b : α} (h : a = b) : a = b := by cases h; rfl
section
variable (gl : Nat → Option (List D)) (C : Nat → Option VFunc) (prim : CallF)

/-- It ends, and so. -/
def W (c : VCode) (Q : Ex → St → Prop) (σ : St) : Prop := ∃ p, execL gl C prim c σ = some p ∧ Q p.1 p.2
/-- The operations go through, and so. -/
def WR (ops : List VOper) (Q : St → Prop) (σ : St) : Prop := ∃ σ', runOps gl (callL gl C prim) ops σ = some σ' ∧ Q σ'
/-- One value and store, and so. -/
def WV (p : Option (D × Store)) (Q : D → Store → Prop) : Prop := ∃ q, p = some q ∧ Q q.1 q.2

@[go_sem ↓] theorem WV_some (d : D) (s : Store) (Q : D → Store → Prop) : WV (some (d, s)) Q = Q d s := by
  apply propext
  exact ⟨fun ⟨q, h, hq⟩ => by injection h with h; subst h; exact hq, fun h => ⟨_, rfl, h⟩⟩
@[go_sem ↓] theorem WV_none (Q : D → Store → Prop) : WV none Q = False := by
  apply propext
  exact ⟨fun ⟨q, h, _⟩ => (by cases h), fun h => h.elim⟩
@[go_sem] theorem WV_ite (c : Prop) [Decidable c] (p q : Option (D × Store)) (Q : D → Store → Prop) : WV (if c then p else q) Q = if c then WV p Q else WV q Q := by
  split <;> rfl
theorem WV_map {α : Type} (p : Option α) (f : α → D × Store) (Q : D → Store → Prop) : WV (p.map f) Q = ∃ a, p = some a ∧ Q (f a).1 (f a).2 := by
  apply propext
  constructor
  · rintro ⟨q, h, hq⟩
    obtain ⟨a, ha, rfl⟩ := Option.map_eq_some_iff.1 h
    exact ⟨a, ha, hq⟩
  · rintro ⟨a, ha, hq⟩
    exact ⟨_, by rw [ha]; rfl, hq⟩

@[go_sem ↓] theorem W_skip (Q : Ex → St → Prop) (σ : St) : W gl C prim .skip Q σ = Q .normal σ := by
  unfold W; rw [execL_skip]; apply propext
  exact ⟨fun ⟨q, h, hq⟩ => by injection h with h; subst h; exact hq, fun h => ⟨_, rfl, h⟩⟩
@[go_sem ↓] theorem W_exit (id : Nat) (Q : Ex → St → Prop) (σ : St) : W gl C prim (.exit id) Q σ = Q (.exit id) σ := by
  unfold W; rw [execL_exit]; apply propext
  exact ⟨fun ⟨q, h, hq⟩ => by injection h with h; subst h; exact hq, fun h => ⟨_, rfl, h⟩⟩
@[go_sem ↓] theorem W_ret (Q : Ex → St → Prop) (σ : St) : W gl C prim .ret Q σ = Q .ret σ := by
  unfold W; rw [execL_ret]; apply propext
  exact ⟨fun ⟨q, h, hq⟩ => by injection h with h; subst h; exact hq, fun h => ⟨_, rfl, h⟩⟩
/-- What follows: the next statement, or what is told of another ending. -/
def ThenQ (b : VCode) (Q : Ex → St → Prop) : Ex → St → Prop := fun e σ => match e with | .normal => W gl C prim b Q σ | e => Q e σ
@[go_sem ↓] theorem ThenQ_normal (b : VCode) (Q : Ex → St → Prop) (σ : St) : ThenQ gl C prim b Q .normal σ = W gl C prim b Q σ := hide rfl
@[go_sem ↓] theorem ThenQ_exit (b : VCode) (Q : Ex → St → Prop) (id : Nat) (σ : St) : ThenQ gl C prim b Q (.exit id) σ = Q (.exit id) σ := hide rfl
@[go_sem ↓] theorem ThenQ_ret (b : VCode) (Q : Ex → St → Prop) (σ : St) : ThenQ gl C prim b Q .ret σ = Q .ret σ := hide rfl
@[go_sem ↓] theorem W_seq (a b : VCode) (Q : Ex → St → Prop) (σ : St) : W gl C prim (.seq a b) Q σ = W gl C prim a (ThenQ gl C prim b Q) σ := by
  unfold W; rw [execL_seq]; apply propext
  constructor
  · rintro ⟨q, h, hq⟩
    obtain ⟨⟨e, s⟩, hx, hy⟩ := Option.bind_eq_some_iff.1 h
    refine ⟨_, hx, ?_⟩
    cases e with
    | normal => exact ⟨q, hy, hq⟩
    | exit id => injection hy with hy; subst hy; exact hq
    | ret => injection hy with hy; subst hy; exact hq
  · rintro ⟨⟨e, s⟩, hx, hy⟩
    cases e with
    | normal => obtain ⟨q, hq, hr⟩ := hy; exact ⟨q, by rw [hx]; exact hq, hr⟩
    | exit id => exact ⟨_, by rw [hx]; rfl, hy⟩
    | ret => exact ⟨_, by rw [hx]; rfl, hy⟩
def WB (d : D) (p q : Prop) : Prop := match d with | .bool t => if t then p else q | _ => False
@[go_sem] theorem WB_bool (t : Bool) (p q : Prop) : WB (.bool t) p q = if t then p else q := hide rfl
@[go_sem ↓] theorem W_cond (c : Opd) (a b : VCode) (Q : Ex → St → Prop) (σ : St) : W gl C prim (.cond c a b) Q σ = WB (σ.ev gl c) (W gl C prim a Q σ) (W gl C prim b Q σ) := by
  unfold W; rw [execL_cond]
  cases σ.ev gl c <;> simp only [WB]
  case bool t => cases t <;> simp
  all_goals simp
def BlkQ (id : Nat) (Q : Ex → St → Prop) : Ex → St → Prop := fun e σ => match e with | .exit j => if j = id then Q .normal σ else Q (.exit j) σ | e => Q e σ
@[go_sem ↓] theorem BlkQ_normal (id : Nat) (Q : Ex → St → Prop) (σ : St) : BlkQ id Q .normal σ = Q .normal σ := hide rfl
@[go_sem ↓] theorem BlkQ_exit (id j : Nat) (Q : Ex → St → Prop) (σ : St) : BlkQ id Q (.exit j) σ = if j = id then Q .normal σ else Q (.exit j) σ := hide rfl
@[go_sem ↓] theorem BlkQ_ret (id : Nat) (Q : Ex → St → Prop) (σ : St) : BlkQ id Q .ret σ = Q .ret σ := hide rfl
@[go_sem ↓] theorem W_blk (id : Nat) (b : VCode) (Q : Ex → St → Prop) (σ : St) : W gl C prim (.blk id b) Q σ = W gl C prim b (BlkQ id Q) σ := by
  unfold W; rw [execL_blk]; apply propext
  constructor
  · rintro ⟨q, h, hq⟩
    obtain ⟨⟨e, s⟩, hx, rfl⟩ := Option.map_eq_some_iff.1 h
    refine ⟨_, hx, ?_⟩
    cases e with
    | normal => exact hq
    | ret => exact hq
    | exit j =>
      simp only [unExit] at hq
      simp only [BlkQ]
      split
      · rename_i h; simpa [h] using hq
      · rename_i h; simpa [h] using hq
  · rintro ⟨⟨e, s⟩, hx, hy⟩
    refine ⟨_, by rw [hx]; rfl, ?_⟩
    cases e with
    | normal => exact hy
    | ret => exact hy
    | exit j =>
      simp only [BlkQ] at hy
      simp only [unExit]
      split
      · rename_i h; simpa [h] using hy
      · rename_i h; simpa [h] using hy
/-- A loop, laid open once (by hand: 'rw [W_loop]'). -/
theorem W_loop (keep : List Nat) (b : VCode) (Q : Ex → St → Prop) (σ : St) (hl : rootsLive σ.m σ.st = true) : W gl C prim (.loop keep b) Q σ = W gl C prim b (ThenQ gl C prim (.loop keep b) Q) (renorm keep σ) := by
  unfold W; rw [execL_loop, if_pos hl]; apply propext
  constructor
  · rintro ⟨q, h, hq⟩
    obtain ⟨⟨e, s⟩, hx, hy⟩ := Option.bind_eq_some_iff.1 h
    refine ⟨_, hx, ?_⟩
    cases e with
    | normal => exact ⟨q, hy, hq⟩
    | exit id => injection hy with hy; subst hy; exact hq
    | ret => injection hy with hy; subst hy; exact hq
  · rintro ⟨⟨e, s⟩, hx, hy⟩
    cases e with
    | normal => obtain ⟨q, hq, hr⟩ := hy; exact ⟨q, by rw [hx]; exact hq, hr⟩
    | exit id => exact ⟨_, by rw [hx]; rfl, hy⟩
    | ret => exact ⟨_, by rw [hx]; rfl, hy⟩
@[go_sem ↓] theorem W_reg (ops : List VOper) (Q : Ex → St → Prop) (σ : St) : W gl C prim (.reg ops) Q σ = WR gl C prim ops (Q .normal) σ := by
  unfold W WR; rw [execL_reg]; apply propext
  constructor
  · rintro ⟨q, h, hq⟩
    obtain ⟨x, hx, rfl⟩ := Option.map_eq_some_iff.1 h
    exact ⟨x, hx, hq⟩
  · rintro ⟨x, hx, hy⟩
    exact ⟨_, by rw [hx]; rfl, hy⟩
/-- What a region whose order is open asks at its end. -/
def DynQ (qs : List (Nat × Nat)) (Q : St → Prop) (σ : St) : Prop := dynOk qs σ.env = true ∧ Q σ
def DynB (b : Bool) (p : Prop) : Prop := b = true ∧ p
@[go_sem ↓] theorem W_rgd (qs : List (Nat × Nat)) (ops : List VOper) (Q : Ex → St → Prop) (σ : St) : W gl C prim (.rgd qs ops) Q σ = WR gl C prim ops (DynQ qs (Q .normal)) σ := by
  unfold W WR; rw [execL_rgd]; apply propext
  constructor
  · rintro ⟨q, h, hq⟩
    obtain ⟨x, hx, hy⟩ := Option.bind_eq_some_iff.1 h
    split at hy
    · rename_i hd; injection hy with hy; subst hy; exact ⟨x, hx, hd, hq⟩
    · cases hy
  · rintro ⟨x, hx, hd, hy⟩
    exact ⟨_, by rw [hx, Option.bind_some, if_pos hd], hy⟩
@[go_sem ↓] theorem DynQ_nil (Q : St → Prop) (σ : St) : DynQ [] Q σ = Q σ := by
  apply propext; exact ⟨fun h => h.2, fun h => ⟨rfl, h⟩⟩
@[go_sem ↓] theorem DynQ_cons (p q : Nat) (qs : List (Nat × Nat)) (Q : St → Prop) (σ : St) : DynQ ((p, q) :: qs) Q σ = DynB (disjD (σ.env p) (σ.env q)) (DynQ qs Q σ) := by
  apply propext
  simp only [DynQ, DynB, dynOk, List.all_cons, Bool.and_eq_true, and_assoc]
@[go_sem ↓] theorem DynB_true (p : Prop) : DynB true p = p := by apply propext; exact ⟨fun h => h.2, fun h => ⟨rfl, h⟩⟩
@[go_sem] theorem disjD_ptr (a b c d : Nat) : disjD (.ptr a b) (.ptr c d) = (a != c) := hide rfl
@[go_sem ↓] theorem WR_nil (Q : St → Prop) (σ : St) : WR gl C prim [] Q σ = Q σ := by
  unfold WR; apply propext
  exact ⟨fun ⟨q, h, hq⟩ => by injection h with h; subst h; exact hq, fun h => ⟨_, rfl, h⟩⟩
theorem WR_cons (o : VOper) (os : List VOper) (Q : St → Prop) (σ : St) : WR gl C prim (o :: os) Q σ = ∃ s, stepOp gl (callL gl C prim) o σ = some s ∧ WR gl C prim os Q s := by
  unfold WR; apply propext
  simp only [runOps]
  constructor
  · rintro ⟨q, h, hq⟩
    obtain ⟨x, hx, hy⟩ := Option.bind_eq_some_iff.1 h
    exact ⟨x, hx, q, hy, hq⟩
  · rintro ⟨x, hx, q, hy, hq⟩
    exact ⟨q, by rw [hx]; exact hy, hq⟩
@[go_sem ↓] theorem WR_op (d : Nat) (op : VOp) (os : List VOper) (Q : St → Prop) (l : List (Nat × D)) (st : Store) (m : Nat) :
    WR gl C prim (⟨some d, op, none⟩ :: os) Q ⟨ofL l, st, m⟩ = WV (evalOp gl (callL gl C prim) ⟨ofL l, st, m⟩ op) fun v s => WR gl C prim os Q ⟨ofL ((d, v) :: l), s, m⟩ := by
  rw [WR_cons]; unfold WV; apply propext
  simp only [stepOp, putO]
  constructor
  · rintro ⟨s, h, hq⟩
    obtain ⟨p, hp, rfl⟩ := Option.map_eq_some_iff.1 h
    exact ⟨p, hp, by rw [← put_ofL]; exact hq⟩
  · rintro ⟨p, hp, hq⟩
    exact ⟨_, by rw [hp]; rfl, by rw [← put_ofL] at hq; exact hq⟩
@[go_sem ↓] theorem WR_op0 (op : VOp) (os : List VOper) (Q : St → Prop) (l : List (Nat × D)) (st : Store) (m : Nat) :
    WR gl C prim (⟨none, op, none⟩ :: os) Q ⟨ofL l, st, m⟩ = WV (evalOp gl (callL gl C prim) ⟨ofL l, st, m⟩ op) fun _ s => WR gl C prim os Q ⟨ofL l, s, m⟩ := by
  rw [WR_cons]; unfold WV; apply propext
  simp only [stepOp, putO]
  constructor
  · rintro ⟨s, h, hq⟩
    obtain ⟨p, hp, rfl⟩ := Option.map_eq_some_iff.1 h
    exact ⟨p, hp, hq⟩
  · rintro ⟨p, hp, hq⟩
    exact ⟨_, by rw [hp]; rfl, hq⟩
/-- A guard: done, passed over, its condition itself passed over. In each road the condition is known. -/
def WG (d : D) (w : Bool) (p q r : Prop) : Prop := match d with | .bool b => if b = w then p else q | .undef => r | _ => False
@[go_sem ↓] theorem WG_tt (p q r : Prop) : WG (.bool true) true p q r = p := by simp [WG]
@[go_sem ↓] theorem WG_tf (p q r : Prop) : WG (.bool true) false p q r = q := by simp [WG]
@[go_sem ↓] theorem WG_ft (p q r : Prop) : WG (.bool false) true p q r = q := by simp [WG]
@[go_sem ↓] theorem WG_ff (p q r : Prop) : WG (.bool false) false p q r = p := by simp [WG]
@[go_sem ↓] theorem WG_undef (w : Bool) (p q r : Prop) : WG .undef w p q r = r := hide rfl
@[go_sem low] theorem WG_bool (b w : Bool) (p q r : Prop) : WG (.bool b) w p q r = if b = w then p else q := hide rfl
theorem ofL_same (l : List (Nat × D)) (t : Nat) (d : D) (h : ofL l t = d) : ofL ((t, d) :: l) = ofL l := by
  rw [← put_ofL]
  funext x
  simp only [put]
  split
  · rename_i hx; rw [hx, h]
  · rfl
@[go_sem ↓] theorem WR_opg (d : Nat) (op : VOp) (t : Nat) (w : Bool) (os : List VOper) (Q : St → Prop) (l : List (Nat × D)) (st : Store) (m : Nat) :
    WR gl C prim (⟨some d, op, some (t, w)⟩ :: os) Q ⟨ofL l, st, m⟩ = WG (ofL l t) w
      (WV (evalOp gl (callL gl C prim) ⟨ofL ((t, .bool w) :: l), st, m⟩ op) fun v s => WR gl C prim os Q ⟨ofL ((d, v) :: (t, .bool w) :: l), s, m⟩)
      (WR gl C prim os Q ⟨ofL ((d, .undef) :: (t, .bool (!w)) :: l), st, m⟩) (WR gl C prim os Q ⟨ofL ((d, .undef) :: l), st, m⟩) := by
  have h0 := WR_op gl C prim d op os Q l st m
  rw [WR_cons] at h0 ⊢
  simp only [stepOp] at h0 ⊢
  cases h : ofL l t <;> simp only [WG]
  case bool b =>
    by_cases hb : b = w
    · subst hb
      simp only [if_true]
      rw [h0, ofL_same l t _ h]
      have : ∀ v, ofL ((d, v) :: (t, .bool b) :: l) = ofL ((d, v) :: l) := fun v => by rw [← put_ofL, ofL_same l t _ h, put_ofL]
      simp only [this]
    · have hb' : (!w) = b := by cases b <;> cases w <;> simp_all
      simp only [hb, if_false]
      have : ofL ((d, .undef) :: (t, .bool (!w)) :: l) = ofL ((d, .undef) :: l) := by rw [← put_ofL, hb', ofL_same l t _ h, put_ofL]
      rw [this]
      simp [putO, put_ofL]
  case undef => simp [putO, put_ofL]
  all_goals simp
@[go_sem] theorem ofL_cons (a : Nat) (d : D) (l : List (Nat × D)) (t : Nat) : ofL ((a, d) :: l) t = if t = a then d else ofL l t := by
  rw [← put_ofL]; rfl
@[go_sem] theorem ofL_nil (t : Nat) : ofL [] t = .junk := hide rfl
@[go_sem] theorem ev_t (l : List (Nat × D)) (st : Store) (m n : Nat) : St.ev gl ⟨ofL l, st, m⟩ (.t n) = ofL l n := hide rfl
@[go_sem] theorem ev_c (σ : St) (d : D) : St.ev gl σ (.c d) = d := hide rfl
end
-- simp looks at what comes first alone: what follows is looked at when its turn has come
@[congr] theorem WV_congr {p p' : Option (D × Store)} (h : p = p') (Q : D → Store → Prop) : WV p Q = WV p' Q := by rw [h]
@[congr] theorem WR_congr {gl C prim ops ops'} {σ σ' : St} (h : ops = ops') (h' : σ = σ') (Q : St → Prop) : WR gl C prim ops Q σ = WR gl C prim ops' Q σ' := by rw [h, h']
@[congr] theorem W_congr {gl C prim} {σ σ' : St} (h' : σ = σ') (c : VCode) (Q : Ex → St → Prop) : W gl C prim c Q σ = W gl C prim c Q σ' := by rw [h']
@[congr] theorem DynQ_congr {qs} {σ σ' : St} (h : σ = σ') (Q : St → Prop) : DynQ qs Q σ = DynQ qs Q σ' := by rw [h]
@[congr] theorem DynB_congr {b b' : Bool} (h : b = b') (p : Prop) : DynB b p = DynB b' p := by rw [h]
@[congr] theorem ThenQ_congr {gl C prim} {e e' : Ex} (h : e = e') (b : VCode) (Q : Ex → St → Prop) (σ : St) : ThenQ gl C prim b Q e σ = ThenQ gl C prim b Q e' σ := by rw [h]
@[congr] theorem BlkQ_congr {e e' : Ex} (h : e = e') (id : Nat) (Q : Ex → St → Prop) (σ : St) : BlkQ id Q e σ = BlkQ id Q e' σ := by rw [h]
@[congr] theorem WB_congr {d d' : D} (h : d = d') (p q : Prop) : WB d p q = WB d' p q := by rw [h]
@[congr] theorem WG_congr {d d' : D} (h : d = d') (w : Bool) (p q r : Prop) : WG d w p q r = WG d' w p q r := by rw [h]

/-! ### The operations by the shape of what comes in: each fires only when that is known -/
section
variable (gl : Nat → Option (List D)) (call : CallF) (σ : St) (st : Store)
@[go_sem] theorem ev_mv (x : Opd) : evalOp gl call σ (.mv x) = some (σ.ev gl x, σ.st) := hide rfl
@[go_sem] theorem ev_pick (c a b : Opd) : evalOp gl call σ (.pick c a b) = pickE (σ.ev gl c) (σ.ev gl a) (σ.ev gl b) σ.st := hide rfl
@[go_sem] theorem ev_alloc (z : List D) : evalOp gl call σ (.alloc z) = some (.ptr σ.st.length 0, σ.st ++ [some (.bx z)]) := hide rfl
@[go_sem] theorem ev_box (x : Opd) : evalOp gl call σ (.box x) = boxE (σ.ev gl x) σ.st := hide rfl
@[go_sem] theorem ev_build (z : List D) (ps) : evalOp gl call σ (.build z ps) = giveE ((fillP (σ.ev gl) z ps).map .agg) σ.st := hide rfl
@[go_sem] theorem ev_bsl (own : Bool) (e k : Nat) (xs : List Opd) : evalOp gl call σ (.bsl own e k xs) = bslE own e k (xs.map fun x => cellsOf (σ.ev gl x)) σ.st := hide rfl
@[go_sem] theorem ev_eqs (sh : List Kd) (neg : Bool) (x y : Opd) : evalOp gl call σ (.eqs sh neg x y) = giveE (eqsD sh neg (σ.ev gl x) (σ.ev gl y)) σ.st := hide rfl
@[go_sem] theorem ev_eqb (neg : Bool) (x y : Opd) : evalOp gl call σ (.eqb neg x y) = giveE (eqbD neg (σ.ev gl x) (σ.ev gl y)) σ.st := hide rfl
@[go_sem] theorem ev_ld (n : Option Nat) (x : Opd) : evalOp gl call σ (.ld n x) = giveE (loadD σ.st n (σ.ev gl x)) σ.st := hide rfl
@[go_sem] theorem ev_sto (n : Nat) (x y : Opd) : evalOp gl call σ (.sto n x y) = stoE (storeD σ.st n (σ.ev gl x) (σ.ev gl y)) := hide rfl
@[go_sem] theorem ev_nilc (x : Opd) : evalOp gl call σ (.nilc x) = giveE (nilcD (σ.ev gl x)) σ.st := hide rfl
@[go_sem] theorem ev_bin (b : BinOp) (x y : Opd) : evalOp gl call σ (.bin b x y) = giveE (bin b (σ.ev gl x) (σ.ev gl y)) σ.st := hide rfl
@[go_sem] theorem ev_not (x : Opd) : evalOp gl call σ (.not x) = giveE (notD (σ.ev gl x)) σ.st := hide rfl
@[go_sem] theorem ev_neg (x : Opd) : evalOp gl call σ (.neg x) = giveE (negD (σ.ev gl x)) σ.st := hide rfl
@[go_sem] theorem ev_cvi (k : IntKind) (x : Opd) : evalOp gl call σ (.cvi k x) = giveE (cviD k (σ.ev gl x)) σ.st := hide rfl
@[go_sem] theorem ev_cvbs (x : Opd) : evalOp gl call σ (.cvbs x) = giveE (cvbsD σ.st (σ.ev gl x)) σ.st := hide rfl
@[go_sem] theorem ev_cvsb (x : Opd) : evalOp gl call σ (.cvsb x) = giveE (cvsbD (σ.ev gl x)) σ.st := hide rfl
@[go_sem] theorem ev_mkf (f : Nat) (cs : List Opd) : evalOp gl call σ (.mkf f cs) = some (.clo f (cs.map (σ.ev gl)), σ.st) := hide rfl
@[go_sem] theorem ev_mks (e : Nat) (z : List D) (n c : Opd) : evalOp gl call σ (.mks e z n c) = mksE e z (σ.ev gl n) (σ.ev gl c) σ.st := hide rfl
@[go_sem] theorem ev_slc (e k : Nat) (x : Opd) (lo hi : Option Opd) : evalOp gl call σ (.slc e k x lo hi) = giveE (sliceD σ.st e k (σ.ev gl x) (lo.map (σ.ev gl)) (hi.map (σ.ev gl))) σ.st := hide rfl
@[go_sem] theorem ev_fld (o : Nat) (x : Opd) : evalOp gl call σ (.fld o x) = giveE (fieldD o (σ.ev gl x)) σ.st := hide rfl
@[go_sem] theorem ev_ixs (e k : Nat) (x i : Opd) : evalOp gl call σ (.ixs e k x i) = giveE (ixsD σ.st e k (σ.ev gl x) (σ.ev gl i)) σ.st := hide rfl
@[go_sem] theorem ev_ixa (n k : Nat) (x i : Opd) : evalOp gl call σ (.ixa n k x i) = giveE (ixaD n k (σ.ev gl x) (σ.ev gl i)) σ.st := hide rfl
@[go_sem] theorem ev_ixt (x i : Opd) : evalOp gl call σ (.ixt x i) = giveE (ixtD (σ.ev gl x) (σ.ev gl i)) σ.st := hide rfl
@[go_sem] theorem ev_extr (x : Opd) (j : Nat) : evalOp gl call σ (.extr x j) = giveE (extrD (σ.ev gl x) j) σ.st := hide rfl
@[go_sem] theorem ev_call (f : Nat) (rw : List Bool) (fz : Option (List Nat)) (as : List Opd) : evalOp gl call σ (.call f rw fz as) = callWith call f rw fz (as.map (σ.ev gl)) σ.st := hide rfl
@[go_sem] theorem ev_callc (x : Opd) (as : List Opd) : evalOp gl call σ (.callc x as) = callE call (σ.ev gl x) (as.map (σ.ev gl)) σ.st := hide rfl
@[go_sem] theorem ev_len (s : Bool) (x : Opd) : evalOp gl call σ (.len s x) = giveE (lenE s (σ.ev gl x)) σ.st := hide rfl
@[go_sem] theorem ev_alen (n : Nat) : evalOp gl call σ (.alen n) = some (.int .i64 (Int.ofNat n), σ.st) := hide rfl
@[go_sem] theorem ev_app (own : Bool) (e : Nat) (z : List D) (x y : Opd) : evalOp gl call σ (.app own e z x y) = frzO own (appE σ.st e z.length (σ.ev gl x) (σ.ev gl y)) := hide rfl
@[go_sem] theorem ev_mx (x y : Opd) : evalOp gl call σ (.mx x y) = giveE (maxD (σ.ev gl x) (σ.ev gl y)) σ.st := hide rfl
@[go_sem] theorem ev_mn (x y : Opd) : evalOp gl call σ (.mn x y) = giveE (minD (σ.ev gl x) (σ.ev gl y)) σ.st := hide rfl
@[go_sem] theorem giveE_s (d : D) : giveE (some d) st = some (d, st) := hide rfl
@[go_sem] theorem giveE_none : giveE none st = none := hide rfl
theorem giveE_ite (c : Prop) [Decidable c] (a b : Option D) : giveE (if c then a else b) st = if c then giveE a st else giveE b st := by split <;> rfl
@[go_sem] theorem stoE_some (s : Store) : stoE (some s) = some (.undef, s) := hide rfl
@[go_sem] theorem pickE_bool (p : Bool) (a b : D) : pickE (.bool p) a b st = some (pickD p a b, st) := hide rfl
@[go_sem] theorem pickD_bools (p a b : Bool) : pickD p (.bool a) (.bool b) = .bool (if p then a else b) := hide rfl
@[go_sem] theorem pickD_uf (p b : Bool) : pickD p .undef (.bool b) = if p then .undef else .bool b := hide rfl
@[go_sem] theorem pickD_fu (p b : Bool) : pickD p (.bool b) .undef = if p then .bool b else .undef := hide rfl
@[go_sem] theorem boxE_agg (cs : List D) : boxE (.agg cs) st = if cs.all oneCell then some (.ptr st.length 0, st ++ [some (.bx cs)]) else none := hide rfl
@[go_sem] theorem boxE_int (k : IntKind) (n : Int) : boxE (.int k n) st = some (.ptr st.length 0, st ++ [some (.bx [.int k n])]) := hide rfl
@[go_sem] theorem boxE_bool (n : Bool) : boxE (.bool n) st = some (.ptr st.length 0, st ++ [some (.bx [.bool n])]) := hide rfl
@[go_sem] theorem boxE_str (n : List UInt8) : boxE (.str n) st = some (.ptr st.length 0, st ++ [some (.bx [.str n])]) := hide rfl
@[go_sem] theorem boxE_sl (n : List (List D)) : boxE (.sl n) st = some (.ptr st.length 0, st ++ [some (.bx [.sl n])]) := hide rfl
@[go_sem] theorem boxE_nsl : boxE .nsl st = some (.ptr st.length 0, st ++ [some (.bx [.nsl])]) := hide rfl
@[go_sem] theorem boxE_osl (a b c : Nat) : boxE (.osl a b c) st = some (.ptr st.length 0, st ++ [some (.bx [.osl a b c])]) := hide rfl
@[go_sem] theorem boxE_clo (f : Nat) (cs : List D) : boxE (.clo f cs) st = some (.ptr st.length 0, st ++ [some (.bx [.clo f cs])]) := hide rfl
@[go_sem] theorem bslE_own (e k : Nat) (rows : List (List D)) : bslE true e k rows st = if rows.all (rowOk k) then some (.osl st.length 0 rows.length, st ++ [some (.rw e rows)]) else none := hide rfl
@[go_sem] theorem bslE_sl (e k : Nat) (rows : List (List D)) : bslE false e k rows st = if rows.all (rowOk k) then some (.sl rows, st) else none := hide rfl
@[go_sem] theorem rowOk_eq (k : Nat) (r : List D) : rowOk k r = (r.length == k && r.all fun d => pure 5 d && oneCell d) := hide rfl
@[go_sem] theorem valOf_some (n : Nat) (cs : List D) : valOf (some n) cs = if n ≤ cs.length then some (.agg (cs.take n)) else none := hide rfl
@[go_sem] theorem valOf_cons (c : D) (cs : List D) : valOf none (c :: cs) = some c := hide rfl
def loadB (o : Option Obj) (n : Option Nat) (off : Nat) : Option D := match o with | some (.bx cs) => valOf n (cs.drop off) | _ => none
def loadR (o : Option Obj) (n : Option Nat) (row off : Nat) : Option D := match o with | some (.rw e rows) => (match rows[row]? with | some r => valOf n (r.drop off) | none => none) | _ => none
def loadW (r : Option (List D)) (n : Option Nat) (off : Nat) : Option D := match r with | some r => valOf n (r.drop off) | none => none
@[go_sem] theorem loadD_ptr (n : Option Nat) (id off : Nat) : loadD st n (.ptr id off) = loadB (st.obj id) n off := hide rfl
@[go_sem] theorem loadD_ept (n : Option Nat) (id row off : Nat) : loadD st n (.ept id row off) = loadR (st.obj id) n row off := hide rfl
@[go_sem] theorem loadD_ipt (n : Option Nat) (cs : List D) : loadD st n (.ipt cs) = valOf n cs := hide rfl
@[go_sem] theorem loadB_bx (cs : List D) (n : Option Nat) (off : Nat) : loadB (some (.bx cs)) n off = valOf n (cs.drop off) := hide rfl
@[go_sem] theorem loadR_rw (e : Nat) (rows : List (List D)) (n : Option Nat) (row off : Nat) : loadR (some (.rw e rows)) n row off = loadW rows[row]? n off := by unfold loadR loadW; split <;> simp_all
@[go_sem] theorem loadW_some (r : List D) (n : Option Nat) (off : Nat) : loadW (some r) n off = valOf n (r.drop off) := hide rfl
def stoB (o : Option Obj) (st : Store) (n id off : Nat) (ys : List D) : Option Store := match o with | some (.bx cs) => if off + n ≤ cs.length then some (st.set id (some (.bx (spliceD cs off ys)))) else none | _ => none
def stoR (o : Option Obj) (st : Store) (n id row off : Nat) (ys : List D) : Option Store := match o with
  | some (.rw e rows) => (match rows[row]? with | some r => if off + n ≤ r.length ∧ ys.all (pure 5) then some (st.set id (some (.rw e (rows.set row (spliceD r off ys))))) else none | none => none)
  | _ => none
def stoW (o : Option (List D)) (e : Nat) (rows : List (List D)) (st : Store) (n id row off : Nat) (ys : List D) : Option Store := match o with
  | some r => if off + n ≤ r.length ∧ ys.all (pure 5) then some (st.set id (some (.rw e (rows.set row (spliceD r off ys))))) else none | none => none
@[go_sem] theorem storeD_ptr (n id off : Nat) (y : D) : storeD st n (.ptr id off) y = if (cellsOf y).length = n ∧ (cellsOf y).all oneCell then stoB (st.obj id) st n id off (cellsOf y) else none := hide rfl
@[go_sem] theorem storeD_ept (n id row off : Nat) (y : D) : storeD st n (.ept id row off) y = if (cellsOf y).length = n ∧ (cellsOf y).all oneCell then stoR (st.obj id) st n id row off (cellsOf y) else none := hide rfl
@[go_sem] theorem stoB_bx (cs : List D) (n id off : Nat) (ys : List D) : stoB (some (.bx cs)) st n id off ys = if off + n ≤ cs.length then some (st.set id (some (.bx (spliceD cs off ys)))) else none := hide rfl
@[go_sem] theorem stoR_rw (e : Nat) (rows : List (List D)) (n id row off : Nat) (ys : List D) : stoR (some (.rw e rows)) st n id row off ys = stoW rows[row]? e rows st n id row off ys := by unfold stoR stoW; split <;> simp_all
@[go_sem] theorem stoW_some (r : List D) (e : Nat) (rows : List (List D)) (n id row off : Nat) (ys : List D) : stoW (some r) e rows st n id row off ys = if off + n ≤ r.length ∧ ys.all (pure 5) then some (st.set id (some (.rw e (rows.set row (spliceD r off ys))))) else none := hide rfl
@[go_sem] theorem cellsOf_agg (cs : List D) : cellsOf (.agg cs) = cs := hide rfl
@[go_sem] theorem cellsOf_int (k : IntKind) (n : Int) : cellsOf (.int k n) = [.int k n] := hide rfl
@[go_sem] theorem cellsOf_bool (n : Bool) : cellsOf (.bool n) = [.bool n] := hide rfl
@[go_sem] theorem cellsOf_str (n : List UInt8) : cellsOf (.str n) = [.str n] := hide rfl
@[go_sem] theorem cellsOf_sl (n : List (List D)) : cellsOf (.sl n) = [.sl n] := hide rfl
@[go_sem] theorem cellsOf_nsl : cellsOf .nsl = [.nsl] := hide rfl
@[go_sem] theorem cellsOf_osl (a b c : Nat) : cellsOf (.osl a b c) = [.osl a b c] := hide rfl
@[go_sem] theorem cellsOf_clo (f : Nat) (cs : List D) : cellsOf (.clo f cs) = [.clo f cs] := hide rfl
@[go_sem] theorem cellsOf_ptr (a b : Nat) : cellsOf (.ptr a b) = [.ptr a b] := hide rfl
@[go_sem] theorem one_int (k : IntKind) (n : Int) : oneCell (.int k n) = true := hide rfl
@[go_sem] theorem one_bool (n : Bool) : oneCell (.bool n) = true := hide rfl
@[go_sem] theorem one_str (n : List UInt8) : oneCell (.str n) = true := hide rfl
@[go_sem] theorem one_sl (n : List (List D)) : oneCell (.sl n) = true := hide rfl
@[go_sem] theorem one_nsl : oneCell .nsl = true := hide rfl
@[go_sem] theorem one_osl (a b c : Nat) : oneCell (.osl a b c) = true := hide rfl
@[go_sem] theorem one_clo (f : Nat) (cs : List D) : oneCell (.clo f cs) = true := hide rfl
@[go_sem] theorem one_ptr (a b : Nat) : oneCell (.ptr a b) = true := hide rfl
@[go_sem] theorem pure_int (j : Nat) (k : IntKind) (n : Int) : pure (j + 1) (.int k n) = true := hide rfl
@[go_sem] theorem pure_bool (j : Nat) (n : Bool) : pure (j + 1) (.bool n) = true := hide rfl
@[go_sem] theorem pure_str (j : Nat) (n : List UInt8) : pure (j + 1) (.str n) = true := hide rfl
@[go_sem] theorem pure_sl (j : Nat) (n : List (List D)) : pure (j + 1) (.sl n) = true := hide rfl
@[go_sem] theorem nilc_ptr (a b : Nat) : nilcD (.ptr a b) = some (.ptr a b) := hide rfl
@[go_sem] theorem nilc_ipt (cs : List D) : nilcD (.ipt cs) = some (.ipt cs) := hide rfl
@[go_sem] theorem notD_bool (b : Bool) : notD (.bool b) = some (.bool (!b)) := hide rfl
@[go_sem] theorem negD_int (k : IntKind) (n : Int) : negD (.int k n) = some (.int k (k.wrap (0 - n))) := hide rfl
@[go_sem] theorem cviD_int (k k' : IntKind) (n : Int) : cviD k (.int k' n) = some (.int k (k.wrap n)) := hide rfl
@[go_sem] theorem cvsbD_str (s : List UInt8) : cvsbD (.str s) = some (.sl (s.map byteRow)) := hide rfl
@[go_sem] theorem mksE_int (e : Nat) (z : List D) (k k' : IntKind) (n c : Int) : mksE e z (.int k n) (.int k' c) st = if 0 ≤ n ∧ n ≤ c ∧ c ≤ rowMax ∧ rowOk z.length z then some (.osl st.length 0 n.toNat, st ++ [some (.rw e (List.replicate n.toNat z))]) else none := hide rfl
@[go_sem] theorem ixsD_int (e w : Nat) (x : D) (k : IntKind) (i : Int) : ixsD st e w x (.int k i) = indexD st e w x i := hide rfl
@[go_sem] theorem rowPt_some (k : Nat) (r : List D) : rowPt k (some r) = if r.length = k then some (.ipt r) else none := hide rfl
@[go_sem] theorem indexD_sl (e w : Nat) (rows : List (List D)) (i : Int) : indexD st e w (.sl rows) i = if 0 ≤ i then rowPt w rows[i.toNat]? else none := hide rfl
def ixO (o : Option Obj) (e id off len : Nat) (i : Int) : Option D := match o with | some (.rw e' _) => if 0 ≤ i ∧ i < len ∧ e' = e then some (.ept id (off + i.toNat) 0) else none | _ => none
@[go_sem] theorem indexD_osl (e w id off len : Nat) (i : Int) : indexD st e w (.osl id off len) i = ixO (st.obj id) e id off len i := hide rfl
@[go_sem] theorem ixO_rw (e e' : Nat) (rows : List (List D)) (id off len : Nat) (i : Int) : ixO (some (.rw e' rows)) e id off len i = if 0 ≤ i ∧ i < len ∧ e' = e then some (.ept id (off + i.toNat) 0) else none := hide rfl
@[go_sem] theorem ixaD_int (n k : Nat) (x : D) (kk : IntKind) (i : Int) : ixaD n k x (.int kk i) = if 0 ≤ i ∧ i < n then fieldD (i.toNat * k) x else none := hide rfl
@[go_sem] theorem ixtD_str (s : List UInt8) (k : IntKind) (i : Int) : ixtD (.str s) (.int k i) = if 0 ≤ i then byteAt s[i.toNat]? else none := hide rfl
@[go_sem] theorem byteAt_some (b : UInt8) : byteAt (some b) = some (.int .u8 (Int.ofNat b.toNat)) := hide rfl
@[go_sem] theorem extrD_tup (vs : List D) (j : Nat) : extrD (.tup vs) j = vs[j]? := hide rfl
@[go_sem] theorem fieldD_ptr (o id k : Nat) : fieldD o (.ptr id k) = some (.ptr id (k + o)) := hide rfl
@[go_sem] theorem fieldD_ept (o id r k : Nat) : fieldD o (.ept id r k) = some (.ept id r (k + o)) := hide rfl
@[go_sem] theorem fieldD_ipt (o : Nat) (cs : List D) : fieldD o (.ipt cs) = some (.ipt (cs.drop o)) := hide rfl
@[go_sem] theorem lenE_sl (rows : List (List D)) : lenE false (.sl rows) = some (.int .i64 (rows.length : Int)) := hide rfl
@[go_sem] theorem lenE_nsl : lenE false .nsl = some (.int .i64 0) := hide rfl
@[go_sem] theorem lenE_osl (a b c : Nat) : lenE false (.osl a b c) = some (.int .i64 (c : Int)) := hide rfl
@[go_sem] theorem lenE_str (s : List UInt8) : lenE true (.str s) = some (.int .i64 (s.length : Int)) := hide rfl
@[go_sem] theorem sliceV_sl (e w : Nat) (rows : List (List D)) (l h : Int) : sliceV st e w (.sl rows) l h = if 0 ≤ l ∧ l ≤ h ∧ h ≤ rows.length ∧ rowFits w rows[l.toNat]? = true ∧ w ≠ 0 then some (.sl ((rows.drop l.toNat).take (h.toNat - l.toNat))) else none := hide rfl
@[go_sem] theorem sliceV_str (e w : Nat) (s : List UInt8) (l h : Int) : sliceV st e w (.str s) l h = if 0 ≤ l ∧ l ≤ h ∧ h ≤ s.length ∧ w = 0 then some (.str ((s.drop l.toNat).take (h.toNat - l.toNat))) else none := hide rfl
@[go_sem] theorem sliceV_nsl (e w : Nat) (l h : Int) : sliceV st e w .nsl l h = if l = 0 ∧ h = 0 ∧ w ≠ 0 then some .nsl else none := hide rfl
def slO (o : Option Obj) (e w id off len : Nat) (l h : Int) : Option D := match o with | some (.rw e' _) => if 0 ≤ l ∧ l ≤ h ∧ h ≤ len ∧ e' = e ∧ w ≠ 0 ∧ (l = 0 ∨ l < len) then some (.osl id (off + l.toNat) (h.toNat - l.toNat)) else none | _ => none
@[go_sem] theorem sliceV_osl (e w id off len : Nat) (l h : Int) : sliceV st e w (.osl id off len) l h = slO (st.obj id) e w id off len l h := hide rfl
@[go_sem] theorem slO_rw (e' : Nat) (rows : List (List D)) (e w id off len : Nat) (l h : Int) : slO (some (.rw e' rows)) e w id off len l h = if 0 ≤ l ∧ l ≤ h ∧ h ≤ len ∧ e' = e ∧ w ≠ 0 ∧ (l = 0 ∨ l < len) then some (.osl id (off + l.toNat) (h.toNat - l.toNat)) else none := hide rfl
@[go_sem] theorem rowFits_none (w : Nat) : rowFits w none = true := hide rfl
@[go_sem] theorem rowFits_some (w : Nat) (r : List D) : rowFits w (some r) = (r.length == w) := hide rfl
def rowsO (o : Option Obj) (off len : Nat) : Option (List (List D)) := match o with | some (.rw e rows) => if off + len ≤ rows.length then some ((rows.drop off).take len) else none | _ => none
@[go_sem] theorem rowsD_sl (rows : List (List D)) : rowsD st (.sl rows) = some rows := hide rfl
@[go_sem] theorem rowsD_nsl : rowsD st .nsl = some [] := hide rfl
@[go_sem] theorem rowsD_osl (id off len : Nat) : rowsD st (.osl id off len) = rowsO (st.obj id) off len := hide rfl
@[go_sem] theorem rowsO_rw (e : Nat) (rows : List (List D)) (off len : Nat) : rowsO (some (.rw e rows)) off len = if off + len ≤ rows.length then some ((rows.drop off).take len) else none := hide rfl
def appR (ys : Option (List (List D))) (st : Store) (e k : Nat) (x : D) : Option (D × Store) := match ys with | some ys => if ys.all (rowOk k) then appD st e x ys else none | none => none
@[go_sem] theorem appE_eq (e k : Nat) (x y : D) : appE st e k x y = appR (rowsD st y) st e k x := hide rfl
@[go_sem] theorem appR_some (e k : Nat) (ys : List (List D)) (x : D) : appR (some ys) st e k x = if ys.all (rowOk k) then appD st e x ys else none := hide rfl
def appO (o : Option Obj) (st : Store) (e id len : Nat) (ys : List (List D)) : Option (D × Store) := match o with
  | some (.rw e' rows) => if e' = e ∧ len = rows.length ∧ len + ys.length ≤ rowMax then some (.osl st.length 0 (len + ys.length), st.set id none ++ [some (.rw e (rows ++ ys))]) else none
  | _ => none
@[go_sem] theorem appD_nsl (e : Nat) (ys : List (List D)) : appD st e .nsl ys = if ys.length ≤ rowMax then (if ys.isEmpty then some (.nsl, st) else some (.osl st.length 0 ys.length, st ++ [some (.rw e ys)])) else none := hide rfl
@[go_sem] theorem appD_osl (e id len : Nat) (ys : List (List D)) : appD st e (.osl id 0 len) ys = appO (st.obj id) st e id len ys := hide rfl
@[go_sem] theorem appO_rw (e' e : Nat) (rows : List (List D)) (id len : Nat) (ys : List (List D)) : appO (some (.rw e' rows)) st e id len ys = if e' = e ∧ len = rows.length ∧ len + ys.length ≤ rowMax then some (.osl st.length 0 (len + ys.length), st.set id none ++ [some (.rw e (rows ++ ys))]) else none := hide rfl
@[go_sem] theorem frzO_true (r : Option (D × Store)) : frzO true r = r := hide rfl
@[go_sem] theorem frzO_some (d : D) (s : Store) : frzO false (some (d, s)) = frzE d s := hide rfl
@[go_sem] theorem frzO_none : frzO false none = none := hide rfl
@[go_sem] theorem frzO_ite (b : Prop) [Decidable b] (x y : Option (D × Store)) : frzO false (if b then x else y) = if b then frzO false x else frzO false y := by split <;> rfl
@[go_sem] theorem frzE_osl (id off len : Nat) : frzE (.osl id off len) st = frzW (st.obj id) id off len st := hide rfl
@[go_sem] theorem frzE_nsl : frzE .nsl st = some (.sl [], st) := hide rfl
@[go_sem] theorem frzW_rw (e : Nat) (rows : List (List D)) (id off len : Nat) : frzW (some (.rw e rows)) id off len st = if off + len ≤ rows.length then some (.sl ((rows.drop off).take len), st.set id none) else none := hide rfl
@[go_sem] theorem maxD_int (k k' : IntKind) (a b : Int) : maxD (.int k a) (.int k' b) = some (.int k (if b > a then b else a)) := hide rfl
@[go_sem] theorem minD_int (k k' : IntKind) (a b : Int) : minD (.int k a) (.int k' b) = some (.int k (if b < a then b else a)) := hide rfl
@[go_sem] theorem callE_clo (f : Nat) (caps : List D) (as : List D) : callE call (.clo f caps) as st = callWith call f [] none (as ++ caps) st := hide rfl
section
variable (k : IntKind) (a c : Int)
@[go_sem] theorem bin_add : bin .add (.int k a) (.int k c) = some (.int k (k.wrap (a + c))) := by simp [bin, isShift, binI]
@[go_sem] theorem bin_sub : bin .sub (.int k a) (.int k c) = some (.int k (k.wrap (a - c))) := by simp [bin, isShift, binI]
@[go_sem] theorem bin_mul : bin .mul (.int k a) (.int k c) = some (.int k (k.wrap (a * c))) := by simp [bin, isShift, binI]
@[go_sem] theorem bin_quo : bin .quo (.int k a) (.int k c) = if c = 0 then none else some (.int k (k.wrap (a.tdiv c))) := by simp [bin, isShift, binI]
@[go_sem] theorem bin_rem : bin .rem (.int k a) (.int k c) = if c = 0 then none else some (.int k (a.tmod c)) := by simp [bin, isShift, binI]
@[go_sem] theorem bin_and : bin .and (.int k a) (.int k c) = some (.int k (k.wrap (BitVec.ofInt k.bits a &&& BitVec.ofInt k.bits c).toNat)) := by simp [bin, isShift, binI]
@[go_sem] theorem bin_or : bin .or (.int k a) (.int k c) = some (.int k (k.wrap (BitVec.ofInt k.bits a ||| BitVec.ofInt k.bits c).toNat)) := by simp [bin, isShift, binI]
@[go_sem] theorem bin_xor : bin .xor (.int k a) (.int k c) = some (.int k (k.wrap (BitVec.ofInt k.bits a ^^^ BitVec.ofInt k.bits c).toNat)) := by simp [bin, isShift, binI]
@[go_sem] theorem bin_andNot : bin .andNot (.int k a) (.int k c) = some (.int k (k.wrap (BitVec.ofInt k.bits a &&& ~~~ BitVec.ofInt k.bits c).toNat)) := by simp [bin, isShift, binI]
@[go_sem] theorem bin_eql : bin .eql (.int k a) (.int k c) = some (.bool (a == c)) := by simp [bin, isShift, binI]
@[go_sem] theorem bin_neq : bin .neq (.int k a) (.int k c) = some (.bool (a != c)) := by simp [bin, isShift, binI]
@[go_sem] theorem bin_lss : bin .lss (.int k a) (.int k c) = some (.bool (decide (a < c))) := by simp [bin, isShift, binI]
@[go_sem] theorem bin_leq : bin .leq (.int k a) (.int k c) = some (.bool (decide (a ≤ c))) := by simp [bin, isShift, binI]
@[go_sem] theorem bin_gtr : bin .gtr (.int k a) (.int k c) = some (.bool (decide (a > c))) := by simp [bin, isShift, binI]
@[go_sem] theorem bin_geq : bin .geq (.int k a) (.int k c) = some (.bool (decide (a ≥ c))) := by simp [bin, isShift, binI]
@[go_sem] theorem bin_shl (k' : IntKind) : bin .shl (.int k a) (.int k' c) = if c < 0 then none else some (.int k (k.wrap (a * 2 ^ min c.toNat k.bits))) := by simp [bin, isShift, shiftI]
@[go_sem] theorem bin_shr (k' : IntKind) : bin .shr (.int k a) (.int k' c) = if c < 0 then none else some (.int k (a.fdiv (2 ^ min c.toNat k.bits))) := by simp [bin, isShift, shiftI]
end
@[go_sem] theorem bin_cat (a c : List UInt8) : bin .add (.str a) (.str c) = if a.length + c.length < strMax then some (.str (a ++ c)) else none := hide rfl
@[go_sem] theorem bin_seql (a c : List UInt8) : bin .eql (.str a) (.str c) = some (.bool (a == c)) := hide rfl
@[go_sem] theorem bin_sneq (a c : List UInt8) : bin .neq (.str a) (.str c) = some (.bool (a != c)) := hide rfl
@[go_sem] theorem eqbD_f (a c : Bool) : eqbD false (.bool a) (.bool c) = some (.bool (a == c)) := hide rfl
@[go_sem] theorem eqbD_t (a c : Bool) : eqbD true (.bool a) (.bool c) = some (.bool (a != c)) := hide rfl
def eqTail (b : Bool) (r : Option Bool) : Option Bool := match r with | some c => some (b && c) | none => none
def eqEnd (neg : Bool) (r : Option Bool) : Option D := match r with | some r => some (.bool (if neg then !r else r)) | none => none
@[go_sem] theorem eqsD_agg (sh : List Kd) (neg : Bool) (a c : List D) : eqsD sh neg (.agg a) (.agg c) = eqEnd neg (eqSh sh a c) := by
  show (eqSh sh a c).map _ = _
  cases eqSh sh a c <;> rfl
@[go_sem] theorem eqEnd_f (r : Bool) : eqEnd false (some r) = some (.bool r) := hide rfl
@[go_sem] theorem eqEnd_t (r : Bool) : eqEnd true (some r) = some (.bool (!r)) := hide rfl
@[go_sem] theorem eqTail_some (b c : Bool) : eqTail b (some c) = some (b && c) := hide rfl
@[go_sem] theorem eqSh_nil : eqSh [] [] [] = some true := hide rfl
@[go_sem] theorem eqSh_int (k : IntKind) (sh : List Kd) (a b : Int) (xs ys : List D) : eqSh (.i k :: sh) (.int k a :: xs) (.int k b :: ys) = eqTail (a == b) (eqSh sh xs ys) := by
  simp only [eqSh, and_self, if_true]; cases eqSh sh xs ys <;> rfl
@[go_sem] theorem eqSh_bool (sh : List Kd) (a b : Bool) (xs ys : List D) : eqSh (.b :: sh) (.bool a :: xs) (.bool b :: ys) = eqTail (a == b) (eqSh sh xs ys) := by
  simp only [eqSh]; cases eqSh sh xs ys <;> rfl
@[go_sem] theorem eqSh_str (sh : List Kd) (a b : List UInt8) (xs ys : List D) : eqSh (.s :: sh) (.str a :: xs) (.str b :: ys) = eqTail (a == b) (eqSh sh xs ys) := by
  simp only [eqSh]; cases eqSh sh xs ys <;> rfl
end
attribute [go_sem] Option.map_some Option.map_none Option.isSome_some Option.isSome_none Option.join_some List.getElem?_cons_zero List.getElem?_cons_succ List.drop_zero List.drop_succ_cons List.take_zero List.take_succ_cons List.length_cons List.length_nil
  List.length_append List.length_map List.all_cons List.all_nil List.map_cons List.map_nil List.set_cons_zero List.set_cons_succ List.nil_append List.cons_append Bool.and_self Bool.and_true Bool.true_and Bool.not_true Bool.not_false
  Int.toNat_natCast Int.ofNat_eq_natCast and_self and_true true_and Nat.zero_add Nat.le_refl and_false false_and if_true if_false Nat.zero_le Bool.and_false Bool.false_and Bool.or_true Bool.true_or Bool.or_false Bool.false_or List.append_nil List.isEmpty_nil List.isEmpty_cons List.replicate_zero List.replicate_succ Bool.false_eq_true Nat.mul_one Nat.zero_mul Nat.add_zero
@[go_sem] theorem obj_zero (o : Option Obj) (st : Store) : Store.obj (o :: st) 0 = o := by cases o <;> rfl
@[go_sem] theorem obj_succ (o : Option Obj) (st : Store) (n : Nat) : Store.obj (o :: st) (n + 1) = Store.obj st n := hide rfl
@[go_sem] theorem fillP_nil (ev : Opd → D) (z : List D) : fillP ev z [] = some z := hide rfl
@[go_sem] theorem fillP_cons (ev : Opd → D) (z : List D) (off n : Nat) (x : Opd) (ps) : fillP ev z ((off, n, x) :: ps) = if (cellsOf (ev x)).length = n ∧ (cellsOf (ev x)).all oneCell = true ∧ off + n ≤ z.length then fillP ev (z.take off ++ cellsOf (ev x) ++ z.drop (off + n)) ps else none := hide rfl
attribute [go_sem] spliceD sliceD
end Go.Vi
namespace Go.Vi
/-- A call's end: the result, the store. -/
def Fin (m : Nat) (rs : List VRes) (r : D × Store) : Ex → St → Prop := fun e σ => match e with | .exit _ => False | _ => ∃ d, resAll σ rs = some d ∧ finishO m σ.st d = some r
def FinR (m : Nat) (st : Store) (r : D × Store) (d : Option D) : Prop := ∃ x, d = some x ∧ finishO m st x = some r
@[go_sem ↓] theorem Fin_normal (m : Nat) (rs : List VRes) (r : D × Store) (σ : St) : Fin m rs r .normal σ = FinR m σ.st r (resAll σ rs) := hide rfl
@[go_sem ↓] theorem Fin_ret (m : Nat) (rs : List VRes) (r : D × Store) (σ : St) : Fin m rs r .ret σ = FinR m σ.st r (resAll σ rs) := hide rfl
@[go_sem] theorem FinR_some (m : Nat) (st : Store) (r : D × Store) (d : D) : FinR m st r (some d) = (finishO m st d = some r) := by
  apply propext
  exact ⟨fun ⟨x, h, hx⟩ => by injection h with h; subst h; exact hx, fun h => ⟨_, rfl, h⟩⟩
@[go_sem] theorem resAll_one (σ : St) (t : Nat) : resAll σ [.tmp t] = some (σ.env t) := by simp [resAll, resOf]
@[go_sem] theorem resAll_two (σ : St) (t u : Nat) : resAll σ [.tmp t, .tmp u] = some (.tup [σ.env t, σ.env u]) := by simp [resAll, resOf]
@[go_sem] theorem resAll_three (σ : St) (t u v : Nat) : resAll σ [.tmp t, .tmp u, .tmp v] = some (.tup [σ.env t, σ.env u, σ.env v]) := by simp [resAll, resOf]
@[go_sem] theorem resAll_cell (σ : St) (t : Nat) (n : Option Nat) : resAll σ [.cell t n] = loadD σ.st n (σ.env t) := by
  cases h : loadD σ.st n (σ.env t) <;> simp [resAll, resOf, h]
theorem finish_pure (st : Store) (d : D) (h : refs 5 d = []) : finishO 0 st d = some (renum (fun _ => none) 5 d, []) := by
  simp [finishO, rootsLive, finish, orderOf, h, nested, select, uniq]
@[go_sem] theorem finish_bool (st : Store) (b : Bool) : finishO 0 st (.bool b) = some (.bool b, []) := finish_pure st _ rfl
@[go_sem] theorem finish_int (st : Store) (k : IntKind) (b : Int) : finishO 0 st (.int k b) = some (.int k b, []) := finish_pure st _ rfl
@[go_sem] theorem finish_str (st : Store) (b : List UInt8) : finishO 0 st (.str b) = some (.str b, []) := finish_pure st _ rfl
@[go_sem] theorem finish_sl (st : Store) (b : List (List D)) : finishO 0 st (.sl b) = some (.sl b, []) := finish_pure st _ rfl
@[go_sem] theorem finish_nsl (st : Store) : finishO 0 st .nsl = some (.nsl, []) := finish_pure st _ rfl
theorem callL_W (gl : Nat → Option (List D)) (C : Nat → Option VFunc) (prim : CallF) {f : Nat} {F : VFunc} (hF : C f = some F) {as : List D} {st : Store} {r : D × Store}
    (h : W gl C prim F.body (Fin F.m F.res r) ⟨ofL (params 0 as), st, F.m⟩) : callL gl C prim f as st = some r := by
  rw [callL_code gl C prim hF]
  obtain ⟨⟨e, σ⟩, hx, hy⟩ := h
  rw [hx]
  cases e with
  | exit id => exact hy.elim
  | normal => obtain ⟨d, hd, hf⟩ := hy; simp only [Option.bind_some, hd, hf]
  | ret => obtain ⟨d, hd, hf⟩ := hy; simp only [Option.bind_some, hd, hf]
/-- A LOOP, by a measure: 'S t': the state at its head; what follows a round is told by two facts. -/
theorem W_rounds {gl : Nat → Option (List D)} {C : Nat → Option VFunc} {prim : CallF} {keep : List Nat} {b : VCode} {Q : Ex → St → Prop} {σ : St} {T : Type} (S : T → St) (Inv : T → Prop) (μ : T → Nat) (t0 : T)
    (h0 : renorm keep σ = S t0) (l0 : rootsLive σ.m σ.st = true) (i0 : Inv t0)
    (step : ∀ t, Inv t → ∀ Q1 : Ex → St → Prop, (∀ t' σ', Inv t' → μ t' < μ t → renorm keep σ' = S t' → rootsLive σ'.m σ'.st = true → Q1 .normal σ') → (∀ e σ', e ≠ .normal → Q e σ' → Q1 e σ') → W gl C prim b Q1 (S t)) :
    W gl C prim (.loop keep b) Q σ := by
  have key : ∀ n t σ, μ t < n → Inv t → renorm keep σ = S t → rootsLive σ.m σ.st = true → W gl C prim (.loop keep b) Q σ := by
    intro n
    induction n with
    | zero => intro t σ h; omega
    | succ n ih =>
      intro t σ hn hi hr hl
      rw [W_loop gl C prim keep b Q σ hl, hr]
      refine step t hi _ (fun t' σ' hi' hm hr' hl' => ih t' σ' (by omega) hi' hr' hl') fun e σ' he hq => ?_
      cases e with
      | normal => exact absurd rfl he
      | exit id => exact hq
      | ret => exact hq
  exact key (μ t0 + 1) t0 σ (by omega) i0 h0 l0
section
variable (st : Store) (n : Nat)
@[go_sem] theorem lend_int (k : IntKind) (a : Int) : lend (n + 1) st (.int k a) = .int k a := hide rfl
@[go_sem] theorem lend_bool (a : Bool) : lend (n + 1) st (.bool a) = .bool a := hide rfl
@[go_sem] theorem lend_str (a : List UInt8) : lend (n + 1) st (.str a) = .str a := hide rfl
@[go_sem] theorem lend_sl (a : List (List D)) : lend (n + 1) st (.sl a) = .sl a := hide rfl
@[go_sem] theorem lend_ipt (a : List D) : lend (n + 1) st (.ipt a) = .ipt a := hide rfl
@[go_sem] theorem lend_junk : lend (n + 1) st .junk = .junk := hide rfl
@[go_sem] theorem lend_nsl : lend (n + 1) st .nsl = .sl [] := hide rfl
@[go_sem] theorem lend_agg (cs : List D) : lend (n + 1) st (.agg cs) = .agg (cs.map (lend n st)) := hide rfl
@[go_sem] theorem lend_tup (cs : List D) : lend (n + 1) st (.tup cs) = .tup (cs.map (lend n st)) := hide rfl
@[go_sem] theorem lend_clo (f : Nat) (cs : List D) : lend (n + 1) st (.clo f cs) = .clo f (cs.map (lend n st)) := hide rfl
def lendO (o : Option Obj) (off len : Nat) : D := match o with | some (.rw _ rows) => if off + len ≤ rows.length then .sl ((rows.drop off).take len) else .junk | _ => .junk
@[go_sem] theorem lend_osl (id off len : Nat) : lend (n + 1) st (.osl id off len) = lendO (st.obj id) off len := hide rfl
@[go_sem] theorem lendO_rw (e : Nat) (rows : List (List D)) (off len : Nat) : lendO (some (.rw e rows)) off len = if off + len ≤ rows.length then .sl ((rows.drop off).take len) else .junk := hide rfl
def lendP (o : Option Obj) (n : Nat) (st : Store) (off : Nat) : D := match o with | some (.bx cs) => .ipt ((cs.drop off).map (lend n st)) | _ => .junk
@[go_sem] theorem lend_ptr (id off : Nat) : lend (n + 1) st (.ptr id off) = lendP (st.obj id) n st off := hide rfl
@[go_sem] theorem lendP_bx (cs : List D) (off : Nat) : lendP (some (.bx cs)) n st off = .ipt ((cs.drop off).map (lend n st)) := hide rfl
end
attribute [go_sem] params

/-! ### Calls -/
/-- The result by content, the store untouched. -/
def Froze (b : Bool) (st : Store) (p : Option (D × Store)) : Option (D × Store) := match p with | some (r, st2) => if b = true → bare 5 r = true ∧ st2.all bareO = true then some (lend 5 st2 r, st) else none | none => none
theorem overStore_self (g : Nat → Option Obj → Option Obj) (hg : ∀ i o, g i o = o) : ∀ (st : Store) (i : Nat), overStore g i st = st
  | [], _ => rfl
  | o :: os, i => by simp only [overStore, hg]; rw [overStore_self g hg os]
@[go_sem] theorem callWith_pure (call : CallF) (f : Nat) (as : List D) (st : Store) : callWith call f [] none as st = Froze (lendsAny [] as) st (call f (argsOf [] st [] as) []) := by
  have e0 : dropAll st [] = st := overStore_self _ (fun i o => by simp) st 0
  have e1 : ∀ s2 : Store, writeBack [] st (s2.take 0) = st := fun s2 => by
    unfold writeBack
    rw [overStore_self _ (fun i o => by simp) st 0]
    simp
  unfold callWith
  simp only [rootsOf, nested, List.flatMap_nil, List.append_nil, nodupB, List.all_nil, and_self, if_true, e0, select, List.map_nil]
  unfold Froze
  split
  · rename_i h; simp [h]
  · rename_i r st2 h
    simp only [h, List.length_nil, Nat.zero_le, true_and, List.take_zero, List.all_nil, if_true, true_or]
    split
    · rw [show writeBack [] st [] = st from e1 []]
    · rfl
@[go_sem] theorem Froze_f (st st2 : Store) (r : D) : Froze false st (some (r, st2)) = some (lend 5 st2 r, st) := by simp [Froze]
@[go_sem] theorem Froze_t (st st2 : Store) (r : D) : Froze true st (some (r, st2)) = if bare 5 r = true ∧ st2.all bareO = true then some (lend 5 st2 r, st) else none := by simp [Froze]
@[go_sem] theorem argsOf_nil (ord : List Nat) (st : Store) (d : D) (ds : List D) : argsOf ord st [] (d :: ds) = lend 5 st d :: argsOf ord st [] ds := hide rfl
@[go_sem] theorem argsOf_end (ord : List Nat) (st : Store) (bs : List Bool) : argsOf ord st bs [] = [] := by cases bs with | nil => rfl | cons b bs => cases b <;> rfl
@[go_sem] theorem argsOf_t (ord : List Nat) (st : Store) (bs : List Bool) (d : D) (ds : List D) : argsOf ord st (true :: bs) (d :: ds) = renum (fun i => ord.idxOf? i) 5 d :: argsOf ord st bs ds := hide rfl
@[go_sem] theorem argsOf_f (ord : List Nat) (st : Store) (bs : List Bool) (d : D) (ds : List D) : argsOf ord st (false :: bs) (d :: ds) = lend 5 st d :: argsOf ord st bs ds := hide rfl
@[go_sem] theorem lendsAny_nil (d : D) (ds : List D) : lendsAny [] (d :: ds) = (!(refs 5 d).isEmpty || lendsAny [] ds) := hide rfl
@[go_sem] theorem lendsAny_end (bs : List Bool) : lendsAny bs [] = false := by cases bs with | nil => rfl | cons b bs => cases b <;> rfl
@[go_sem] theorem lendsAny_t (bs : List Bool) (d : D) (ds : List D) : lendsAny (true :: bs) (d :: ds) = lendsAny bs ds := hide rfl
@[go_sem] theorem lendsAny_f (bs : List Bool) (d : D) (ds : List D) : lendsAny (false :: bs) (d :: ds) = (!(refs 5 d).isEmpty || lendsAny bs ds) := hide rfl
section
variable (n : Nat)
@[go_sem] theorem refs_int (k : IntKind) (a : Int) : refs (n + 1) (.int k a) = [] := hide rfl
@[go_sem] theorem refs_bool (a : Bool) : refs (n + 1) (.bool a) = [] := hide rfl
@[go_sem] theorem refs_str (a : List UInt8) : refs (n + 1) (.str a) = [] := hide rfl
@[go_sem] theorem refs_sl (a : List (List D)) : refs (n + 1) (.sl a) = [] := hide rfl
@[go_sem] theorem refs_nsl : refs (n + 1) .nsl = [] := hide rfl
@[go_sem] theorem refs_ipt (a : List D) : refs (n + 1) (.ipt a) = [] := hide rfl
@[go_sem] theorem refs_junk : refs (n + 1) .junk = [] := hide rfl
@[go_sem] theorem refs_osl (a b c : Nat) : refs (n + 1) (.osl a b c) = [a] := hide rfl
@[go_sem] theorem refs_ptr (a b : Nat) : refs (n + 1) (.ptr a b) = [a] := hide rfl
@[go_sem] theorem refs_agg (cs : List D) : refs (n + 1) (.agg cs) = cs.flatMap (refs n) := hide rfl
@[go_sem] theorem refs_tup (cs : List D) : refs (n + 1) (.tup cs) = cs.flatMap (refs n) := hide rfl
@[go_sem] theorem refs_clo (f : Nat) (cs : List D) : refs (n + 1) (.clo f cs) = cs.flatMap (refs n) := hide rfl
@[go_sem] theorem bare_int (k : IntKind) (a : Int) : bare (n + 1) (.int k a) = true := hide rfl
@[go_sem] theorem bare_bool (a : Bool) : bare (n + 1) (.bool a) = true := hide rfl
@[go_sem] theorem bare_str (a : List UInt8) : bare (n + 1) (.str a) = true := hide rfl
@[go_sem] theorem bare_sl (a : List (List D)) : bare (n + 1) (.sl a) = a.isEmpty := hide rfl
@[go_sem] theorem bare_nsl : bare (n + 1) .nsl = true := hide rfl
@[go_sem] theorem bare_osl (a b c : Nat) : bare (n + 1) (.osl a b c) = true := hide rfl
@[go_sem] theorem bare_ptr (a b : Nat) : bare (n + 1) (.ptr a b) = true := hide rfl
@[go_sem] theorem bare_agg (cs : List D) : bare (n + 1) (.agg cs) = cs.all (bare n) := hide rfl
@[go_sem] theorem bare_tup (cs : List D) : bare (n + 1) (.tup cs) = cs.all (bare n) := hide rfl
@[go_sem] theorem bareO_bx (cs : List D) : bareO (some (.bx cs)) = cs.all (bare 5) := hide rfl
@[go_sem] theorem bareO_none : bareO none = true := hide rfl
@[go_sem] theorem renum_int (f : Nat → Option Nat) (k : IntKind) (a : Int) : renum f (n + 1) (.int k a) = .int k a := hide rfl
@[go_sem] theorem renum_bool (f : Nat → Option Nat) (a : Bool) : renum f (n + 1) (.bool a) = .bool a := hide rfl
@[go_sem] theorem renum_str (f : Nat → Option Nat) (a : List UInt8) : renum f (n + 1) (.str a) = .str a := hide rfl
@[go_sem] theorem renum_sl (f : Nat → Option Nat) (a : List (List D)) : renum f (n + 1) (.sl a) = .sl a := hide rfl
@[go_sem] theorem renum_nsl (f : Nat → Option Nat) : renum f (n + 1) .nsl = .nsl := hide rfl
@[go_sem] theorem renum_ipt (f : Nat → Option Nat) (a : List D) : renum f (n + 1) (.ipt a) = .ipt a := hide rfl
@[go_sem] theorem renum_agg (f : Nat → Option Nat) (cs : List D) : renum f (n + 1) (.agg cs) = .agg (cs.map (renum f n)) := hide rfl
@[go_sem] theorem renum_tup (f : Nat → Option Nat) (cs : List D) : renum f (n + 1) (.tup cs) = .tup (cs.map (renum f n)) := hide rfl
def renumO (f : Option Nat) (off len : Nat) : D := match f with | some j => .osl j off len | none => .junk
def renumP (f : Option Nat) (off : Nat) : D := match f with | some j => .ptr j off | none => .junk
@[go_sem] theorem renum_osl (f : Nat → Option Nat) (a b c : Nat) : renum f (n + 1) (.osl a b c) = renumO (f a) b c := hide rfl
@[go_sem] theorem renum_ptr (f : Nat → Option Nat) (a b : Nat) : renum f (n + 1) (.ptr a b) = renumP (f a) b := hide rfl
@[go_sem] theorem renumO_some (j b c : Nat) : renumO (some j) b c = .osl j b c := hide rfl
@[go_sem] theorem renumP_some (j b : Nat) : renumP (some j) b = .ptr j b := hide rfl
end
attribute [go_sem] List.flatMap_cons List.flatMap_nil decide_true decide_false
end Go.Vi
