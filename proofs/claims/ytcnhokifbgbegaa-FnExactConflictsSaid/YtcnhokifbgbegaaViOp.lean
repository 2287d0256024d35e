/- Vi: one operation of a region (no call): the model's does what the abstract one says. -/
import Derived.Test.YtcnhokifbgbegaaViEqs
set_option linter.unusedSimpArgs false
set_option linter.unusedVariables false
namespace Go.Vi
open Go.RowKit
variable {P : Program} {loc : Locs} {I : Nat → Prop} {st : Store} {w : World}

theorem osl_rows {id off len : Nat} {L : Loc} (hL : loc id = some L) (hn : L.nil = false) {e : Nat} {rows : List (List D)} (hh : Holds P loc I w id (.rw e rows)) (hle : off + len ≤ rows.length) :
    RowsAt I w L.b (off * L.k) L.k ((rows.drop off).take len) := by
  obtain ⟨L', hL', hLk, hok, hhh⟩ := hh
  rw [hL] at hL'; injection hL' with hL'; subst hL'
  rcases hhh with ⟨h0, _⟩ | ⟨_, cur, hh, h1, h2, h3, h4⟩
  · rw [hn] at h0; cases h0
  · refine ⟨fun r hr => ?_, fun i r j d hi hj => ?_⟩
    · have := hok r (List.mem_of_mem_drop (List.mem_of_mem_take hr))
      simp [rowOk] at this
      exact this.1
    · have hil : i < len := by have := (List.getElem?_eq_some_iff.1 hi).1; simp at this; omega
      rw [List.getElem?_take, if_pos hil, List.getElem?_drop] at hi
      obtain ⟨u, hu, hrep⟩ := h4 _ r j d hi hj
      refine ⟨u, ?_, hrep⟩
      rw [cell_of_row w L.b _ cur e (0, 0) hh, ← hu]
      congr 1
      rw [Nat.add_mul]; omega

theorem obj_mem {st : Store} {i : Nat} {o : Obj} (h : st.obj i = some o) : some o ∈ st := by
  unfold Store.obj at h
  cases hq : st[i]? with
  | none => simp [hq] at h
  | some x => simp [hq] at h; subst h; exact List.mem_of_getElem? hq

/-! ### Parts of a store -/
/-- Another store over the same world: each of its objects is one of the old. -/
theorem sim_part {loc' : Locs} (hs : Sim P loc I st w) {st' : Store} {I' : Nat → Prop} (from_ : Nat → Nat) (ho : ∀ id o, st'.obj id = some o → Holds P loc' I' w id o ∧ ∃ o', st.obj (from_ id) = some o' ∧ ∀ L, loc' id = some L → loc (from_ id) = some L)
    (hinj : ∀ i j o o', st'.obj i = some o → st'.obj j = some o' → from_ i = from_ j → i = j) (hsep : ∀ id o L, st'.obj id = some o → loc (from_ id) = some L → L.nil = false → ¬ I' L.b)
    (hbnd : ∀ b, I' b → b < w.heap.size) (hnew : ∀ id, st'.length ≤ id → loc' id = none) : Sim P loc' I' st' w := by
  refine ⟨fun id o h => (ho id o h).1, fun i j o o' L L' hi hj hij hL hL' hn hn' => ?_, ?_, hbnd, hnew⟩
  · obtain ⟨_, q, hq, hl⟩ := ho i o hi
    obtain ⟨_, q', hq', hl'⟩ := ho j o' hj
    exact hs.inj _ _ q q' L L' hq hq' (fun e => hij (hinj i j o o' hi hj e)) (hl L hL) (hl' L' hL') hn hn'
  · rintro b ⟨id, o, L, h, hL, hn, rfl⟩
    exact hsep id o L h ((ho id o h).2.choose_spec.2 L hL) hn

/-- Objects let go; their blocks may be what nobody writes to. -/
theorem sim_drop (hs : Sim P loc I st w) {st' : Store} (hlen : st'.length = st.length) (hsub : ∀ id o, st'.obj id = some o → st.obj id = some o) {I' : Nat → Prop} (hI : ∀ b, I b → I' b)
    (hI' : ∀ b, I' b → I b ∨ ∃ id o L, st.obj id = some o ∧ st'.obj id = none ∧ loc id = some L ∧ L.nil = false ∧ L.b = b) : Sim P loc I' st' w := by
  refine sim_part hs id (fun i o h => ⟨(hs.obj i o (hsub i o h)).mono (fun _ _ h => h) hI (fun _ _ => rfl) fun _ _ _ => rfl, o, hsub i o h, fun L h => h⟩) (fun i j _ _ _ _ e => e) (fun i o L h hL hn hb => ?_) (fun b hb => ?_) fun i hi => hs.new i (by omega)
  · rcases hI' _ hb with h1 | ⟨j, q, M, h1, h2, h3, h4, h5⟩
    · exact hs.sep _ (own_of (hsub i o h) hL hn) h1
    · exact hs.inj j i q o M L h1 (hsub i o h) (by rintro rfl; rw [h] at h2; cases h2) h3 hL h4 hn h5
  · rcases hI' _ hb with h1 | ⟨j, q, M, h1, h2, h3, h4, rfl⟩
    · exact hs.bnd _ h1
    · exact hs.own_lt (own_of h1 h3 h4)

theorem obj_none {st : Store} {id : Nat} : Store.obj (st.set id none) id = none := by
  unfold Store.obj
  by_cases h : id < st.length
  · simp [h]
  · simp [List.getElem?_eq_none (show (st.set id none).length ≤ id by simp; omega)]
/-- A slice from here on by content. -/
theorem frz_sound (hs : Sim P loc I st w) {v : Value} {d d' : D} {st' : Store} (hv : Rep I w loc v d) (h : frzE d st = some (d', st')) : ∃ I', Rep I' w loc v d' ∧ Later P loc I st w loc I' st' w := by
  unfold frzE at h
  split at h
  · rename_i id off len
    unfold frzW at h
    split at h
    · rename_i e rows ho
      split at h
      · rename_i hle
        injection h with h; injection h with h1 h2
        subst h1; subst h2
        have hsub : ∀ i o, Store.obj (st.set id none) i = some o → st.obj i = some o := fun i o hi => by
          by_cases hj : i = id
          · subst hj; rw [obj_none] at hi; cases hi
          · rwa [obj_set_ne _ hj] at hi
        have hown : ∀ b, Own loc (st.set id none) b → Own loc st b := by
          rintro b ⟨j, q, M, hq, hM, hMn, rfl⟩
          exact own_of (hsub j q hq) hM hMn
        cases hv with
        | osl _ _ _ _ L hL hn hcap =>
          have hra := osl_rows hL hn (hs.obj id _ ho) hle
          have hlen : ((rows.drop off).take len).length = len := by simp; omega
          have hra' : RowsAt (fun b => I b ∨ b = L.b) w L.b (off * L.k) L.k ((rows.drop off).take len) :=
            ⟨hra.1, fun i r j d hi hj => let ⟨u, hu, hrep⟩ := hra.2 i r j d hi hj; ⟨u, hu, hrep.mono (fun _ h => .inl h) (fun _ _ => rfl) fun _ _ h => h⟩⟩
          have hrep := hra'.rep (loc := loc) (cap := L.cap - off) (.inr rfl) (by rw [hlen]; omega)
          rw [hlen] at hrep
          refine ⟨_, hrep, Frm.refl _ _, fun _ h => .inl h, fun b hb => ?_, fun b hb => .inl (hown b hb), ?_⟩
          · rcases hb with hb | rfl
            · exact .inl hb
            · exact .inr (.inl (own_of ho hL hn))
          · refine sim_drop hs (by simp) hsub (fun _ h => .inl h) fun b hb => ?_
            rcases hb with hb | rfl
            · exact .inl hb
            · exact .inr ⟨id, _, L, ho, obj_none, hL, hn, rfl⟩
        | onil _ _ L hL hn =>
          have e0 : (List.take 0 (List.drop 0 rows)) = [] := by simp
          rw [e0]
          exact ⟨I, .slnil _, Frm.refl _ _, fun _ h => h, fun b hb => .inl hb, fun b hb => .inl (hown b hb), sim_drop hs (by simp) hsub (fun _ h => h) fun b hb => .inl hb⟩
      · cases h
    · cases h
  · injection h with h; injection h with h1 h2
    subst h1; subst h2
    cases hv
    exact ⟨I, .slnil _, .refl hs⟩
  · cases h

def okOpt : Option Operand → Option Opd → Bool
  | none, none => true
  | some x, some y => okOpd x y
  | _, _ => false
def okCaps : List Operand → List Opd → Bool
  | [], [] => true
  | x :: xs, y :: ys => okOpd x y && okCaps xs ys
  | _, _ => false
def okAlen (P : Program) (t n : Nat) : Bool :=
  match P.underlying t with
  | some (.array n' _) => n' == n
  | some (.pointer e) => (match P.underlying e with | some (.array n' _) => n' == n | _ => false)
  | _ => false
def isStrT (P : Program) (t : Nat) : Bool := match P.underlying t with | some .string => true | _ => false
def isBoolT (P : Program) (t : Nat) : Bool := match P.underlying t with | some .bool => true | _ => false
theorem isStrT_spec {t : Nat} (h : isStrT P t = true) : P.underlying t = some .string := by unfold isStrT at h; split at h; assumption; cases h
theorem isBoolT_spec {t : Nat} (h : isBoolT P t = true) : P.underlying t = some .bool := by unfold isBoolT at h; split at h; assumption; cases h

/-- A call of a built-in: which, its operands, their types. -/
def builtinOf : Op → Option (Builtin × List Operand × List TypeId)
  | .call c => match c.callee with | .builtin b => some (b, c.args.toList, c.argTypes.toList) | _ => none
  | _ => none

/-- The operation and the abstract one say the same (calls apart). -/
def okO (P : Program) (op : Op) : VOp → Bool
  | .mv y => match op with | .move x => okOpd x y | .assign x => okOpd x y | _ => false
  | .pick c' a' b' => match op with | .pick c a b => okOpd c c' && okOpd a a' && okOpd b b' | _ => false
  | .alloc z => match op with | .alloc t => zeroOk P t z | _ => false
  | .box y => match op with | .box _ x => okOpd x y | _ => false
  | .build z qs => match op with | .build t ps => okBuild P t ps.toList z qs | _ => false
  | .bsl _ e k ys => match op with | .buildSlice t n ps => n == ps.toList.length && okGrow P t e k && okParts k 0 ps.toList ys && decide (ps.toList.length * k ≤ 16777216) | _ => false
  | .ld n y => match op with | .load t x => okTy P t n && okOpd x y | _ => false
  | .sto n x' y' => match op with | .store t x y => (P.info? t).map (·.size) == some n && okOpd x x' && okOpd y y' | _ => false
  | .nilc y => match op with | .nilCheck x => okOpd x y | _ => false
  | .bin b' x' y' => match op with | .binOp b _ x y _ => b == b' && okOpd x x' && okOpd y y' | _ => false
  | .eqb neg x' y' => match op with | .binOp b t x y _ => isBoolT P t && b == (if neg then .neq else .eql) && okOpd x x' && okOpd y y' | _ => false
  | .eqs sh neg x' y' => match op with | .binOp b t x y _ => okEqs P t sh && b == (if neg then .neq else .eql) && okOpd x x' && okOpd y y' | _ => false
  | .not y => match op with | .unOp u _ x => u == .not && okOpd x y | _ => false
  | .neg y => match op with | .unOp u _ x => u == .neg && okOpd x y | _ => false
  | .cvi k y => match op with | .convert s t x => okCvi P s t k && okOpd x y | _ => false
  | .cvbs y => match op with | .convert s t x => okCvbs P s t && okOpd x y | _ => false
  | .cvsb y => match op with | .convert s t x => okCvsb P s t && okOpd x y | _ => false
  | .mkf g cs' => match op with | .makeFunc (.func f) fi cs => f == g && fi.isEmpty && okCaps cs.toList cs' | _ => false
  | .mks e z n' c' => match op with | .makeSlice t n c => okMake P t e z && okOpd n n' && okOpd c c' | _ => false
  | .slc e k x' lo' hi' => match op with | .slice t x lo hi mx => mx.isNone && okSlc P t e k && okOpd x x' && okOpt lo lo' && okOpt hi hi' | _ => false
  | .fld off y => match op with | .fieldAddr t x f => okFld P t f off && okOpd x y | _ => false
  | .ixs e k x' i' => match op with | .indexAddr t x i => okElem P t e k && okOpd x x' && okOpd i i' | _ => false
  | .ixa n k x' i' => match op with | .indexAddr t x i => okArr P t n k && okOpd x x' && okOpd i i' | _ => false
  | .ixt x' i' => match op with | .index t x i => isStrT P t && okOpd x x' && okOpd i i' | _ => false
  | .extr y j' => match op with | .extract x j => j == j' && okOpd x y | _ => false
  | .len s y => match builtinOf op with | some (.len, [x], [t]) => okLen P s t && okOpd x y | _ => false
  | .alen n => match builtinOf op with | some (.len, [_], [t]) => okAlen P t n | _ => false
  | .app _ e z x' y' => match builtinOf op with | some (.append, [x, y], [t, t']) => t == t' && okGrow P t e z.length && okOpd x x' && okOpd y y' | _ => false
  | .mx x' y' => match builtinOf op with | some (.max, [x, y], _) => okOpd x x' && okOpd y y' | _ => false
  | .mn x' y' => match builtinOf op with | some (.min, [x, y], _) => okOpd x x' && okOpd y y' | _ => false
  | _ => false

/-- What an operation has come to: a value, or nothing. -/
inductive Gives : Next → Value → Prop
  | value (v : Value) : Gives (.value v) v
  | skip : Gives .skip Go.undef

/-- The operation's outcome is what the abstract one says. -/
def Does (P : Program) (I : Nat → Prop) (loc : Locs) (st : Store) (w : World) (r : Result Next) (d : D) (st' : Store) : Prop :=
  ∃ n v w' loc' I', r = .ok n w' ∧ Gives n v ∧ Rep I' w' loc' v d ∧ Later P loc I st w loc' I' st' w' ∧ Ext loc loc'

theorem Does.stay {s : Sem Value} {d : D} (hs : Sim P loc I st w) (h : ∃ q, s.run P w = .ok q w ∧ Rep I w loc q d) : Does P I loc st w ((do Pure.pure (.value (← s)) : Sem Next).run P w) d st := by
  obtain ⟨q, h1, h2⟩ := h
  exact ⟨_, q, w, loc, I, by rw [Sem.run_bind, h1]; rfl, .value q, h2, .refl hs, fun _ _ h => h⟩
theorem Does.go {s : Sem Value} {d : D} {st' : Store} (h : ∃ q w' loc' I', s.run P w = .ok q w' ∧ Rep I' w' loc' q d ∧ Later P loc I st w loc' I' st' w' ∧ Ext loc loc') :
    Does P I loc st w ((do Pure.pure (.value (← s)) : Sem Next).run P w) d st' := by
  obtain ⟨q, w', loc', I', h1, h2, h3, h4⟩ := h
  exact ⟨_, q, w', loc', I', by rw [Sem.run_bind, h1]; rfl, .value q, h2, h3, h4⟩
theorem Does.pure {v : Value} {d : D} (hs : Sim P loc I st w) (h : Rep I w loc v d) : Does P I loc st w ((Pure.pure (.value v) : Sem Next).run P w) d st :=
  ⟨_, v, w, loc, I, rfl, .value v, h, .refl hs, fun _ _ h => h⟩

theorem giveE_some {o : Option D} {st st' : Store} {d : D} (h : giveE o st = some (d, st')) : o = some d ∧ st' = st := by
  unfold giveE at h
  split at h
  · injection h with h; injection h with h1 h2; exact ⟨by rw [h1], h2.symm⟩
  · cases h

theorem caps_rep {gl : Nat → Option (List D)} {σ : St} {a : Act} (he : EnvRep I w loc σ.env a.tmps) (hgl : GlobRep gl I w) : ∀ {xs : List Operand} {ys : List Opd}, okCaps xs ys = true →
    (xs.map a.eval).length = (ys.map (σ.ev gl)).length ∧ ∀ (i : Nat) (c : Value) (d : D), (xs.map a.eval)[i]? = some c → (ys.map (σ.ev gl))[i]? = some d → Rep I w loc c d
  | [], [], _ => ⟨rfl, fun i c d h => by simp at h⟩
  | x :: xs, y :: ys, h => by
    simp only [okCaps, Bool.and_eq_true] at h
    obtain ⟨h1, h2⟩ := caps_rep he hgl h.2
    refine ⟨by simpa using h1, fun i c d hc hd => ?_⟩
    cases i with
    | zero =>
      simp at hc hd
      subst hc; subst hd
      exact ev_rep he hgl h.1
    | succ i => exact h2 i c d (by simpa using hc) (by simpa using hd)
  | [], _ :: _, h => by simp [okCaps] at h
  | _ :: _, [], h => by simp [okCaps] at h

theorem opt_rep {gl : Nat → Option (List D)} {σ : St} {a : Act} (he : EnvRep I w loc σ.env a.tmps) (hgl : GlobRep gl I w) {x : Option Operand} {y : Option Opd} (h : okOpt x y = true) :
    (x.map a.eval = none ∧ y.map (σ.ev gl) = none) ∨ ∃ u d, x.map a.eval = some u ∧ y.map (σ.ev gl) = some d ∧ Rep I w loc u d := by
  unfold okOpt at h
  split at h
  · exact .inl ⟨rfl, rfl⟩
  · exact .inr ⟨_, _, rfl, rfl, ev_rep he hgl h⟩
  · cases h

theorem pair_map (a : Act) (ps : Array (Nat × Operand)) : (ps.map fun (i, x) => (i, a.eval x)) = (ps.toList.map fun p => (p.1, a.eval p.2)).toArray := by
  apply Array.ext'
  simp

theorem builtin_run {op : Op} {b : Builtin} {xs : List Operand} {ts : List TypeId} (h : builtinOf op = some (b, xs, ts)) (ρ : Operand → Value) (o : Oper) (ho : o.op = op) :
    ∃ consts, (execOp ρ o).run P w = (builtin b ts.toArray o.type consts (xs.map ρ).toArray).run P w := by
  unfold builtinOf at h
  split at h
  · rename_i c
    split at h
    · rename_i b' hb
      injection h with h
      injection h with h1 h2
      injection h2 with h2 h3
      subst h1; subst h2; subst h3
      obtain ⟨callee, args, tys⟩ := c
      simp only at hb
      subst hb
      refine ⟨args.map (fun | .const _ => true | _ => false), ?_⟩
      simp only [execOp, ho, resolve]
      rw [Sem.run_bind]
      simp [Sem.run_pure, Result.andThen_ok, invoke]
      congr 2
      apply Array.ext'; simp
    · cases h
  · cases h

theorem op_sound (hs : Sim P loc I st w) {gl : Nat → Option (List D)} {call : Nat → List D → Store → Option (D × Store)} {σ : St} {a : Act} (hst : σ.st = st) (he : EnvRep I w loc σ.env a.tmps) (hgl : GlobRep gl I w) {o : Oper} {vo : VOp}
    (hok : okO P o.op vo = true) {d : D} {st' : Store} (hd : evalOp gl call σ vo = some (d, st')) : Does P I loc st w ((execOp a.eval o).run P w) d st' := by
  have ev : ∀ {x y}, okOpd x y = true → Rep I w loc (a.eval x) (σ.ev gl y) := fun h => ev_rep he hgl h
  have bb : ∀ {b xs ts}, builtinOf o.op = some (b, xs, ts) → ∃ consts, (execOp a.eval o).run P w = (builtin b ts.toArray o.type consts (xs.map a.eval).toArray).run P w := fun h => builtin_run h _ o rfl
  obtain ⟨dst, op, ty, pos, after, guard⟩ := o
  subst hst
  simp only at hok
  cases vo <;> simp only [okO] at hok
  case mv y =>
    simp only [evalOp] at hd
    injection hd with hd; injection hd with h1 h2
    subst h1; subst h2
    split at hok
    · exact Does.pure hs (ev hok)
    · exact Does.pure hs (ev hok)
    · cases hok
  case pick c' a' b' =>
    split at hok
    · rename_i c x y
      simp only [Bool.and_eq_true] at hok
      simp only [evalOp, pickE] at hd
      have hc := ev hok.1.1
      split at hd
      · rename_i p hp
        injection hd with hd; injection hd with h1 h2
        subst h1; subst h2
        rw [hp] at hc
        have hq : a.eval c = .bool p := by cases h : a.eval c <;> rw [h] at hc <;> cases hc; rfl
        refine ⟨_, _, w, loc, I, ?_, .value _, pickD_rep (ev hok.1.2) (ev hok.2) p, .refl hs, fun _ _ h => h⟩
        simp only [execOp]
        rw [hq]
        simp [asBool]
      · cases hd
    · cases hok
  case alloc z =>
    split at hok
    · simp only [evalOp] at hd
      injection hd with hd; injection hd with h1 h2
      subst h1; subst h2
      obtain ⟨v, w', loc', h1, h2, h3, h4⟩ := alloc_sound hs hok
      exact Does.go ⟨v, w', loc', I, h1, h2, h3, h4⟩
    · cases hok
  case box y =>
    split at hok
    · obtain ⟨v, w', loc', h1, h2, h3, h4⟩ := box_sound hs (ev hok) hd
      exact Does.go ⟨v, w', loc', I, h1, h2, h3, h4⟩
    · cases hok
  case build z qs =>
    split at hok
    · rename_i t ps
      obtain ⟨hd1, rfl⟩ := giveE_some hd
      have hd := hd1
      obtain ⟨out, ho, rfl⟩ := Option.map_eq_some_iff.1 hd
      have := build_sound he hgl hok ho
      rw [← pair_map] at this
      exact Does.stay hs this
    · cases hok
  case bsl own e k ys =>
    split at hok
    · rename_i t n ps
      simp only [Bool.and_eq_true, beq_iff_eq, decide_eq_true_eq] at hok
      obtain ⟨⟨⟨rfl, hg⟩, hp⟩, hsm⟩ := hok
      have := bsl_sound hs he hgl hg (own := own) hp hsm hd
      rw [← pair_map] at this
      exact Does.go this
    · cases hok
  case ld n y =>
    split at hok
    · simp only [Bool.and_eq_true] at hok
      obtain ⟨hd1, rfl⟩ := giveE_some hd
      have hd := hd1
      exact Does.stay hs (loadD_sound hs (ev hok.2) hok.1 hd)
    · cases hok
  case sto n x' y' =>
    split at hok
    · simp only [Bool.and_eq_true, beq_iff_eq] at hok
      simp only [evalOp, stoE] at hd
      split at hd
      · rename_i s hs'
        injection hd with hd; injection hd with h1 h2
        subst h1; subst h2
        obtain ⟨w', h1, h2⟩ := storeD_sound hs (ev hok.1.2) (ev hok.2) hok.1.1 hs'
        refine ⟨.skip, Go.undef, w', loc, I, ?_, .skip, .undef _, h2, fun _ _ h => h⟩
        simp only [execOp]
        rw [Sem.run_bind, h1]; rfl
      · cases hd
    · cases hok
  case nilc y =>
    split at hok
    · obtain ⟨hd1, rfl⟩ := giveE_some hd
      obtain ⟨⟨q, hq⟩, h2⟩ := nilc_sound (ev hok) hd1
      refine ⟨_, _, w, loc, I, ?_, .value _, h2, .refl hs, fun _ _ h => h⟩
      simp only [execOp]
      rw [hq]; rfl
    · cases hok
  case bin b' x' y' =>
    split at hok
    · simp only [Bool.and_eq_true, beq_iff_eq] at hok
      obtain ⟨⟨rfl, h1⟩, h2⟩ := hok
      obtain ⟨hd1, rfl⟩ := giveE_some hd
      have hd := hd1
      exact Does.stay hs (bin_sound (ev h1) (ev h2) hd)
    · cases hok
  case eqb neg x' y' =>
    split at hok
    · simp only [Bool.and_eq_true, beq_iff_eq] at hok
      obtain ⟨⟨⟨ht, rfl⟩, h1⟩, h2⟩ := hok
      obtain ⟨hd1, rfl⟩ := giveE_some hd
      have hd := hd1
      exact Does.stay hs (eqb_sound (isBoolT_spec ht) (ev h1) (ev h2) hd)
    · cases hok
  case eqs sh neg x' y' =>
    split at hok
    · simp only [Bool.and_eq_true, beq_iff_eq] at hok
      obtain ⟨⟨⟨ht, rfl⟩, h1⟩, h2⟩ := hok
      obtain ⟨hd1, rfl⟩ := giveE_some hd
      have hd := hd1
      exact Does.stay hs (eqs_sound ht (ev h1) (ev h2) hd)
    · cases hok
  case not y =>
    split at hok
    · simp only [Bool.and_eq_true, beq_iff_eq] at hok
      obtain ⟨rfl, h1⟩ := hok
      obtain ⟨hd1, rfl⟩ := giveE_some hd
      have hd := hd1
      exact Does.stay hs (not_sound (ev h1) hd)
    · cases hok
  case neg y =>
    split at hok
    · simp only [Bool.and_eq_true, beq_iff_eq] at hok
      obtain ⟨rfl, h1⟩ := hok
      obtain ⟨hd1, rfl⟩ := giveE_some hd
      have hd := hd1
      exact Does.stay hs (neg_sound (ev h1) hd)
    · cases hok
  case cvi k y =>
    split at hok
    · simp only [Bool.and_eq_true] at hok
      obtain ⟨hd1, rfl⟩ := giveE_some hd
      have hd := hd1
      exact Does.stay hs (cvi_sound hok.1 (ev hok.2) hd)
    · cases hok
  case cvbs y =>
    split at hok
    · simp only [Bool.and_eq_true] at hok
      obtain ⟨hd1, rfl⟩ := giveE_some hd
      have hd := hd1
      exact Does.stay hs (cvbs_sound hs hok.1 (ev hok.2) hd)
    · cases hok
  case cvsb y =>
    split at hok
    · simp only [Bool.and_eq_true] at hok
      obtain ⟨hd1, rfl⟩ := giveE_some hd
      have hd := hd1
      obtain ⟨q, w', I', h1, h2, h3⟩ := cvsb_sound hs hok.1 (ev hok.2) hd
      exact Does.go ⟨q, w', loc, I', h1, h2, h3, fun _ _ h => h⟩
    · cases hok
  case mkf g cs' =>
    split at hok
    · rename_i f fi cs
      simp only [Bool.and_eq_true, beq_iff_eq] at hok
      obtain ⟨⟨rfl, hfi⟩, hc⟩ := hok
      have hfi' : fi = #[] := by simpa using hfi
      subst hfi'
      simp only [evalOp] at hd
      injection hd with hd; injection hd with h1 h2
      subst h1; subst h2
      obtain ⟨hl, hr⟩ := caps_rep he hgl hc
      refine ⟨_, _, w, loc, I, rfl, .value _, ?_, .refl hs, fun _ _ h => h⟩
      have := Rep.clo (I := I) (w := w) loc f _ _ hl hr
      have e1 : (cs.toList.map a.eval).toArray = cs.map a.eval := by apply Array.ext'; simp
      rw [e1] at this
      simpa using this
    · cases hok
  case mks e z n' c' =>
    split at hok
    · simp only [Bool.and_eq_true] at hok
      obtain ⟨q, w', loc', h1, h2, h3, h4⟩ := make_sound hs hok.1.1 (ev hok.1.2) (ev hok.2) hd
      exact Does.go ⟨q, w', loc', I, h1, h2, h3, h4⟩
    · cases hok
  case slc e k x' lo' hi' =>
    split at hok
    · rename_i t x lo hi mx
      simp only [Bool.and_eq_true] at hok
      obtain ⟨⟨⟨⟨h0, h1⟩, h2⟩, h3⟩, h4⟩ := hok
      obtain ⟨hd1, rfl⟩ := giveE_some hd
      have hd := hd1
      have hm : mx = none := by simpa using h0
      subst hm
      have hlo := opt_rep he hgl h3
      have hhi := opt_rep he hgl h4
      exact Does.stay hs (sliceD_sound hs h1 (ev h2) hlo hhi hd)
    · cases hok
  case fld off y =>
    split at hok
    · simp only [Bool.and_eq_true] at hok
      obtain ⟨hd1, rfl⟩ := giveE_some hd
      have hd := hd1
      exact Does.stay hs (field_sound hok.1 (ev hok.2) hd)
    · cases hok
  case ixs e k x' i' =>
    split at hok
    · simp only [Bool.and_eq_true] at hok
      obtain ⟨hd1, rfl⟩ := giveE_some hd
      have hd := hd1
      exact Does.stay hs (index_sound hs hok.1.1 (ev hok.1.2) (ev hok.2) hd)
    · cases hok
  case ixa n k x' i' =>
    split at hok
    · simp only [Bool.and_eq_true] at hok
      obtain ⟨hd1, rfl⟩ := giveE_some hd
      have hd := hd1
      exact Does.stay hs (indexArr_sound hok.1.1 (ev hok.1.2) (ev hok.2) hd)
    · cases hok
  case ixt x' i' =>
    split at hok
    · simp only [Bool.and_eq_true] at hok
      obtain ⟨hd1, rfl⟩ := giveE_some hd
      have hd := hd1
      exact Does.stay hs (indexStr_sound (isStrT_spec hok.1.1) (ev hok.1.2) (ev hok.2) hd)
    · cases hok
  case extr y j' =>
    split at hok
    · simp only [Bool.and_eq_true, beq_iff_eq] at hok
      obtain ⟨rfl, h1⟩ := hok
      obtain ⟨hd1, rfl⟩ := giveE_some hd
      have hd := hd1
      exact Does.stay hs (extr_sound (ev h1) hd)
    · cases hok
  case len s y =>
    split at hok
    · rename_i x t hb
      simp only [Bool.and_eq_true] at hok
      obtain ⟨hd1, rfl⟩ := giveE_some hd
      have hd := hd1
      obtain ⟨consts, hr⟩ := bb hb
      rw [hr]
      exact Does.stay hs (len_sound hok.1 (ev hok.2) hd)
    · cases hok
  case alen n =>
    split at hok
    · rename_i x t hb
      simp only [evalOp] at hd
      injection hd with hd; injection hd with h1 h2
      subst h1; subst h2
      obtain ⟨consts, hr⟩ := bb hb
      rw [hr]
      refine Does.stay hs ⟨.int .i64 n, ?_, .int _ _ _⟩
      unfold okAlen at hok
      split at hok
      · rename_i n' e hu
        simp only [beq_iff_eq] at hok
        subst hok
        simp [Builtin.len_, run_underlying hu, goInt]
      · rename_i e hu
        split at hok
        · rename_i n' e' hu'
          simp only [beq_iff_eq] at hok
          subst hok
          simp [Builtin.len_, run_underlying hu, run_underlying hu', goInt]
        · cases hok
      · cases hok
    · cases hok
  case app own e z x' y' =>
    split at hok
    · rename_i x y t t' hb
      simp only [Bool.and_eq_true, beq_iff_eq] at hok
      obtain ⟨⟨⟨rfl, hg⟩, h1⟩, h2⟩ := hok
      obtain ⟨consts, hr⟩ := bb hb
      rw [hr]
      simp only [evalOp, frzO] at hd
      split at hd
      · obtain ⟨q, w', loc', h1, h2, h3, h4⟩ := app_sound hs hg (ev h1) (ev h2) hd
        exact Does.go ⟨q, w', loc', I, h1, h2, h3, h4⟩
      · split at hd
        · rename_i p hp
          obtain ⟨q, w', loc', h1, h2, h3, h4⟩ := app_sound hs hg (ev h1) (ev h2) hp
          obtain ⟨I', h5, h6⟩ := frz_sound h3.sim h2 hd
          exact Does.go ⟨q, w', loc', I', h1, h5, h3.trans h6, h4⟩
        · cases hd
    · cases hok
  case mx x' y' =>
    split at hok
    · rename_i x y ts hb
      simp only [Bool.and_eq_true] at hok
      obtain ⟨hd1, rfl⟩ := giveE_some hd
      have hd := hd1
      obtain ⟨consts, hr⟩ := bb hb
      rw [hr]
      exact Does.stay hs (max_sound (ev hok.1) (ev hok.2) hd)
    · cases hok
  case mn x' y' =>
    split at hok
    · rename_i x y ts hb
      simp only [Bool.and_eq_true] at hok
      obtain ⟨hd1, rfl⟩ := giveE_some hd
      have hd := hd1
      obtain ⟨consts, hr⟩ := bb hb
      rw [hr]
      exact Does.stay hs (min_sound (ev hok.1) (ev hok.2) hd)
    · cases hok
  all_goals cases hok
end Go.Vi
