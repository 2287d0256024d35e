/- Vi: the abstract machine's answer is the model's. -/
import Derived.Test.YtcnhokifbgbegaaViReg
set_option linter.unusedSimpArgs false
set_option linter.unusedVariables false
namespace Go.Vi
open Go.RowKit
variable {P : Program} {gl : Nat → Option (List D)} {M : Nat → Nat} {call : Nat → List D → Store → Option (D × Store)}

structure Run (P : Program) (gl : Nat → Option (List D)) (N : Nat) (loc : Locs) (I : Nat → Prop) (σ : St) (a : Act) (w : World) : Prop where
  sim : Sim P loc I σ.st w
  env : EnvRep I w loc σ.env a.tmps
  glob : GlobRep gl I w
  size : N ≤ a.tmps.size
structure Went (P : Program) (loc : Locs) (I : Nat → Prop) (σ : St) (a : Act) (w : World) (loc' : Locs) (I' : Nat → Prop) (σ' : St) (a' : Act) (w' : World) : Prop where
  later : Later P loc I σ.st w loc' I' σ'.st w'
  root : ∀ i L, i < σ.m → loc i = some L → loc' i = some L
  m : σ'.m = σ.m
  defers : a'.defers = a.defers
theorem Went.refl {loc : Locs} {I : Nat → Prop} {σ : St} {a : Act} {w : World} (h : Sim P loc I σ.st w) : Went P loc I σ a w loc I σ a w := ⟨.refl h, fun _ _ _ h => h, rfl, rfl⟩
theorem Went.trans {l0 l1 l2 : Locs} {I0 I1 I2 : Nat → Prop} {s0 s1 s2 : St} {a0 a1 a2 : Act} {w0 w1 w2 : World} (h : Went P l0 I0 s0 a0 w0 l1 I1 s1 a1 w1) (k : Went P l1 I1 s1 a1 w1 l2 I2 s2 a2 w2) : Went P l0 I0 s0 a0 w0 l2 I2 s2 a2 w2 :=
  ⟨h.later.trans k.later, fun i L hi hL => k.root i L (by rw [h.m]; exact hi) (h.root i L hi hL), k.m.trans h.m, k.defers.trans h.defers⟩

/-! ### What is asked of the code's text -/
def enterable (P : Program) (f : Nat) : Bool := match P.funcs[f]? with | some fn => fn.body.isSome && fn.name != "runtime.NumGoroutine" | none => false
def okCall (P : Program) (M : Nat → Nat) (op : Op) : VOp → Bool
  | .call f rw _ as => (match op with | .call c => (match c.callee with | .value (.func f') => f == f' && okCaps c.args.toList as && decide ((rw.filter fun b => b).length ≤ M f) | _ => false) | _ => false)
  | .callc x as => (match op with | .call c => (match c.callee with | .value fo => okOpd fo x && okCaps c.args.toList as | _ => false) | _ => false)
  | _ => false
def okG (ops : Array Oper) (g : Option (Nat × Bool)) (v : Option (Nat × Bool)) : Bool :=
  match g, v with
  | none, none => true
  | some (j, b), some (t, b') => b == b' && (ops[j]?).bind (·.dst) == some t
  | _, _ => false
def okOper (P : Program) (M : Nat → Nat) (N : Nat) (ops : Array Oper) (o : Oper) (v : VOper) : Bool :=
  o.dst == v.dst && (match o.dst with | some d => decide (d < N) | none => true) && okG ops o.guard v.g && (okO P o.op v.op || okCall P M o.op v.op)

theorem upd_env {N : Nat} {loc loc' : Locs} {I I' : Nat → Prop} {σ : St} {a : Act} {w w' : World} (hr : Run P gl N loc I σ a w) {st' : Store} (hl : Later P loc I σ.st w loc' I' st' w') (hx : Ext loc loc') {dst : Option Nat} (hd : ∀ d, dst = some d → d < N) {v : Value} {d : D}
    (hv : Rep I' w' loc' v d) : Run P gl N loc' I' { σ with env := putO σ.env dst d, st := st' } (a.put dst v) w' ∧ Went P loc I σ a w loc' I' { σ with env := putO σ.env dst d, st := st' } (a.put dst v) w' := by
  refine ⟨⟨hl.sim, fun t => ?_, hr.glob.mono hl.up (hl.same hr.sim), ?_⟩, hl, fun i L _ h => hx i L h, rfl, ?_⟩
  · cases dst with
    | none => exact hl.rep hr.sim hx (hr.env t)
    | some k =>
      have hk := hd k rfl
      have hsz := hr.size
      simp only [Act.put, putO, put]
      by_cases h : t = k
      · subst h
        rw [if_pos rfl]
        have : (a.tmps.setIfInBounds t v).getD t Go.undef = v := by
          rw [Array.getD_eq_getD_getElem?, Array.getElem?_setIfInBounds_self_of_lt (by omega)]
          rfl
        rw [this]; exact hv
      · rw [if_neg h]
        have : (a.tmps.setIfInBounds k v).getD t Go.undef = a.tmps.getD t Go.undef := by
          rw [Array.getD_eq_getD_getElem?, Array.getD_eq_getD_getElem?, Array.getElem?_setIfInBounds_ne (Ne.symm h)]
        rw [this]; exact hl.rep hr.sim hx (hr.env t)
  · cases dst with
    | none => exact hr.size
    | some k => simp only [Act.put, Array.size_setIfInBounds]; exact hr.size
  · cases dst <;> rfl

theorem call_run {w : World} {f : Nat} {args : Array Value} (h : enterable P f = true) : (callFunc f args).run P w = .ok (.enter f args) w := by
  unfold enterable at h
  split at h
  · rename_i fn hf
    simp only [Bool.and_eq_true, bne_iff_ne] at h
    have hb : fn.body ≠ none := by cases hq : fn.body <;> simp_all
    simp [callFunc, run_program, hf, h.2, hb]
  · cases h

/-- An operation that is done. -/
theorem oper_wp (hcall : CallOk P gl M call) (hent : ∀ f as st r, call f as st = some r → enterable P f = true) {N : Nat} {loc : Locs} {I : Nat → Prop} {σ : St} {a : Act} {w : World} (hr : Run P gl N loc I σ a w) {o : Oper} {v : VOper}
    (hdst : o.dst = v.dst) (hd : ∀ d, o.dst = some d → d < N) (hok : (okO P o.op v.op || okCall P M o.op v.op) = true) {d : D} {st' : Store} (he : evalOp gl call σ v.op = some (d, st')) {K : Act → World → Prop} {Q : Exit → Act → World → Prop}
    (hK : ∀ loc' I' a' w', Run P gl N loc' I' { σ with env := putO σ.env v.dst d, st := st' } a' w' → Went P loc I σ a w loc' I' { σ with env := putO σ.env v.dst d, st := st' } a' w' → K a' w') : o.wp P a w K Q := by
  have fin : ∀ loc' I' u w', Rep I' w' loc' u d → Later P loc I σ.st w loc' I' st' w' → Ext loc loc' → K (a.put o.dst u) w' := by
    intro loc' I' u w' hu hl hx
    obtain ⟨h1, h2⟩ := upd_env hr hl hx hd hu
    rw [hdst] at h1 h2
    rw [hdst]
    exact hK loc' I' _ w' h1 h2
  unfold Oper.wp
  rw [Bool.or_eq_true] at hok
  rcases hok with hok | hok
  · obtain ⟨n, u, w', loc', I', h1, h2, h3, h4, h5⟩ := op_sound hr.sim rfl hr.env hr.glob hok he
    rw [h1]
    cases h2 with
    | value => exact fin loc' I' u w' h3 h4 h5
    | skip => exact fin loc' I' _ w' h3 h4 h5
  · have go : ∀ f args rw_ fz as, (execOp a.eval o).run P w = .ok (.enter f (List.toArray args)) w → RepAll I w loc args as → (rw_.filter fun b => b).length ≤ M f → callWith call f rw_ fz as σ.st = some (d, st') → o.upon P a K Q ((execOp a.eval o).run P w) := by
      intro f args rw_ fz as h1 h2 h3 h4
      rw [h1]
      refine Calls.mono (callWith_sound hcall hr.sim hr.glob h2 h3 h4) ?_
      rintro e w' ⟨u, loc', I', rfl, h5, h6, h7⟩
      exact fin loc' I' u w' h5 h6 h7
    have cw_ent : ∀ {f rw_ fz as}, callWith call f rw_ fz as σ.st = some (d, st') → enterable P f = true := by
      intro f rw_ fz as h
      unfold callWith at h
      split at h
      · cases h
      · simp only at h
        split at h
        · split at h
          · cases h
          · rename_i hq; exact hent _ _ _ _ hq
        · cases h
    obtain ⟨vdst, vop, vg⟩ := v
    obtain ⟨dst, op, ty, pos, after, guard⟩ := o
    simp only at hok he
    cases vop <;> simp only [okCall] at hok
    case call f rw_ fz as =>
      split at hok
      · rename_i c
        split at hok
        · rename_i f' hcal
          simp only [Bool.and_eq_true, beq_iff_eq, decide_eq_true_eq] at hok
          obtain ⟨⟨rfl, hcaps⟩, hM⟩ := hok
          refine go f (c.args.toList.map a.eval) rw_ fz _ ?_ (caps_rep hr.env hr.glob hcaps) hM he
          simp only [execOp, resolve, hcal]
          simp [Act.eval, Deferred.ofValue, invoke, call_run (cw_ent he)]
          rw [show (Array.map a.eval c.args) = (List.map a.eval c.args.toList).toArray by apply Array.ext'; simp]
        · cases hok
      · cases hok
    case callc x as =>
      split at hok
      · rename_i c
        split at hok
        · rename_i fo hcal
          simp only [Bool.and_eq_true] at hok
          have hx := ev_rep hr.env hr.glob hok.1
          simp only [evalOp, callE] at he
          split at he
          · rename_i f caps hclo
            rw [hclo] at hx
            generalize hval : a.eval fo = vf at hx
            cases hx with
            | clo _ _ cs ds hl h =>
              obtain ⟨h1, h2⟩ := caps_rep hr.env hr.glob hok.2
              refine go f (c.args.toList.map a.eval ++ cs) [] none _ ?_ ⟨by rw [List.length_append, List.length_append, h1, hl], fun i u d hu hd => ?_⟩ (Nat.zero_le _) he
              · simp only [execOp, resolve, hcal]
                simp [hval, Deferred.ofValue, invoke, call_run (cw_ent he)]
              · have hlen : (c.args.toList.map a.eval).length = (as.map (σ.ev gl)).length := h1
                by_cases hi : i < (c.args.toList.map a.eval).length
                · rw [List.getElem?_append_left hi] at hu
                  rw [List.getElem?_append_left (by rw [← hlen]; exact hi)] at hd
                  exact h2 i u d hu hd
                · rw [List.getElem?_append_right (by omega)] at hu
                  rw [List.getElem?_append_right (by omega), ← hlen] at hd
                  exact h _ u d hu hd
          · cases he
        · cases hok
      · cases hok
    all_goals cases hok

theorem wanted_of {N : Nat} {loc : Locs} {I : Nat → Prop} {σ : St} {a : Act} {w : World} (hr : Run P gl N loc I σ a w) {ops : Array Oper} {o : Oper} {j t : Nat} {want : Bool} (hg : o.guard = some (j, want)) (ht : (ops[j]?).bind (·.dst) = some t) :
    (∀ b, σ.env t = .bool b → Region.wanted o (yielded ops a.tmps) = (b == want)) ∧ (σ.env t = .undef → Region.wanted o (yielded ops a.tmps) = false) := by
  have he := hr.env t
  constructor
  · intro b hb
    rw [hb] at he
    have hv : a.tmps[t]? = some (.bool b) := by
      rw [Array.getD_eq_getD_getElem?] at he
      cases hq : a.tmps[t]? with
      | none => rw [hq] at he; cases he
      | some x => rw [hq] at he; cases he; rfl
    simp [Region.wanted, hg, yielded, ht, hv]
  · intro hb
    rw [hb] at he
    have hv : a.tmps[t]? = none ∨ a.tmps[t]? = some Go.undef := by
      rw [Array.getD_eq_getD_getElem?] at he
      cases hq : a.tmps[t]? with
      | none => exact .inl rfl
      | some x =>
        rw [hq] at he
        right
        generalize hz : (some x).getD Go.undef = z at he
        simp at hz
        subst hz
        cases he
        rfl
    rcases hv with hv | hv <;> simp [Region.wanted, hg, yielded, ht, hv, Go.undef]

theorem step_wp (hcall : CallOk P gl M call) (hent : ∀ f as st r, call f as st = some r → enterable P f = true) {N : Nat} {loc : Locs} {I : Nat → Prop} {σ σ' : St} {a : Act} {w : World} (hr : Run P gl N loc I σ a w) {ops : Array Oper} {i : Nat} {o : Oper} {v : VOper}
    (hi : ops[i]? = some o) (hok : okOper P M N ops o v = true) (hs : stepOp gl call v σ = some σ') {K : Act → World → Prop} {Q : Exit → Act → World → Prop}
    (hK : ∀ loc' I' a' w', Run P gl N loc' I' σ' a' w' → Went P loc I σ a w loc' I' σ' a' w' → K a' w') : wpOp P ops Q i K a w := by
  simp only [okOper, Bool.and_eq_true, beq_iff_eq] at hok
  obtain ⟨⟨⟨hdst, hN⟩, hG⟩, hop⟩ := hok
  have hd : ∀ d, o.dst = some d → d < N := fun d h => by rw [h] at hN; simpa using hN
  rw [stepOp_eq] at hs
  obtain ⟨⟨d, st'⟩, ho, rfl⟩ := Option.map_eq_some_iff.1 hs
  unfold wpOp
  simp only [hi]
  have skip : d = .undef → st' = σ.st → K (a.put o.dst Go.undef) w := by
    rintro rfl rfl
    obtain ⟨h1, h2⟩ := upd_env hr (Later.refl hr.sim) (fun _ _ h => h) hd (v := Go.undef) (d := .undef) (.undef _)
    rw [hdst] at h1 h2
    rw [hdst]
    exact hK loc I _ w h1 h2
  unfold outcome at ho
  unfold okG at hG
  split at hG
  · rename_i hg1 hg2
    rw [hg2] at ho
    simp only at ho
    have hw : Region.wanted o (yielded ops a.tmps) = true := by simp [Region.wanted, hg1]
    rw [if_pos hw]
    exact .inl (oper_wp hcall hent hr hdst hd hop ho hK)
  · rename_i j b t b' hg1 hg2
    simp only [Bool.and_eq_true, beq_iff_eq] at hG
    obtain ⟨rfl, ht⟩ := hG
    rw [hg2] at ho
    simp only at ho
    obtain ⟨hw1, hw2⟩ := wanted_of hr hg1 ht
    split at ho
    · rename_i b2 hb2
      split at ho
      · rename_i hbb
        subst hbb
        rw [if_pos (by rw [hw1 _ hb2]; simp)]
        exact .inl (oper_wp hcall hent hr hdst hd hop ho hK)
      · rename_i hbb
        rw [if_neg (by rw [hw1 _ hb2]; simpa using hbb)]
        injection ho with ho
        injection ho with h1 h2
        exact skip h1.symm h2.symm
    · rename_i hb2
      rw [if_neg (by rw [hw2 hb2]; simp)]
      injection ho with ho
      injection ho with h1 h2
      exact skip h1.symm h2.symm
    · cases ho
  · cases hG

/-! ### Regions -/
def okOps (P : Program) (M : Nat → Nat) (N : Nat) (ops : Array Oper) (vs : List VOper) : Bool :=
  ops.size == vs.length && (List.range ops.size).all fun i => match ops[i]?, vs[i]? with | some o, some v => okOper P M N ops o v | _, _ => false
theorem okOps_spec {N : Nat} {ops : Array Oper} {vs : List VOper} (h : okOps P M N ops vs = true) : ops.size = vs.length ∧ ∀ i, i < ops.size → ∃ o v, ops[i]? = some o ∧ vs[i]? = some v ∧ okOper P M N ops o v = true := by
  simp only [okOps, Bool.and_eq_true, beq_iff_eq, List.all_eq_true, List.mem_range] at h
  refine ⟨h.1, fun i hi => ?_⟩
  have := h.2 i hi
  split at this
  · rename_i o v ho hv; exact ⟨o, v, ho, hv, this⟩
  · cases this

def vAt (vs : List VOper) (i : Nat) : VOper := vs.getD i default
theorem vAt_range : ∀ (vs : List VOper), (List.range vs.length).map (vAt vs) = vs := by
  intro vs
  apply List.ext_getElem?
  intro i
  rw [List.getElem?_map]
  by_cases h : i < vs.length
  · simp [h, vAt, List.getD]
  · simp [List.getElem?_eq_none (show vs.length ≤ i by omega), h]

theorem ops_wp (hcall : CallOk P gl M call) (hent : ∀ f as st r, call f as st = some r → enterable P f = true) {N : Nat} {ops : Array Oper} {vs : List VOper} (hok : okOps P M N ops vs = true) {Q : Exit → Act → World → Prop} {σ' : St} :
    ∀ (l : List Nat) {loc : Locs} {I : Nat → Prop} {σ : St} {a : Act} {w : World}, (∀ i ∈ l, i < ops.size) → Run P gl N loc I σ a w → runOps gl call (l.map (vAt vs)) σ = some σ' →
      (∀ loc' I' a' w', Run P gl N loc' I' σ' a' w' → Went P loc I σ a w loc' I' σ' a' w' → Q .normal a' w') → wpOps P ops Q l a w
  | [], loc, I, σ, a, w, _, hr, h, hQ => by
    simp only [List.map_nil, runOps] at h
    injection h with h
    subst h
    exact hQ loc I a w hr (.refl hr.sim)
  | i :: l, loc, I, σ, a, w, hl, hr, h, hQ => by
    simp only [List.map_cons, runOps] at h
    obtain ⟨σ1, h1, h2⟩ := Option.bind_eq_some_iff.1 h
    obtain ⟨o, v, ho, hv, hov⟩ := (okOps_spec hok).2 i (hl i (by simp))
    have hv' : vAt vs i = v := by simp [vAt, List.getD, hv]
    rw [hv'] at h1
    rw [wpOps_cons]
    exact step_wp hcall hent hr ho hov h1 fun l1 I1 a1 w1 r1 g1 => ops_wp hcall hent hok l (fun j hj => hl j (by simp [hj])) r1 h2 fun l2 I2 a2 w2 r2 g2 => hQ l2 I2 a2 w2 r2 (g1.trans g2)

/-! #### In any order -/
def edgesOf (ops : Array Oper) (i : Nat) : List Nat := match ops[i]? with | some o => (o.after.toList.filter (Region.binds .any)).map (·.on) | none => []
/-- From each operation those that it waits for, by any way. -/
def waits (es : Nat → List Nat) : Nat → List (List Nat)
  | 0 => []
  | n + 1 => waits es n ++ [uniq ((es n).flatMap fun k => k :: (waits es n).getD k [])]
/-- What lays 't' is waited for. -/
def laidBy (vs : List VOper) (t : Nat) (ws : List Nat) : Bool := (List.range vs.length).all fun k => (vAt vs k).dst != some t || ws.contains k
/-- A load and a store, by pointers that are told to go into different objects. -/
def dynPair (qs : List (Nat × Nat)) (vs : List VOper) (wj wi : List Nat) (j i : Nat) : Bool :=
  match ptr2 (vAt vs j).op (vAt vs i).op with
  | some (p, q) => (vAt vs j).g.isNone && (vAt vs i).g.isNone && apartV (vAt vs j) (vAt vs i) && (qs.contains (p, q) || qs.contains (q, p)) && laidBy vs p wj && laidBy vs q wi
  | none => false
def okDraw (qs : List (Nat × Nat)) (ops : Array Oper) (vs : List VOper) : Bool :=
  let t := waits (edgesOf ops) ops.size
  (List.range ops.size).all fun i => (edgesOf ops i).all (fun k => decide (k < i)) && (List.range i).all fun j => (t.getD i []).contains j || commV (vAt vs j) (vAt vs i) || dynPair qs vs (t.getD j []) (t.getD i []) j i

theorem waits_len (es : Nat → List Nat) : ∀ n, (waits es n).length = n
  | 0 => rfl
  | n + 1 => by simp [waits, waits_len es n]
theorem waits_mono (es : Nat → List Nat) (n k j : Nat) (h : j ∈ (waits es n).getD k []) : j ∈ (waits es (n + 1)).getD k [] := by
  have hk : k < n := by
    apply Classical.byContradiction
    intro hn
    rw [List.getD, List.getElem?_eq_none (by rw [waits_len]; omega)] at h
    simp at h
  simp only [waits]
  rw [List.getD, List.getElem?_append_left (by rw [waits_len]; exact hk)]
  exact h
theorem waits_spec (es : Nat → List Nat) : ∀ n i j, j ∈ (waits es n).getD i [] → ∃ k ∈ es i, j = k ∨ j ∈ (waits es n).getD k []
  | 0, i, j, h => by simp [waits] at h
  | n + 1, i, j, h => by
    by_cases hi : i < n
    · have h' : j ∈ (waits es n).getD i [] := by
        simp only [waits] at h
        rw [List.getD, List.getElem?_append_left (by rw [waits_len]; exact hi)] at h
        exact h
      obtain ⟨k, hk, hj⟩ := waits_spec es n i j h'
      exact ⟨k, hk, hj.imp id (waits_mono es n k j)⟩
    · by_cases hin : i = n
      · subst hin
        have h' : j ∈ uniq ((es i).flatMap fun k => k :: (waits es i).getD k []) := by
          simp only [waits] at h
          rw [List.getD, List.getElem?_append_right (by rw [waits_len]; exact Nat.le_refl _), waits_len] at h
          simpa using h
        rw [uniq_mem, List.mem_flatMap] at h'
        obtain ⟨k, hk, hj⟩ := h'
        refine ⟨k, hk, ?_⟩
        rcases List.mem_cons.1 hj with h1 | h1
        · exact .inl h1
        · exact .inr (waits_mono es i k j h1)
      · rw [List.getD, List.getElem?_eq_none (by rw [waits_len]; omega)] at h
        simp at h

section
variable {ops : Array Oper}
/-- What is listed waits for nothing that is not. -/
def Closed (ops : Array Oper) (listed : Array Bool) : Prop := ∀ k, listed.getD k false = true → ∀ e ∈ edgesOf ops k, listed.getD e false = true
theorem edges_of_ready {i : Nat} {o : Oper} {listed : Array Bool} (ho : ops[i]? = some o) (h : ∀ e ∈ o.after, Region.binds .any e = true → listed.getD e.on false = true) : ∀ e ∈ edgesOf ops i, listed.getD e false = true := by
  intro e he
  unfold edgesOf at he
  rw [ho] at he
  simp only [List.mem_map, List.mem_filter] at he
  obtain ⟨x, ⟨h1, h2⟩, rfl⟩ := he
  exact h x (by simpa using h1) h2
theorem waits_listed {listed : Array Bool} (hc : Closed ops listed) (hlt : ∀ i, i < ops.size → ∀ k ∈ edgesOf ops i, k < i) (n : Nat) : ∀ i, i < ops.size → (∀ e ∈ edgesOf ops i, listed.getD e false = true) → ∀ j ∈ (waits (edgesOf ops) n).getD i [], listed.getD j false = true := by
  intro i
  induction i using Nat.strongRecOn with
  | _ i ih =>
    intro hi he j hj
    obtain ⟨k, hk, h⟩ := waits_spec _ n i j hj
    rcases h with rfl | h
    · exact he _ hk
    · have hki := hlt i hi k hk
      exact ih k hki (by omega) (fun e he' => hc k (he k hk) e he') j h
end

theorem waits_lt {ops : Array Oper} (hlt : ∀ i, i < ops.size → ∀ k ∈ edgesOf ops i, k < i) (n : Nat) : ∀ i, i < ops.size → ∀ j ∈ (waits (edgesOf ops) n).getD i [], j < i := by
  intro i
  induction i using Nat.strongRecOn with
  | _ i ih =>
    intro hi j hj
    obtain ⟨k, hk, h⟩ := waits_spec _ n i j hj
    have hki := hlt i hi k hk
    rcases h with rfl | h
    · exact hki
    · have := ih k hki (by omega) j h; omega
theorem any_wp (hcall : CallOk P gl M call) (hent : ∀ f as st r, call f as st = some r → enterable P f = true) {N : Nat} {ops : Array Oper} {vs : List VOper} (hok : okOps P M N ops vs = true) {qs : List (Nat × Nat)} (hdraw : okDraw qs ops vs = true) {Q : Exit → Act → World → Prop} {σ' : St} :
    ∀ (fuel : Nat) (listed : Array Bool) (rem : List Nat) {loc : Locs} {I : Nat → Prop} {σ : St} {a : Act} {w : World}, rem.length ≤ fuel → listed.size = ops.size → (∀ j, j ∈ rem ↔ j < ops.size ∧ listed.getD j true = false) → rem.Pairwise (· < ·) → Closed ops listed → dynOk qs σ'.env = true →
      Run P gl N loc I σ a w → runOps gl call (rem.map (vAt vs)) σ = some σ' →
      (∀ loc' I' a' w', Run P gl N loc' I' σ' a' w' → Went P loc I σ a w loc' I' σ' a' w' → Q .normal a' w') → wpAny P .any ops Q fuel listed a w := by
  have hd : ∀ i, i < ops.size → (∀ k ∈ edgesOf ops i, k < i) ∧ ∀ j, j < i → (j ∈ (waits (edgesOf ops) ops.size).getD i [] ∨ commV (vAt vs j) (vAt vs i) = true) ∨ dynPair qs vs ((waits (edgesOf ops) ops.size).getD j []) ((waits (edgesOf ops) ops.size).getD i []) j i = true := by
    intro i hi
    have := List.all_eq_true.1 hdraw i (List.mem_range.2 hi)
    simp only [Bool.and_eq_true, List.all_eq_true, decide_eq_true_eq, List.mem_range, Bool.or_eq_true] at this
    exact ⟨this.1, fun j hj => (this.2 j hj).imp (fun h => h.imp (fun h => by simpa using h) id) id⟩
  have listed_iff : ∀ (listed : Array Bool) (j : Nat), listed.size = ops.size → j < ops.size → (listed.getD j true = false ↔ listed.getD j false = false) := by
    intro listed j hs hj
    have hj' : j < listed.size := by omega
    simp [hj']
  intro fuel
  induction fuel with
  | zero =>
    intro listed rem loc I σ a w hlen hsz hrem hpw hcl hdyn hr h hQ
    have hnil : rem = [] := List.eq_nil_of_length_eq_zero (by omega)
    subst hnil
    simp only [List.map_nil, runOps] at h
    injection h with h
    subst h
    refine ⟨?_, hQ loc I a w hr (.refl hr.sim)⟩
    apply List.eq_nil_iff_forall_not_mem.2
    intro j hj
    obtain ⟨h1, o, ho, _⟩ := mem_ready.1 hj
    have := (hrem j).2 ⟨(Array.getElem?_eq_some_iff.1 ho).1, h1⟩
    simp at this
  | succ fuel ih =>
    intro listed rem loc I σ a w hlen hsz hrem hpw hcl hdyn hr h hQ
    refine ⟨fun hready => ?_, fun i hi => ?_⟩
    · cases rem with
      | nil =>
        simp only [List.map_nil, runOps] at h
        injection h with h
        subst h
        exact hQ loc I a w hr (.refl hr.sim)
      | cons i rest =>
        exfalso
        obtain ⟨hi, hun⟩ := (hrem i).1 (by simp)
        have : i ∈ Region.ready .any ops listed := by
          refine mem_ready.2 ⟨hun, ops[i], Array.getElem?_eq_getElem hi, fun e he hb => ?_⟩
          have hmem : e.on ∈ edgesOf ops i := by
            unfold edgesOf
            rw [Array.getElem?_eq_getElem hi]
            simp only [List.mem_map, List.mem_filter]
            exact ⟨e, ⟨by simpa using he, hb⟩, rfl⟩
          have hlt := (hd i hi).1 _ hmem
          cases hq : listed.getD e.on false with
          | true => rfl
          | false =>
            have := (hrem e.on).2 ⟨by omega, (listed_iff listed e.on hsz (by omega)).2 hq⟩
            rcases List.mem_cons.1 this with h1 | h1
            · omega
            · have := (List.pairwise_cons.1 hpw).1 _ h1; omega
        rw [hready] at this
        simp at this
    · obtain ⟨hun, o, ho, hall⟩ := mem_ready.1 hi
      have hisz : i < ops.size := (Array.getElem?_eq_some_iff.1 ho).1
      have hmem : i ∈ rem := (hrem i).2 ⟨hisz, hun⟩
      obtain ⟨pre, post, rfl⟩ := List.append_of_mem hmem
      obtain ⟨hp1, hp2, hp3⟩ := List.pairwise_append.1 hpw
      have hedge := edges_of_ready ho hall
      have hidx : ∀ k, k < vs.length → ∀ l, k ∉ l → ∀ t, laidBy vs t l = true → (vAt vs k).dst ≠ some t := by
        intro k hk l hkl t ht he
        have := List.all_eq_true.1 ht k (List.mem_range.2 hk)
        rw [he] at this
        simp at this
        exact hkl this
      have hszv : ops.size = vs.length := (okOps_spec hok).1
      have hremlt : ∀ k, k ∈ pre ++ i :: post → k < vs.length := fun k hk => by rw [← hszv]; exact ((hrem k).1 hk).1
      have hwl : ∀ k ∈ (waits (edgesOf ops) ops.size).getD i [], k ∉ pre ++ i :: post := by
        intro k hk hmem
        have h2 := waits_listed hcl (fun i hi => (hd i hi).1) ops.size i hisz hedge k hk
        obtain ⟨h3, h4⟩ := (hrem k).1 hmem
        rw [listed_iff listed k hsz h3] at h4
        rw [h4] at h2
        cases h2
      have hcomm : ∀ l1 x l2 σ1, pre.map (vAt vs) = l1 ++ x :: l2 → runOps gl call l1 σ = some σ1 → CommAt σ1 x (vAt vs i) := by
        intro l1 x l2 σ1 he hσ1
        obtain ⟨p1, r1, hpre, rfl, he2⟩ := List.map_eq_append_iff.1 he
        obtain ⟨j, p2, rfl, rfl, rfl⟩ := List.map_eq_cons_iff.1 he2
        subst hpre
        have hji := hp3 j (by simp) i (by simp)
        rcases (hd i hisz).2 j hji with (h1 | h1) | h1
        · exact absurd (List.mem_append_left _ (List.mem_append_right _ (List.mem_cons_self))) (hwl j h1)
        · exact .inl h1
        · right
          unfold dynPair at h1
          split at h1
          · rename_i p q hpq
            simp only [Bool.and_eq_true, Option.isNone_iff_eq_none, Bool.or_eq_true] at h1
            obtain ⟨⟨⟨⟨⟨g1, g2⟩, hap⟩, hq⟩, hlp⟩, hlq⟩ := h1
            refine ⟨g1, g2, hap, p, q, hpq, ?_⟩
            -- what comes behind lays neither pointer
            have hrest : runOps gl call ((j :: (p2 ++ i :: post)).map (vAt vs)) σ1 = some σ' := by
              rw [show (p1 ++ j :: p2) ++ i :: post = p1 ++ (j :: (p2 ++ i :: post)) by simp, List.map_append, runOps_append, hσ1] at h
              exact h
            have hjlt : j < vs.length := hremlt j (by simp)
            have kp : ∀ o ∈ (j :: (p2 ++ i :: post)).map (vAt vs), o.dst ≠ some p := by
              intro o ho
              obtain ⟨k, hk, rfl⟩ := List.mem_map.1 ho
              refine hidx k (hremlt k (by simp at hk ⊢; rcases hk with rfl | hk | rfl | hk <;> simp [*])) _ (fun hkw => ?_) p hlp
              have hkj : k < j := waits_lt (fun i hi => (hd i hi).1) ops.size j (by omega) k hkw
              rcases List.mem_cons.1 hk with rfl | hk
              · omega
              · have : j < k := by
                  rcases List.mem_append.1 hk with hk | hk
                  · exact (List.pairwise_cons.1 (List.pairwise_append.1 hp1).2.1).1 k hk
                  · exact hp3 j (by simp) k hk
                omega
            have kq : ∀ o ∈ (j :: (p2 ++ i :: post)).map (vAt vs), o.dst ≠ some q := by
              intro o ho
              obtain ⟨k, hk, rfl⟩ := List.mem_map.1 ho
              have hkm : k ∈ (p1 ++ j :: p2) ++ i :: post := by simp at hk ⊢; rcases hk with rfl | hk | rfl | hk <;> simp [*]
              exact hidx k (hremlt k hkm) _ (fun hkw => hwl k hkw hkm) q hlq
            rw [← runOps_keeps _ kp hrest, ← runOps_keeps _ kq hrest]
            have hall := List.all_eq_true.1 hdyn
            rcases hq with hq | hq
            · exact .inl (hall _ (by simpa using hq))
            · exact .inr (hall _ (by simpa using hq))
          · cases h1
      rw [List.map_append, List.map_cons] at h
      have h' := to_front hcomm h
      simp only [runOps] at h'
      obtain ⟨σ1, h1, h2⟩ := Option.bind_eq_some_iff.1 h'
      obtain ⟨o', v, ho', hv, hov⟩ := (okOps_spec hok).2 i hisz
      rw [ho] at ho'
      injection ho' with ho'
      subst ho'
      have hv' : vAt vs i = v := by simp [vAt, List.getD, hv]
      rw [hv'] at h1
      have hnd : ∀ j, j ∈ pre ++ post → j ≠ i := by
        intro j hj
        rcases List.mem_append.1 hj with h | h
        · have := hp3 j h i (by simp); omega
        · have := (List.pairwise_cons.1 hp2).1 j h; omega
      refine step_wp hcall hent hr ho hov h1 fun l1 I1 a1 w1 r1 g1 => ih (listed.setIfInBounds i true) (pre ++ post) ?_ (by simpa using hsz) (fun j => ?_) ?_ (fun k hk e he => ?_) hdyn r1 (by rw [List.map_append]; exact h2) fun l2 I2 a2 w2 r2 g2 => hQ l2 I2 a2 w2 r2 (g1.trans g2)
      · simp at hlen ⊢; omega
      · by_cases hji : j = i
        · subst hji
          constructor
          · intro hj; exact absurd rfl (hnd j hj)
          · rintro ⟨_, hj⟩
            have hjl : j < listed.size := by omega
            simp [hjl] at hj
        · rw [getD_set_ne true (Ne.symm hji), ← hrem j]
          simp only [List.mem_append, List.mem_cons]
          constructor
          · rintro (h | h); exact .inl h; exact .inr (.inr h)
          · rintro (h | h | h); exact .inl h; exact absurd h hji; exact .inr h
      · refine List.pairwise_append.2 ⟨hp1, (List.pairwise_cons.1 hp2).2, fun x hx y hy => hp3 x hx y (by simp [hy])⟩
      · by_cases hki : k = i
        · subst hki
          exact getD_set_true (hedge e he)
        · rw [getD_set_ne false (Ne.symm hki)] at hk
          exact getD_set_true (hcl k hk e he)
end Go.Vi
