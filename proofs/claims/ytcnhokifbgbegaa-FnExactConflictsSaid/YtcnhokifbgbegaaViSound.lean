/- Vi: code and calls: the abstract machine's answer is the model's. -/
import Derived.Test.YtcnhokifbgbegaaViExec
import Derived.Test.YtcnhokifbgbegaaViLim
set_option linter.unusedSimpArgs false
set_option linter.unusedVariables false
namespace Go.Vi
open Go.RowKit
variable {P : Program} {gl : Nat → Option (List D)} {M : Nat → Nat} {C : Nat → Option VFunc} {prim : CallF}

/-! ### Renumbering -/
theorem orderOf_nodup (m : Nat) (st : Store) (vs : List D) : (orderOf m st vs).Nodup := uniq_nodup _
theorem orderOf_root {m : Nat} {st : Store} (h : rootsLive m st = true) (vs : List D) {i : Nat} (hi : i < m) : (orderOf m st vs)[i]? = some i := by
  have hall : (List.range m).filter (alive st) = List.range m := List.filter_eq_self.2 fun x hx => List.all_eq_true.1 h x hx
  have : ∃ rest, orderOf m st vs = uniq (List.range m ++ rest) := by
    refine ⟨((nested st (List.range m)) ++ (vs.flatMap (refs 5) ++ nested st (vs.flatMap (refs 5)))).filter (alive st), ?_⟩
    unfold orderOf
    simp only [List.filter_append, hall, List.append_assoc]
  obtain ⟨rest, hr⟩ := this
  obtain ⟨c, hc⟩ := uniq_prefix (List.range m) rest List.nodup_range
  rw [hr, hc, List.getElem?_append_left (by simpa using hi)]
  simp [hi]

def cut (ord : List Nat) (loc : Locs) : Locs := fun j => (ord[j]?).bind loc
theorem sim_cut {loc : Locs} {I : Nat → Prop} {st : Store} {w : World} (hs : Sim P loc I st w) {ord : List Nat} (hn : ord.Nodup) : Sim P (cut ord loc) I (select ord st) w :=
  sim_select hs hn (fun _ h => h) (fun id _ o L ho hL hnil => hs.sep _ (own_of ho hL hnil)) hs.bnd
theorem later_cut {loc : Locs} {I : Nat → Prop} {st : Store} {w : World} (hs : Sim P loc I st w) {ord : List Nat} (hn : ord.Nodup) : Later P loc I st w (cut ord loc) I (select ord st) w := by
  refine ⟨Frm.refl _ _, fun _ h => h, fun _ h => .inl h, ?_, sim_cut hs hn⟩
  rintro b ⟨j, o, L, h, hL, hnil, rfl⟩
  obtain ⟨i, q, h1, h2, _⟩ := select_obj h
  simp only [cut, h1, Option.bind_some] at hL
  exact .inl (own_of h2 hL hnil)
theorem cut_rep {loc : Locs} {I : Nat → Prop} {w : World} (ord : List Nat) {n : Nat} {v : Value} {d : D} (h : Rep I w loc v d) : Rep I w (cut ord loc) v (renum (fun i => ord.idxOf? i) n d) :=
  renum_rep (fun i j L hij hL => by simp only [cut, idx_get hij, Option.bind_some]; exact hL) n h

theorem lookup_zip {g : Nat → D} : ∀ (l : List Nat) {t : Nat} {d : D}, (l.zip (l.map g)).lookup t = some d → d = g t
  | [], t, d, h => by simp at h
  | x :: xs, t, d, h => by
    simp only [List.map_cons, List.zip_cons_cons, List.lookup_cons] at h
    split at h
    · rename_i hx
      injection h with h
      have : t = x := by simpa using hx
      rw [← h, this]
    · exact lookup_zip xs h

theorem renorm_run {N : Nat} {loc : Locs} {I : Nat → Prop} {σ : St} {a : Act} {w : World} (hr : Run P gl N loc I σ a w) (hl : rootsLive σ.m σ.st = true) (keep : List Nat) :
    ∃ loc', Run P gl N loc' I (renorm keep σ) a w ∧ Went P loc I σ a w loc' I (renorm keep σ) a w := by
  refine ⟨cut (orderOf σ.m σ.st (keep.map σ.env)) loc, ⟨sim_cut hr.sim (orderOf_nodup _ _ _), fun t => ?_, hr.glob, hr.size⟩, later_cut hr.sim (orderOf_nodup _ _ _), fun i L hi hL => ?_, rfl, rfl⟩
  · simp only [renorm, ofL, List.map_map]
    split
    · rename_i d hd
      have := lookup_zip _ hd
      subst this
      exact cut_rep _ (hr.env t)
    · exact .junk _ _
  · simp only [cut, orderOf_root hl _ hi, Option.bind_some]
    exact hL

/-! ### Code -/
def okCode (P : Program) (M : Nat → Nat) (N : Nat) : Code → VCode → Bool
  | .skip, .skip => true
  | .region _ ops draw, .reg vs => okOps P M N ops vs && (!draw || (P.follows .mixedOrders && okDraw [] ops vs))
  | .region _ ops draw, .rgd qs vs => okOps P M N ops vs && draw && P.follows .mixedOrders && okDraw qs ops vs
  | .seq a b, .seq a' b' => okCode P M N a a' && okCode P M N b b'
  | .cond c a b, .cond c' a' b' => okOpd c c' && okCode P M N a a' && okCode P M N b b'
  | .block id b, .blk id' b' => id == id' && okCode P M N b b'
  | .loop b, .loop _ b' => okCode P M N b b'
  | .exit id, .exit id' => id == id'
  | .ret, .ret => true
  | _, _ => false

def toExit : Ex → Exit
  | .normal => .normal
  | .exit id => .exit id
  | .ret => .ret

/-- Where code ends. -/
def Ends (P : Program) (gl : Nat → Option (List D)) (N : Nat) (loc : Locs) (I : Nat → Prop) (σ : St) (a : Act) (w : World) (e : Ex) (σ' : St) (x : Exit) (a' : Act) (w' : World) : Prop :=
  x = toExit e ∧ ∃ loc' I', Run P gl N loc' I' σ' a' w' ∧ Went P loc I σ a w loc' I' σ' a' w'

theorem wp_loop_by {c : Code} {Q : Exit → Act → World → Prop} (J : Nat → Act → World → Prop) (round : ∀ n a w, J n a w → c.wp P (Exit.then (fun a' w' => ∃ m, m < n ∧ J m a' w') Q) a w) (n : Nat) (a : Act) (w : World) (h : J n a w) : (Code.loop c).wp P Q a w := by
  intro b k cs
  have key : ∀ n a w, J n a w → ∃ e a' w', Q e a' w' ∧ Arrives P (lone (b.at a (.code c :: .inLoop c :: k)) cs w) b k cs e a' w' := by
    intro n
    induction n using Nat.strongRecOn with
    | _ n ih =>
      intro a w hJ
      obtain ⟨e, a₁, w₁, hq, harr⟩ := round n a w hJ b (.inLoop c :: k) cs
      cases e with
      | normal =>
        obtain ⟨m, hlt, hJ₁⟩ := hq
        obtain ⟨e₂, a₂, w₂, hq₂, harr₂⟩ := ih m hlt a₁ w₁ hJ₁
        exact ⟨e₂, a₂, w₂, hq₂, .of_steps (Steps.trans harr (.one step_inLoop)) harr₂⟩
      | exit id => exact ⟨_, a₁, w₁, hq, .pass (x := .inLoop c) rfl (fun _ _ => .inl (by simp)) harr⟩
      | goto l => exact ⟨_, a₁, w₁, hq, .pass (x := .inLoop c) rfl (fun _ _ => .inl (by simp)) harr⟩
      | ret => exact ⟨_, a₁, w₁, hq, .pass (x := .inLoop c) rfl (fun _ _ => .inl (by simp)) harr⟩
      | panic ch => exact ⟨_, a₁, w₁, hq, .pass (x := .inLoop c) rfl (fun _ _ => .inl (by simp)) harr⟩
      | outgrown => exact ⟨_, a₁, w₁, hq, .pass (x := .inLoop c) rfl (fun _ _ => .inl (by simp)) harr⟩
  obtain ⟨e, a', w', hq, harr⟩ := key n a w h
  exact ⟨e, a', w', hq, .of_steps (.one step_loop) harr⟩

/-- What is asked of a function's text. -/
def okRes (P : Program) : List ResultVar → List VRes → Bool
  | [], [] => true
  | .tmp t :: rs, .tmp t' :: vs => t == t' && okRes P rs vs
  | .cell a ty :: rs, .cell a' n :: vs => a == a' && okTy P ty n && okRes P rs vs
  | _, _ => false
def okFunc (P : Program) (M : Nat → Nat) (f : Nat) (F : VFunc) : Bool :=
  match P.funcs[f]? with
  | some fn => (match fn.body with | some body => okCode P M fn.ntmps body F.body && okRes P fn.results.toList F.res && fn.name != "runtime.NumGoroutine" && M f == F.m | none => false)
  | none => false

def resSem (tmps : Array Value) : ResultVar → Sem Value
  | .tmp t => Pure.pure (tmps.getD t Go.undef)
  | .cell x t => do loadVar t (← asAddr (tmps.getD x Go.undef))
theorem res_run {loc : Locs} {I : Nat → Prop} {σ : St} {a : Act} {w : World} (hs : Sim P loc I σ.st w) (he : EnvRep I w loc σ.env a.tmps) : ∀ (rs : List ResultVar) (vs : List VRes) {ds : List D}, okRes P rs vs = true → vs.mapM (resOf σ) = some ds →
    ∃ us : List Value, (rs.mapM (resSem a.tmps)).run P w = .ok us w ∧ RepAll I w loc us ds
  | [], [], ds, _, h => by
    simp at h
    subst h
    exact ⟨[], by simp, rfl, fun i v d h => by simp at h⟩
  | .tmp t :: rs, .tmp t' :: vs, ds, hok, h => by
    simp only [okRes, Bool.and_eq_true, beq_iff_eq] at hok
    obtain ⟨rfl, hok⟩ := hok
    simp only [List.mapM_cons, resOf, Option.bind_eq_bind, Option.bind_some, Option.pure_def] at h
    obtain ⟨ds', h1, h2⟩ := Option.bind_eq_some_iff.1 h
    injection h2 with h2
    subst h2
    obtain ⟨us, hu, hrep⟩ := res_run hs he rs vs hok h1
    exact ⟨_ :: us, by rw [List.mapM_cons, Sem.run_bind]; simp only [resSem, Sem.run_pure, Result.andThen_ok]; rw [Sem.run_bind, hu]; rfl, .cons (he t) hrep⟩
  | .cell x ty :: rs, .cell x' n :: vs, ds, hok, h => by
    simp only [okRes, Bool.and_eq_true, beq_iff_eq] at hok
    obtain ⟨⟨rfl, hty⟩, hok⟩ := hok
    simp only [List.mapM_cons, resOf, Option.bind_eq_bind, Option.pure_def] at h
    obtain ⟨d, h0, h⟩ := Option.bind_eq_some_iff.1 h
    obtain ⟨ds', h1, h2⟩ := Option.bind_eq_some_iff.1 h
    injection h2 with h2
    subst h2
    obtain ⟨us, hu, hrep⟩ := res_run hs he rs vs hok h1
    obtain ⟨ad, u, e1, e2, e3⟩ := loadD_addr hs (he x) hty h0
    exact ⟨u :: us, by rw [List.mapM_cons, Sem.run_bind]; simp only [resSem, e1, asAddr, Sem.run_bind, Sem.run_pure, Result.andThen_ok, e2, hu], .cons e3 hrep⟩
  | [], _ :: _, _, h, _ => by simp [okRes] at h
  | .tmp _ :: _, [], _, h, _ => by simp [okRes] at h
  | .cell _ _ :: _, [], _, h, _ => by simp [okRes] at h
  | .tmp _ :: _, .cell _ _ :: _, _, h, _ => by simp [okRes] at h
  | .cell _ _ :: _, .tmp _ :: _, _, h, _ => by simp [okRes] at h

theorem results_run {loc : Locs} {I : Nat → Prop} {σ : St} {a : Act} {w : World} (hs : Sim P loc I σ.st w) (he : EnvRep I w loc σ.env a.tmps) {fn : Func} {vs : List VRes} (hok : okRes P fn.results.toList vs = true) {d : D} (hd : resAll σ vs = some d) :
    ∃ v, (results fn a.tmps).run P w = .ok v w ∧ Rep I w loc v d := by
  unfold resAll at hd
  have go : ∀ ds, vs.mapM (resOf σ) = some ds → ∃ us : List Value, RepAll I w loc us ds ∧ (results fn a.tmps).run P w = .ok (if h : us.toArray.size = 1 then us.toArray[0] else .tuple us.toArray) w := by
    intro ds h
    obtain ⟨us, hu, hrep⟩ := res_run hs he fn.results.toList vs hok h
    refine ⟨us, hrep, ?_⟩
    have e : results fn a.tmps = (do let vs ← fn.results.mapM (resSem a.tmps); Pure.pure (if h : vs.size = 1 then vs[0] else .tuple vs)) := by
      unfold results
      rfl
    rw [e, Array.mapM_eq_mapM_toList, Sem.run_bind]
    have e2 : (List.toArray <$> fn.results.toList.mapM (resSem a.tmps)).run P w = .ok us.toArray w := by simp [hu]
    rw [e2]
    rfl
  split at hd
  · rename_i x hx
    injection hd with hd
    subst hd
    obtain ⟨us, ⟨h1, h2⟩, h3⟩ := go _ hx
    obtain ⟨u, rfl⟩ : ∃ u, us = [u] := by
      cases us with
      | nil => simp at h1
      | cons u us => cases us with
        | nil => exact ⟨u, rfl⟩
        | cons _ _ => simp at h1
    exact ⟨u, by rw [h3]; simp, h2 0 u x rfl rfl⟩
  · rename_i ds hne hds
    injection hd with hd
    subst hd
    obtain ⟨us, ⟨h1, h2⟩, h3⟩ := go _ hds
    have hsz : us.toArray.size ≠ 1 := by
      intro h
      simp at h
      rw [h] at h1
      cases ds with
      | nil => simp at h1
      | cons x xs => cases xs with
        | nil => exact hne x rfl
        | cons _ _ => simp at h1
    exact ⟨_, by rw [h3, dif_neg hsz], .tup _ _ _ h1 h2⟩
  · cases hd

theorem params_lookup : ∀ (ds : List D) (i t : Nat), ((params i ds).lookup t) = if t < i then none else ds[t - i]?
  | [], i, t => by simp [params]
  | d :: ds, i, t => by
    simp only [params, List.lookup_cons]
    by_cases h : t = i
    · subst h; simp
    · have : (t == i) = false := by simpa using h
      simp only [this]
      rw [params_lookup ds (i + 1) t]
      by_cases h1 : t < i
      · rw [if_pos (by omega), if_pos h1]
      · rw [if_neg (by omega), if_neg h1, show t - i = (t - (i + 1)) + 1 by omega, List.getElem?_cons_succ]

theorem start_run {N : Nat} {loc : Locs} {I : Nat → Prop} {st : Store} {w : World} (hs : Sim P loc I st w) (hg : GlobRep gl I w) {vs : List Value} {as : List D} (h : RepAll I w loc vs as) (m : Nat) :
    Run P gl N loc I { env := ofL (params 0 as), st := st, m := m } { tmps := vs.toArray ++ Array.replicate (N - vs.toArray.size) Go.undef, defers := [] } w := by
  refine ⟨hs, fun t => ?_, hg, by simp; omega⟩
  simp only [ofL, params_lookup, Nat.not_lt_zero, if_false, Nat.sub_zero]
  split
  · rename_i d hd
    have ht : t < vs.length := by rw [h.1]; exact (List.getElem?_eq_some_iff.1 hd).1
    have : (vs.toArray ++ Array.replicate (N - vs.toArray.size) Go.undef).getD t Go.undef = vs[t] := by
      rw [Array.getD_eq_getD_getElem?, Array.getElem?_append_left (by simpa using ht)]
      simp [ht]
    rw [this]
    exact h.2 t _ d (List.getElem?_eq_getElem ht) hd
  · exact .junk _ _

theorem sound (hC : ∀ f F, C f = some F → okFunc P M f F = true) (hprim : ∀ f as st r, C f = none → prim f as st = some r → enterable P f = true ∧ ∀ (loc : Locs) (I : Nat → Prop) (w : World) (vs : List Value), Sim P loc I st w → GlobRep gl I w → RepAll I w loc vs as → Calls P f vs.toArray w (After P loc I st w (M f) r.1 r.2)) :
    ∀ n, (∀ (N : Nat) (c : Code) (v : VCode) (σ : St) (e : Ex) (σ' : St), okCode P M N c v = true → exec gl C prim n v σ = some (e, σ') → ∀ (loc : Locs) (I : Nat → Prop) (a : Act) (w : World), Run P gl N loc I σ a w → c.wp P (Ends P gl N loc I σ a w e σ') a w) ∧
      CallOk P gl M (callN gl C prim n) ∧ ∀ f as st r, callN gl C prim n f as st = some r → enterable P f = true := by
  intro n
  induction n using Nat.strongRecOn with
  | _ n ih =>
    cases n with
    | zero =>
      refine ⟨fun N c v σ e σ' _ h => by simp [exec] at h, fun f as st r st2 h => by simp [callN] at h, fun f as st r h => by simp [callN] at h⟩
    | succ n =>
      obtain ⟨ihE, ihC, ihN⟩ := ih n (by omega)
      refine ⟨?_, ?_, ?_⟩
      · intro N c v σ e σ' hok h loc I a w hr
        cases v with
        | skip =>
          cases c <;> simp [okCode] at hok
          simp only [exec] at h
          injection h with h; injection h with h1 h2; subst h1; subst h2
          exact wp_skip ⟨rfl, loc, I, hr, .refl hr.sim⟩
        | reg vs =>
          cases c <;> simp [okCode] at hok
          rename_i id ops draw
          obtain ⟨hops, hdr⟩ := hok
          simp only [exec] at h
          obtain ⟨σ1, h1, h2⟩ := Option.map_eq_some_iff.1 h
          injection h2 with h2 h3
          subst h2; subst h3
          obtain ⟨hsz, _⟩ := okOps_spec hops
          have hvs : (List.range ops.size).map (vAt vs) = vs := by rw [hsz]; exact vAt_range vs
          cases draw with
          | false => exact wp_region (ops_wp ihC ihN hops (List.range ops.size) (fun i hi => List.mem_range.1 hi) hr (by rw [hvs]; exact h1) fun loc' I' a' w' r g => ⟨rfl, loc', I', r, g⟩)
          | true =>
            have hdr' : P.follows .mixedOrders = true ∧ okDraw [] ops vs = true := by simpa using hdr
            refine wp_region_any hdr'.1 ?_
            have hd : Later P loc I σ.st w loc I σ.st { w with drawn := w.drawn + 1 } := later_drawn hr.sim rfl rfl rfl rfl
            have hr' : Run P gl N loc I σ a { w with drawn := w.drawn + 1 } :=
              ⟨hd.sim, fun t => hd.rep hr.sim (fun _ _ h => h) (hr.env t), hr.glob.mono (fun _ h => h) fun _ _ => rfl, hr.size⟩
            refine any_wp ihC ihN hops hdr'.2 ops.size (Array.replicate ops.size false) (List.range ops.size) (by simp) (by simp) (fun j => ?_) List.pairwise_lt_range (fun k hk => ?_) rfl hr' (by rw [hvs]; exact h1) fun loc' I' a' w' r g => ⟨rfl, loc', I', r, ⟨hd.trans g.later, g.root, g.m, g.defers⟩⟩
            · rw [List.mem_range]
              constructor
              · intro hj; exact ⟨hj, by simp [hj]⟩
              · exact fun h => h.1
            · exfalso
              by_cases hks : k < ops.size
              · simp [hks] at hk
              · simp [hks] at hk
        | rgd qs vs =>
          cases c <;> simp [okCode] at hok
          rename_i id ops draw
          obtain ⟨⟨⟨hops, rfl⟩, hfo⟩, hdr⟩ := hok
          simp only [exec] at h
          obtain ⟨σ1, h1, h2⟩ := Option.bind_eq_some_iff.1 h
          split at h2
          · rename_i hdyn
            injection h2 with h2; injection h2 with h2 h3
            subst h2; subst h3
            obtain ⟨hsz, _⟩ := okOps_spec hops
            have hvs : (List.range ops.size).map (vAt vs) = vs := by rw [hsz]; exact vAt_range vs
            refine wp_region_any hfo ?_
            have hd : Later P loc I σ.st w loc I σ.st { w with drawn := w.drawn + 1 } := later_drawn hr.sim rfl rfl rfl rfl
            have hr' : Run P gl N loc I σ a { w with drawn := w.drawn + 1 } :=
              ⟨hd.sim, fun t => hd.rep hr.sim (fun _ _ h => h) (hr.env t), hr.glob.mono (fun _ h => h) fun _ _ => rfl, hr.size⟩
            refine any_wp ihC ihN hops hdr ops.size (Array.replicate ops.size false) (List.range ops.size) (by simp) (by simp) (fun j => ?_) List.pairwise_lt_range (fun k hk => ?_) hdyn hr' (by rw [hvs]; exact h1) fun loc' I' a' w' r g => ⟨rfl, loc', I', r, ⟨hd.trans g.later, g.root, g.m, g.defers⟩⟩
            · rw [List.mem_range]
              constructor
              · intro hj; exact ⟨hj, by simp [hj]⟩
              · exact fun h => h.1
            · exfalso
              by_cases hks : k < ops.size
              · simp [hks] at hk
              · simp [hks] at hk
          · cases h2
        | seq x y =>
          cases c <;> simp [okCode] at hok
          rename_i c1 c2
          rw [exec] at h
          obtain ⟨⟨e1, σ1⟩, h1, h2⟩ := Option.bind_eq_some_iff.1 h
          refine wp_seq (wp_mono (ihE N _ _ _ _ _ hok.1 h1 loc I a w hr) ?_)
          rintro x1 a1 w1 ⟨rfl, l1, I1, r1, g1⟩
          cases e1 with
          | normal =>
            refine wp_mono (ihE N _ _ _ _ _ hok.2 h2 l1 I1 a1 w1 r1) ?_
            rintro x2 a2 w2 ⟨rfl, l2, I2, r2, g2⟩
            exact ⟨rfl, l2, I2, r2, g1.trans g2⟩
          | exit id => injection h2 with h2; injection h2 with h2 h3; subst h2; subst h3; exact ⟨rfl, l1, I1, r1, g1⟩
          | ret => injection h2 with h2; injection h2 with h2 h3; subst h2; subst h3; exact ⟨rfl, l1, I1, r1, g1⟩
        | cond c' x y =>
          cases c <;> simp [okCode] at hok
          rename_i co c1 c2
          obtain ⟨⟨h0, h1⟩, h2⟩ := hok
          rw [exec] at h
          have hc := ev_rep hr.env hr.glob h0
          split at h
          · rename_i t ht
            rw [ht] at hc
            have hv : a.eval co = .bool t := by generalize a.eval co = z at hc; cases hc; rfl
            refine wp_cond hv ?_
            cases t with
            | true => exact ihE N _ _ _ _ _ h1 (by simpa using h) loc I a w hr
            | false => exact ihE N _ _ _ _ _ h2 (by simpa using h) loc I a w hr
          · cases h
        | blk id b =>
          cases c <;> simp [okCode] at hok
          rename_i id' c1
          obtain ⟨rfl, hb⟩ := hok
          rw [exec] at h
          obtain ⟨⟨e1, σ1⟩, h1, h2⟩ := Option.map_eq_some_iff.1 h
          refine wp_block (wp_mono (ihE N _ _ _ _ _ hb h1 loc I a w hr) ?_)
          rintro x1 a1 w1 ⟨rfl, l1, I1, r1, g1⟩
          cases e1 with
          | normal => injection h2 with h2 h3; subst h2; subst h3; exact ⟨rfl, l1, I1, r1, g1⟩
          | ret => injection h2 with h2 h3; subst h2; subst h3; exact ⟨rfl, l1, I1, r1, g1⟩
          | exit j =>
            simp only at h2
            by_cases hj : j = id'
            · rw [if_pos hj] at h2
              injection h2 with h2 h3; subst h2; subst h3
              simp only [toExit, Exit.inBlock, if_pos hj]
              exact ⟨rfl, l1, I1, r1, g1⟩
            · rw [if_neg hj] at h2
              injection h2 with h2 h3; subst h2; subst h3
              simp only [toExit, Exit.inBlock, if_neg hj]
              exact ⟨rfl, l1, I1, r1, g1⟩
        | loop keep b =>
          cases c <;> simp [okCode] at hok
          rename_i c1
          refine wp_loop_by (fun k a' w' => k ≤ n + 1 ∧ ∃ σ0 l0 I0, exec gl C prim k (.loop keep b) σ0 = some (e, σ') ∧ Run P gl N l0 I0 σ0 a' w' ∧ Went P loc I σ a w l0 I0 σ0 a' w') ?_ (n + 1) a w ⟨Nat.le_refl _, σ, loc, I, h, hr, .refl hr.sim⟩
          rintro k a0 w0 ⟨hk, σ0, l0, I0, h0, r0, g0⟩
          cases k with
          | zero => simp [exec] at h0
          | succ k =>
            rw [exec] at h0
            split at h0
            · rename_i hroots
              obtain ⟨⟨e1, σ1⟩, h1, h2⟩ := Option.bind_eq_some_iff.1 h0
              obtain ⟨l1, r1, g1⟩ := renorm_run r0 hroots keep
              refine wp_mono ((ih k (by omega)).1 N _ _ _ _ _ hok h1 l1 I0 a0 w0 r1) ?_
              rintro x2 a2 w2 ⟨rfl, l2, I2, r2, g2⟩
              cases e1 with
              | normal => exact ⟨k, by omega, by omega, σ1, l2, I2, h2, r2, (g0.trans g1).trans g2⟩
              | exit id => injection h2 with h2; injection h2 with h2 h3; subst h2; subst h3; exact ⟨rfl, l2, I2, r2, (g0.trans g1).trans g2⟩
              | ret => injection h2 with h2; injection h2 with h2 h3; subst h2; subst h3; exact ⟨rfl, l2, I2, r2, (g0.trans g1).trans g2⟩
            · cases h0
        | exit id =>
          cases c <;> simp [okCode] at hok
          subst hok
          simp only [exec] at h
          injection h with h; injection h with h1 h2; subst h1; subst h2
          exact wp_exit ⟨rfl, loc, I, hr, .refl hr.sim⟩
        | ret =>
          cases c <;> simp [okCode] at hok
          simp only [exec] at h
          injection h with h; injection h with h1 h2; subst h1; subst h2
          exact wp_ret ⟨rfl, loc, I, hr, .refl hr.sim⟩
      · intro f as st r st2 h loc I w vs hs hg hvs
        rw [callN] at h
        split at h
        · rename_i hc
          exact (hprim f as st (r, st2) hc h).2 loc I w vs hs hg hvs
        · rename_i F hF
          have hok := hC f F hF
          unfold okFunc at hok
          split at hok
          · rename_i fn hfn
            split at hok
            · rename_i body hbody
              simp only [Bool.and_eq_true, beq_iff_eq] at hok
              obtain ⟨⟨⟨hcode, hres⟩, _⟩, hm⟩ := hok
              have fin : ∀ e σ', exec gl C prim n F.body { env := ofL (params 0 as), st := st, m := F.m } = some (e, σ') → (e = .normal ∨ e = .ret) → ((resAll σ' F.res).bind fun r => finishO F.m σ'.st r) = some (r, st2) → Calls P f vs.toArray w (After P loc I st w (M f) r st2) := by
                intro e σ' he hee hres2
                obtain ⟨rd, hrd, hfin⟩ := Option.bind_eq_some_iff.1 hres2
                refine calls_of_wp hfn hbody (wp_mono (ihE fn.ntmps _ _ _ _ _ hcode he loc I _ w (start_run hs hg hvs F.m)) ?_)
                rintro x a' w' ⟨rfl, l1, I1, r1, g1⟩
                have post : a'.defers = [] ∧ ∃ v, (results fn a'.tmps).run P w' = .ok v w' ∧ After P loc I st w (M f) r st2 (.returned v) w' := by
                  refine ⟨g1.defers, ?_⟩
                  obtain ⟨v, hv, hrep⟩ := results_run r1.sim r1.env hres hrd
                  refine ⟨v, hv, ?_⟩
                  unfold finishO at hfin
                  split at hfin
                  · rename_i hroots
                    injection hfin with hfin
                    unfold finish at hfin
                    injection hfin with e1 e2
                    subst e1; subst e2
                    refine ⟨v, cut (orderOf F.m σ'.st [rd]) l1, I1, rfl, cut_rep _ hrep, g1.later.trans (later_cut r1.sim (orderOf_nodup _ _ _)), fun i L hi hL => ?_⟩
                    rw [hm] at hi
                    simp only [cut, orderOf_root hroots _ hi, Option.bind_some]
                    exact g1.root i L hi hL
                  · cases hfin
                rcases hee with rfl | rfl
                · exact post
                · exact post
              split at h
              · rename_i σ' he; exact fin _ σ' he (.inl rfl) h
              · rename_i σ' he; exact fin _ σ' he (.inr rfl) h
              · cases h
            · cases hok
          · cases hok
      · intro f as st r h
        rw [callN] at h
        split at h
        · rename_i hc
          exact (hprim f as st r hc h).1
        · rename_i F hF
          have hok := hC f F hF
          unfold okFunc at hok
          unfold enterable
          split at hok
          · rename_i fn hfn
            split at hok
            · rename_i body hbody
              simp only [Bool.and_eq_true] at hok
              simp only [hfn, hbody]
              simpa using hok.1.2
            · cases hok
          · cases hok

/-- What the abstract machine answers is what a call comes to. -/
theorem callL_sound (hC : ∀ f F, C f = some F → okFunc P M f F = true) (hprim : ∀ f as st r, C f = none → prim f as st = some r → enterable P f = true ∧ ∀ (loc : Locs) (I : Nat → Prop) (w : World) (vs : List Value), Sim P loc I st w → GlobRep gl I w → RepAll I w loc vs as → Calls P f vs.toArray w (After P loc I st w (M f) r.1 r.2)) :
    CallOk P gl M (callL gl C prim) := by
  intro f as st r st2 h loc I w vs hs hg hvs
  obtain ⟨n, hn⟩ := (callL_some gl C prim).1 h
  exact (sound hC hprim n).2.1 f as st r st2 hn loc I w vs hs hg hvs
end Go.Vi
