/- Vi: the abstract machine without its bound on rounds: what it comes to with enough rounds, and the equations of that. -/
import Derived.Test.YtcnhokifbgbegaaViDef
namespace Go.Vi

abbrev CallF := Nat → List D → Store → Option (D × Store)
/-- Where the first answers, the second answers the same. -/
def CallLe (c d : CallF) : Prop := ∀ f as st r, c f as st = some r → d f as st = some r
theorem CallLe.refl (c : CallF) : CallLe c c := fun _ _ _ _ h => h

theorem callWith_le {c d : CallF} (h : CallLe c d) {f rw fz as st r} (hr : callWith c f rw fz as st = some r) : callWith d f rw fz as st = some r := by
  unfold callWith at *
  split at hr
  · cases hr
  · rename_i ids hids
    simp only at hr ⊢
    split at hr
    · rename_i hc
      rw [if_pos hc]
      split at hr
      · cases hr
      · rename_i x r2 st2 hcall
        rw [h _ _ _ _ hcall]
        exact hr
    · cases hr

theorem evalOp_le {gl} {c d : CallF} (h : CallLe c d) {σ o r} (hr : evalOp gl c σ o = some r) : evalOp gl d σ o = some r := by
  cases o <;> first | exact hr | skip
  · exact callWith_le h hr
  · simp only [evalOp, callE] at *
    split at hr
    · exact callWith_le h hr
    · cases hr

theorem stepOp_le {gl} {c d : CallF} (h : CallLe c d) {σ o r} (hr : stepOp gl c o σ = some r) : stepOp gl d o σ = some r := by
  have key : ∀ r, ((evalOp gl c σ o.op).map fun p => ({ σ with env := putO σ.env o.dst p.1, st := p.2 } : St)) = some r →
      ((evalOp gl d σ o.op).map fun p => ({ σ with env := putO σ.env o.dst p.1, st := p.2 } : St)) = some r := by
    intro r hr
    obtain ⟨p, hp, hq⟩ := Option.map_eq_some_iff.1 hr
    rw [evalOp_le h hp]
    simpa using hq
  unfold stepOp at *
  split at hr
  · exact key _ hr
  · split at hr
    · split at hr
      · rename_i hb; rw [if_pos hb]; exact key _ hr
      · rename_i hb; rw [if_neg hb]; exact hr
    · exact hr
    · cases hr

theorem runOps_le {gl} {c d : CallF} (h : CallLe c d) : ∀ {ops : List VOper} {σ r}, runOps gl c ops σ = some r → runOps gl d ops σ = some r
  | [], _, _, hr => hr
  | o :: os, σ, r, hr => by
    simp only [runOps] at *
    obtain ⟨x, hx, hy⟩ := Option.bind_eq_some_iff.1 hr
    rw [stepOp_le h hx]
    exact runOps_le h hy

section
variable (gl : Nat → Option (List D)) (C : Nat → Option VFunc) (prim : CallF)

theorem mono : ∀ n, (∀ c σ r, exec gl C prim n c σ = some r → exec gl C prim (n + 1) c σ = some r) ∧ CallLe (callN gl C prim n) (callN gl C prim (n + 1)) := by
  intro n
  induction n with
  | zero => exact ⟨fun c σ r h => by simp [exec] at h, fun f as st r h => by simp [callN] at h⟩
  | succ n ih =>
    obtain ⟨ih1, ih2⟩ := ih
    constructor
    · intro c σ r h
      cases c with
      | skip => simpa [exec] using h
      | reg ops =>
        simp only [exec] at *
        obtain ⟨x, hx, hy⟩ := Option.map_eq_some_iff.1 h
        rw [runOps_le ih2 hx]
        simpa using hy
      | rgd qs ops =>
        simp only [exec] at *
        obtain ⟨x, hx, hy⟩ := Option.bind_eq_some_iff.1 h
        rw [runOps_le ih2 hx]
        exact hy
      | seq a b =>
        rw [exec] at h ⊢
        obtain ⟨x, hx, hy⟩ := Option.bind_eq_some_iff.1 h
        rw [ih1 _ _ _ hx]
        simp only [Option.bind_some]
        split at hy
        · exact ih1 _ _ _ hy
        · exact hy
      | cond c a b =>
        rw [exec] at h ⊢
        split at h
        · split at h
          · rename_i t; rw [if_pos (by assumption)]; exact ih1 _ _ _ h
          · rw [if_neg (by assumption)]; exact ih1 _ _ _ h
        · cases h
      | blk id b =>
        rw [exec] at h ⊢
        obtain ⟨x, hx, hy⟩ := Option.map_eq_some_iff.1 h
        rw [ih1 _ _ _ hx]
        simpa using hy
      | loop keep b =>
        rw [exec] at h ⊢
        split at h
        · rename_i hg
          rw [if_pos hg]
          obtain ⟨x, hx, hy⟩ := Option.bind_eq_some_iff.1 h
          rw [ih1 _ _ _ hx]
          simp only [Option.bind_some]
          split at hy
          · exact ih1 _ _ _ hy
          · exact hy
        · cases h
      | exit id => simpa [exec] using h
      | ret => simpa [exec] using h
    · intro f as st r h
      rw [callN] at h ⊢
      split at h
      · exact h
      · rename_i F hF
        split at h
        · rename_i σ hx
          rw [ih1 _ _ _ hx]
          exact h
        · rename_i σ hx
          rw [ih1 _ _ _ hx]
          exact h
        · cases h

theorem exec_le {n m c σ r} (hnm : n ≤ m) (h : exec gl C prim n c σ = some r) : exec gl C prim m c σ = some r := by
  induction hnm with
  | refl => exact h
  | step _ ih => exact (mono gl C prim _).1 _ _ _ ih
theorem callN_le {n m} (hnm : n ≤ m) : CallLe (callN gl C prim n) (callN gl C prim m) := by
  induction hnm with
  | refl => exact CallLe.refl _
  | step _ ih => exact fun f as st r h => (mono gl C prim _).2 _ _ _ _ (ih _ _ _ _ h)

open Classical in
noncomputable def lim {α : Type} (g : Nat → Option α) : Option α := if h : ∃ r, ∃ n, g n = some r then some h.choose else none
theorem lim_some {α : Type} {g : Nat → Option α} (hm : ∀ n m r, n ≤ m → g n = some r → g m = some r) {r : α} : lim g = some r ↔ ∃ n, g n = some r := by
  unfold lim
  constructor
  · intro h
    split at h
    · rename_i h'
      injection h with h
      subst h
      exact h'.choose_spec
    · cases h
  · rintro ⟨n, hn⟩
    have h' : ∃ r, ∃ n, g n = some r := ⟨r, n, hn⟩
    rw [dif_pos h']
    obtain ⟨k, hk⟩ := h'.choose_spec
    have h1 := hm n (max n k) _ (Nat.le_max_left _ _) hn
    have h2 := hm k (max n k) _ (Nat.le_max_right _ _) hk
    rw [h1] at h2
    injection h2 with h2
    rw [← h2]

noncomputable def execL (c : VCode) (σ : St) : Option (Ex × St) := lim fun n => exec gl C prim n c σ
noncomputable def callL : CallF := fun f as st => lim fun n => callN gl C prim n f as st

theorem execL_some {c σ r} : execL gl C prim c σ = some r ↔ ∃ n, exec gl C prim n c σ = some r := lim_some fun _ _ _ hnm h => exec_le gl C prim hnm h
theorem callL_some {f as st r} : callL gl C prim f as st = some r ↔ ∃ n, callN gl C prim n f as st = some r := lim_some fun _ _ _ hnm h => callN_le gl C prim hnm _ _ _ _ h

theorem callN_callL (n : Nat) : CallLe (callN gl C prim n) (callL gl C prim) := fun _ _ _ _ h => (callL_some gl C prim).2 ⟨n, h⟩

theorem runOps_lim : ∀ {ops : List VOper} {σ r}, runOps gl (callL gl C prim) ops σ = some r → ∃ n, runOps gl (callN gl C prim n) ops σ = some r := by
  have cw : ∀ {f rw fz as st r}, callWith (callL gl C prim) f rw fz as st = some r → ∃ n, callWith (callN gl C prim n) f rw fz as st = some r := by
    intro f rw fz as st r hr
    unfold callWith at hr
    split at hr
    · cases hr
    · rename_i ids hids
      simp only at hr
      split at hr
      · rename_i hc
        split at hr
        · cases hr
        · rename_i x r2 st2 hcall
          obtain ⟨n, hn⟩ := (callL_some gl C prim).1 hcall
          refine ⟨n, ?_⟩
          unfold callWith
          simp only [hids]
          rw [if_pos hc, hn]
          exact hr
      · cases hr
  have ev : ∀ {σ o r}, evalOp gl (callL gl C prim) σ o = some r → ∃ n, evalOp gl (callN gl C prim n) σ o = some r := by
    intro σ o r hr
    cases o <;> first | exact ⟨0, hr⟩ | skip
    · exact cw hr
    · simp only [evalOp, callE] at *
      split at hr
      · exact cw hr
      · cases hr
  have st : ∀ {σ o r}, stepOp gl (callL gl C prim) o σ = some r → ∃ n, stepOp gl (callN gl C prim n) o σ = some r := by
    intro σ o r hr
    unfold stepOp at *
    split at hr
    · obtain ⟨p, hp, hq⟩ := Option.map_eq_some_iff.1 hr
      obtain ⟨n, hn⟩ := ev hp
      exact ⟨n, by rw [hn]; simpa using hq⟩
    · split at hr
      · split at hr
        · rename_i hb
          obtain ⟨p, hp, hq⟩ := Option.map_eq_some_iff.1 hr
          obtain ⟨n, hn⟩ := ev hp
          exact ⟨n, by rw [if_pos hb, hn]; simpa using hq⟩
        · rename_i hb; exact ⟨0, by rw [if_neg hb]; exact hr⟩
      · exact ⟨0, hr⟩
      · cases hr
  intro ops
  induction ops with
  | nil => exact fun h => ⟨0, h⟩
  | cons o os ih =>
    intro σ r hr
    simp only [runOps] at hr ⊢
    obtain ⟨x, hx, hy⟩ := Option.bind_eq_some_iff.1 hr
    obtain ⟨n, hn⟩ := st hx
    obtain ⟨k, hk⟩ := ih hy
    refine ⟨max n k, ?_⟩
    rw [stepOp_le (callN_le gl C prim (Nat.le_max_left n k)) hn]
    exact runOps_le (callN_le gl C prim (Nat.le_max_right n k)) hk

theorem opt_ext {α : Type} {a b : Option α} (h : ∀ r, a = some r ↔ b = some r) : a = b := by
  cases a with
  | none => cases b with
    | none => rfl
    | some y => exact absurd ((h y).2 rfl) (by simp)
  | some x => exact ((h x).1 rfl).symm

theorem execL_skip (σ : St) : execL gl C prim .skip σ = some (.normal, σ) := (execL_some gl C prim).2 ⟨1, rfl⟩
theorem execL_exit (id : Nat) (σ : St) : execL gl C prim (.exit id) σ = some (.exit id, σ) := (execL_some gl C prim).2 ⟨1, rfl⟩
theorem execL_ret (σ : St) : execL gl C prim .ret σ = some (.ret, σ) := (execL_some gl C prim).2 ⟨1, rfl⟩
theorem execL_reg (ops : List VOper) (σ : St) : execL gl C prim (.reg ops) σ = (runOps gl (callL gl C prim) ops σ).map fun σ => (.normal, σ) := by
  refine opt_ext fun r => ?_
  rw [execL_some]
  constructor
  · rintro ⟨n, h⟩
    cases n with
    | zero => simp [exec] at h
    | succ n =>
      rw [exec] at h
      obtain ⟨x, hx, hy⟩ := Option.map_eq_some_iff.1 h
      rw [runOps_le (callN_callL gl C prim n) hx]
      simpa using hy
  · intro h
    obtain ⟨x, hx, hy⟩ := Option.map_eq_some_iff.1 h
    obtain ⟨n, hn⟩ := runOps_lim gl C prim hx
    exact ⟨n + 1, by rw [exec, hn]; simpa using hy⟩
theorem execL_rgd (qs : List (Nat × Nat)) (ops : List VOper) (σ : St) : execL gl C prim (.rgd qs ops) σ = (runOps gl (callL gl C prim) ops σ).bind fun σ => if dynOk qs σ.env = true then some (.normal, σ) else none := by
  refine opt_ext fun r => ?_
  rw [execL_some]
  constructor
  · rintro ⟨n, h⟩
    cases n with
    | zero => simp [exec] at h
    | succ n =>
      rw [exec] at h
      obtain ⟨x, hx, hy⟩ := Option.bind_eq_some_iff.1 h
      rw [runOps_le (callN_callL gl C prim n) hx]
      exact hy
  · intro h
    obtain ⟨x, hx, hy⟩ := Option.bind_eq_some_iff.1 h
    obtain ⟨n, hn⟩ := runOps_lim gl C prim hx
    exact ⟨n + 1, by rw [exec, hn]; exact hy⟩
theorem execL_seq (a b : VCode) (σ : St) : execL gl C prim (.seq a b) σ = (execL gl C prim a σ).bind fun p => match p.1 with | .normal => execL gl C prim b p.2 | e => some (e, p.2) := by
  refine opt_ext fun r => ?_
  rw [execL_some]
  constructor
  · rintro ⟨n, h⟩
    cases n with
    | zero => simp [exec] at h
    | succ n =>
      rw [exec] at h
      obtain ⟨⟨e, x⟩, hx, hy⟩ := Option.bind_eq_some_iff.1 h
      refine Option.bind_eq_some_iff.2 ⟨_, (execL_some gl C prim).2 ⟨n, hx⟩, ?_⟩
      cases e with
      | normal => exact (execL_some gl C prim).2 ⟨n, hy⟩
      | exit id => exact hy
      | ret => exact hy
  · intro h
    obtain ⟨⟨e, x⟩, hx, hy⟩ := Option.bind_eq_some_iff.1 h
    obtain ⟨n, hn⟩ := (execL_some gl C prim).1 hx
    cases e with
    | normal =>
      obtain ⟨k, hk⟩ := (execL_some gl C prim).1 hy
      refine ⟨max n k + 1, ?_⟩
      rw [exec, exec_le gl C prim (Nat.le_max_left n k) hn]
      exact exec_le gl C prim (Nat.le_max_right n k) hk
    | exit id => exact ⟨n + 1, by rw [exec, hn]; exact hy⟩
    | ret => exact ⟨n + 1, by rw [exec, hn]; exact hy⟩
theorem execL_cond (c : Opd) (a b : VCode) (σ : St) : execL gl C prim (.cond c a b) σ = match σ.ev gl c with | .bool t => if t then execL gl C prim a σ else execL gl C prim b σ | _ => none := by
  refine opt_ext fun r => ?_
  rw [execL_some]
  constructor
  · rintro ⟨n, h⟩
    cases n with
    | zero => simp [exec] at h
    | succ n =>
      rw [exec] at h
      split at h
      · rename_i t ht
        simp only [ht]
        split at h
        · rw [if_pos (by assumption)]; exact (execL_some gl C prim).2 ⟨n, h⟩
        · rw [if_neg (by assumption)]; exact (execL_some gl C prim).2 ⟨n, h⟩
      · cases h
  · intro h
    split at h
    · rename_i t ht
      split at h
      · obtain ⟨n, hn⟩ := (execL_some gl C prim).1 h
        exact ⟨n + 1, by rw [exec]; simp only [ht]; rw [if_pos (by assumption)]; exact hn⟩
      · obtain ⟨n, hn⟩ := (execL_some gl C prim).1 h
        exact ⟨n + 1, by rw [exec]; simp only [ht]; rw [if_neg (by assumption)]; exact hn⟩
    · cases h
def unExit (id : Nat) (p : Ex × St) : Ex × St := match p.1 with | .exit j => if j = id then (.normal, p.2) else p | _ => p
theorem execL_blk (id : Nat) (b : VCode) (σ : St) : execL gl C prim (.blk id b) σ = (execL gl C prim b σ).map (unExit id) := by
  refine opt_ext fun r => ?_
  rw [execL_some]
  constructor
  · rintro ⟨n, h⟩
    cases n with
    | zero => simp [exec] at h
    | succ n =>
      rw [exec] at h
      obtain ⟨x, hx, hy⟩ := Option.map_eq_some_iff.1 h
      exact Option.map_eq_some_iff.2 ⟨x, (execL_some gl C prim).2 ⟨n, hx⟩, hy⟩
  · intro h
    obtain ⟨x, hx, hy⟩ := Option.map_eq_some_iff.1 h
    obtain ⟨n, hn⟩ := (execL_some gl C prim).1 hx
    exact ⟨n + 1, by rw [exec, hn]; exact congrArg some hy⟩
theorem execL_loop (keep : List Nat) (b : VCode) (σ : St) : execL gl C prim (.loop keep b) σ = if rootsLive σ.m σ.st then (execL gl C prim b (renorm keep σ)).bind fun p => match p.1 with | .normal => execL gl C prim (.loop keep b) p.2 | e => some (e, p.2) else none := by
  refine opt_ext fun r => ?_
  rw [execL_some]
  by_cases hg : rootsLive σ.m σ.st = true
  · rw [if_pos hg]
    constructor
    · rintro ⟨n, h⟩
      cases n with
      | zero => simp [exec] at h
      | succ n =>
        rw [exec, if_pos hg] at h
        obtain ⟨⟨e, x⟩, hx, hy⟩ := Option.bind_eq_some_iff.1 h
        refine Option.bind_eq_some_iff.2 ⟨_, (execL_some gl C prim).2 ⟨n, hx⟩, ?_⟩
        cases e with
        | normal => exact (execL_some gl C prim).2 ⟨n, hy⟩
        | exit id => exact hy
        | ret => exact hy
    · intro h
      obtain ⟨⟨e, x⟩, hx, hy⟩ := Option.bind_eq_some_iff.1 h
      obtain ⟨n, hn⟩ := (execL_some gl C prim).1 hx
      cases e with
      | normal =>
        obtain ⟨k, hk⟩ := (execL_some gl C prim).1 hy
        refine ⟨max n k + 1, ?_⟩
        rw [exec, if_pos hg, exec_le gl C prim (Nat.le_max_left n k) hn]
        exact exec_le gl C prim (Nat.le_max_right n k) hk
      | exit id => exact ⟨n + 1, by rw [exec, if_pos hg, hn]; exact hy⟩
      | ret => exact ⟨n + 1, by rw [exec, if_pos hg, hn]; exact hy⟩
  · rw [if_neg hg]
    constructor
    · rintro ⟨n, h⟩
      cases n with
      | zero => simp [exec] at h
      | succ n => rw [exec, if_neg hg] at h; cases h
    · intro h; cases h
/-- A call of a function that is given as code. -/
theorem callL_code {f : Nat} {F : VFunc} (hF : C f = some F) (as : List D) (st : Store) :
    callL gl C prim f as st = (execL gl C prim F.body { env := ofL (params 0 as), st := st, m := F.m }).bind fun p => match p.1 with
      | .exit _ => none
      | _ => (resAll p.2 F.res).bind fun r => finishO F.m p.2.st r := by
  refine opt_ext fun r => ?_
  rw [callL_some]
  constructor
  · rintro ⟨n, h⟩
    cases n with
    | zero => simp [callN] at h
    | succ n =>
      rw [callN, hF] at h
      simp only at h
      split at h
      · rename_i σ hx
        exact Option.bind_eq_some_iff.2 ⟨_, (execL_some gl C prim).2 ⟨n, hx⟩, h⟩
      · rename_i σ hx
        exact Option.bind_eq_some_iff.2 ⟨_, (execL_some gl C prim).2 ⟨n, hx⟩, h⟩
      · cases h
  · intro h
    obtain ⟨x, hx, hy⟩ := Option.bind_eq_some_iff.1 h
    obtain ⟨n, hn⟩ := (execL_some gl C prim).1 hx
    obtain ⟨e, σ⟩ := x
    refine ⟨n + 1, ?_⟩
    rw [callN, hF]
    simp only
    rw [hn]
    cases e with
    | normal => exact hy
    | ret => exact hy
    | exit id => simp at hy
end
end Go.Vi
