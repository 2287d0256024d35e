/- The law FnExactValidGrants holds: it returns true whatever list of grants it is given; no condition. -/
import Derived.Test.YtojgihheepdgdaaRows
import Derived.Test.YtojgihheepdgdaaViG4
import Derived.Test.YtojgihheepdgdaaViChk
import Derived.Test.YtojgihheepdgdaaViLaw
import Derived.WalkKit
import Derived.ProofKit
import Derived.OpenShut
import Derived.ShutString
import Derived.ChangeOld
import Derived.Below
import Derived.SizedLaws
namespace Go.Proofs.Ytojgihheepdgdaa.fnExactValidGrants
open Go.ChangeShapes Go.WideShapes Go.ChangeAt Go.RowKit Go.Vi
set_option linter.unusedVariables false
theorem own : ownKnob Try.prog.godebug = none := by kernel_rfl
theorem laidOut : laidOutB Try.prog = true := by kernel_rfl
theorem hcall : CallOk Try.prog Code.gl Code.M Code.CL := callL_sound Code.okAll (fun f xs st r _ h => by cases h)
theorem grants_of {rows : List (List D)} (h : TyD (.sl [.int .i64, .int .i64, .int .i64, .int .i64, .bool]) (.sl rows)) : ∃ l : List Code.Grant, rows = l.map Code.encG ∧ l.length ≤ maxLen := by
  cases h with
  | sl _ _ hl hr h =>
    have one : ∀ r ∈ rows, ∃ g : Code.Grant, r = Code.encG g := by
      intro r hm
      have h1 := hr r hm
      have h2 := h r hm
      obtain ⟨a, b, c, d, e, rfl⟩ : ∃ a b c d e, r = [a, b, c, d, e] := by
        match r, h1 with
        | [a, b, c, d, e], _ => exact ⟨a, b, c, d, e, rfl⟩
      have ha := h2 0 _ _ rfl rfl
      have hb := h2 1 _ _ rfl rfl
      have hc := h2 2 _ _ rfl rfl
      have hd := h2 3 _ _ rfl rfl
      have he := h2 4 _ _ rfl rfl
      cases ha; cases hb; cases hc; cases hd; cases he
      exact ⟨⟨⟨_, _⟩, _, _, _⟩, rfl⟩
    clear hr h
    have : ∃ l : List Code.Grant, rows = l.map Code.encG := by
      clear hl
      induction rows with
      | nil => exact ⟨[], rfl⟩
      | cons r rows ih =>
        obtain ⟨g, rfl⟩ := one r (by simp)
        obtain ⟨l, rfl⟩ := ih fun r hm => one r (by simp [hm])
        exact ⟨g :: l, rfl⟩
    obtain ⟨l, rfl⟩ := this
    exact ⟨l, rfl, by simpa using hl⟩
set_option maxRecDepth 100000 in
theorem lifted (os : Os) (started : os.Started) (H : Type) (enc : TypeId × Value → H) :
    ReturnsInHanded {} Try.checked os 3 .any (Rows.fnExactValidGrantsSpec.pre6 enc Try.prog Try.f3 Rows.fnExactValidGrantsRow.domain false) (Rows.fnExactValidGrantsSpec.post enc Try.prog Try.f3 false true false false) := by
  refine returnsInHanded_of_change_sized (C := Try.checked) own started (by kernel_rfl) Try.func3
    (ChangeSpec.witness6 (enc := enc) (C := Try.checked) false ⟨#[], #[.slice none 0 0], []⟩ 8 (by kernel_rfl) (by kernel_rfl) (by kernel_rfl) (by kernel_rfl)) ?_
  intro W base args ds gs before hval0 hW hcnd hsz0 _
  have hval : ∀ (j : Nat) t v, Try.f3.params[j]? = some t → args[j]? = some v → Value.okWide Try.prog W .any base t v := hval0
  have hW' := hW
  obtain ⟨p, q, hA0, hV, rfl, hfz, hnd⟩ := hW
  have hA : DataW.TrodAll enc Try.prog W 0 (fun _ => true) true Try.f3.params.toList args.toList ds p := hA0
  rw [Try.params3] at hA hval
  obtain ⟨v0, vs0, d0, ds0, p0, q0, hargs, rfl, rfl, h0, r0⟩ := trodAll_cons hA
  obtain ⟨rfl, rfl, rfl⟩ := trodAll_nil r0
  obtain rfl : args = #[v0] := by cases args; simp_all
  obtain ⟨rfl, rfl⟩ := trodVars_none hV
  have ok0 := hval 0 22 v0 rfl rfl
  obtain ⟨a0, len0, cap0, rfl⟩ := okWide_slice Try.underlying22 ok0
  have k0 := h0
  have lt0 : ∀ x ∈ p0, x.block < W.heap.size := by obtain ⟨m, hm⟩ := k0; exact DataW.trod_lt m _ _ _ hm
  have hspot : ∀ a len cap, ([.slice a0 len0 cap0] : List Value) = [.slice (some a) len cap] → a.spot = none := by
    intro a len cap he
    simp at he
    obtain ⟨rfl, rfl, rfl⟩ := he
    have := ok0
    unfold Value.okWide at this
    rw [Try.underlying22] at this
    simp only at this
    unfold Cell.okWide at this
    rw [Try.underlying22] at this
    simp only at this
    unfold Cell.ok at this
    rw [Try.underlying22] at this
    exact this.2.2.2.1
  have hsay : Says (fun b => b < W.heap.size) W [.sl [.int .i64, .int .i64, .int .i64, .int .i64, .bool]] [.slice a0 len0 cap0] := by
    obtain ⟨fuel, hf⟩ := h0
    exact trod_arg (n := 8) (t := 22) (fun _ h => h) (by kernel_rfl) hf hspot
  obtain ⟨dl, hd1, ⟨hd2, hd3⟩, hd4⟩ := hsay
  obtain ⟨dd, rfl⟩ : ∃ dd, dl = [dd] := by match dl, hd2 with | [dd], _ => exact ⟨dd, rfl⟩
  have hty := hd3 0 _ _ rfl rfl
  cases hty with
  | sl _ rows _ _ _ =>
    obtain ⟨l, rfl, hll⟩ := grants_of (hd3 0 _ _ rfl rfl)
    have hlaw := Code.fnExactValidGrants_c l (Nat.le_trans hll (by decide))
    refine (law_of hcall (fun _ => rfl) hlaw (vs := [.slice a0 len0 cap0]) ⟨rfl, hd4⟩).mono fun e W' ⟨he, bel⟩ => ?_
    subst he
    exact ⟨_, rfl, _, _, _, [], _, [], hW', trodAll_mk1 (shut_bool Try.underlying4 _), (trodAll_cons_mk (Below.trod laidOut (by kernel_rfl) (of_decide_eq_true (by kernel_rfl)) k0 bel lt0) trodAll_mk0), rfl, bel.frame _, fun h => by cases h⟩
theorem over : Rows.fnExactValidGrantsRow.holds Try.pinned (OpenSpec.ofChange Rows.fnExactValidGrantsSpec) :=
  OpenClaim.holds_of_wide 3 Try.f3 rfl rfl rfl rfl rfl rfl rfl ⟨rfl, rfl, rfl, rfl, rfl⟩ rfl rfl rfl rfl rfl (by kernel_rfl) Try.func3 (by kernel_rfl)
    (of_decide_eq_true (by kernel_rfl)) (by unfold Func.isWrapper; first | (rw [if_pos (by decide +kernel)]; kernel_rfl) | (rw [if_neg (by decide +kernel)]; exact ⟨rfl, rfl⟩))
    (fun os started H enc _ => lifted os started H enc)
theorem proved : Rows.FnExactValidGrantsSaid := over
#print axioms proved
end Go.Proofs.Ytojgihheepdgdaa.fnExactValidGrants
