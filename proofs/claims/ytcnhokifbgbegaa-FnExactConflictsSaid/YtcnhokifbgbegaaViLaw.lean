/- Vi: a law's call, from what the abstract machine answers. -/
import Derived.Test.YtcnhokifbgbegaaViIn
set_option linter.unusedSimpArgs false
set_option linter.unusedVariables false
namespace Go.Vi
open Go.RowKit

theorem obj_nil (id : Nat) : Store.obj [] id = none := by simp [Store.obj]
theorem sim_nil (P : Program) (w : World) : Sim P Locs.no (fun b => b < w.heap.size) [] w := by
  refine ⟨fun id o h => (by rw [obj_nil] at h; cases h), fun i j o o' L L' h => (by rw [obj_nil] at h; cases h), ?_, fun b h => h, fun _ _ => rfl⟩
  rintro b ⟨id, o, L, h, _⟩
  rw [obj_nil] at h; cases h

theorem law_of {P : Program} {gl : Nat → Option (List D)} {M : Nat → Nat} {call : Nat → List D → Store → Option (D × Store)} (hcall : CallOk P gl M call) (hg : ∀ g, gl g = none) {f : Nat} {ds : List D} {vs : List Value} {w : World} {st2 : Store}
    (h : call f ds [] = some (.bool true, st2)) (hr : RepAll (fun b => b < w.heap.size) w Locs.no vs ds) : Calls P f vs.toArray w (fun e w' => e = .returned (.bool true) ∧ Below w.heap.size w w') := by
  refine Calls.mono (hcall f ds [] _ _ h Locs.no _ w vs (sim_nil P w) (fun g cs hgc => by rw [hg] at hgc; cases hgc) hr) ?_
  rintro e w' ⟨v, loc', I', rfl, hv, hl, _⟩
  cases hv
  refine ⟨rfl, (hl.frm.mono fun b hb => ?_).below⟩
  obtain ⟨id, o, L, ho, _⟩ := hb
  rw [obj_nil] at ho; cases ho
end Go.Vi
