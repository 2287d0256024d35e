import Derived.Test.YtcnhokifbgbegaaViCode
import Derived.Test.YtcnhokifbgbegaaProg
namespace Go.Vi.Code
open Go.Proofs
theorem chk3 : okFunc Try.prog M 3 v3 = true := by kernel_rfl
theorem chk4 : okFunc Try.prog M 4 v4 = true := by kernel_rfl
theorem chk7 : okFunc Try.prog M 7 v7 = true := by kernel_rfl
theorem chk11 : okFunc Try.prog M 11 v11 = true := by kernel_rfl
theorem chk15 : okFunc Try.prog M 15 v15 = true := by kernel_rfl
theorem chk16 : okFunc Try.prog M 16 v16 = true := by kernel_rfl
theorem chk17 : okFunc Try.prog M 17 v17 = true := by kernel_rfl
theorem chk18 : okFunc Try.prog M 18 v18 = true := by kernel_rfl
theorem chk19 : okFunc Try.prog M 19 v19 = true := by kernel_rfl
theorem chk20 : okFunc Try.prog M 20 v20 = true := by kernel_rfl
theorem chk21 : okFunc Try.prog M 21 v21 = true := by kernel_rfl
theorem chk22 : okFunc Try.prog M 22 v22 = true := by kernel_rfl
theorem chk23 : okFunc Try.prog M 23 v23 = true := by kernel_rfl
theorem chk31 : okFunc Try.prog M 31 v31 = true := by kernel_rfl
theorem chk32 : okFunc Try.prog M 32 v32 = true := by kernel_rfl
theorem chk33 : okFunc Try.prog M 33 v33 = true := by kernel_rfl
theorem chk34 : okFunc Try.prog M 34 v34 = true := by kernel_rfl
theorem chk35 : okFunc Try.prog M 35 v35 = true := by kernel_rfl
theorem chk36 : okFunc Try.prog M 36 v36 = true := by kernel_rfl
theorem chk37 : okFunc Try.prog M 37 v37 = true := by kernel_rfl
theorem chk44 : okFunc Try.prog M 44 v44 = true := by kernel_rfl
theorem chk45 : okFunc Try.prog M 45 v45 = true := by kernel_rfl
theorem chk46 : okFunc Try.prog M 46 v46 = true := by kernel_rfl
theorem chk47 : okFunc Try.prog M 47 v47 = true := by kernel_rfl
theorem chk48 : okFunc Try.prog M 48 v48 = true := by kernel_rfl
theorem chk49 : okFunc Try.prog M 49 v49 = true := by kernel_rfl
theorem chk51 : okFunc Try.prog M 51 v51 = true := by kernel_rfl
theorem chk52 : okFunc Try.prog M 52 v52 = true := by kernel_rfl
theorem chk53 : okFunc Try.prog M 53 v53 = true := by kernel_rfl
theorem chk54 : okFunc Try.prog M 54 v54 = true := by kernel_rfl
theorem chk55 : okFunc Try.prog M 55 v55 = true := by kernel_rfl
theorem chk56 : okFunc Try.prog M 56 v56 = true := by kernel_rfl
theorem chk57 : okFunc Try.prog M 57 v57 = true := by kernel_rfl
theorem chk58 : okFunc Try.prog M 58 v58 = true := by kernel_rfl
theorem chk59 : okFunc Try.prog M 59 v59 = true := by kernel_rfl
theorem chk60 : okFunc Try.prog M 60 v60 = true := by kernel_rfl
theorem chk67 : okFunc Try.prog M 67 v67 = true := by kernel_rfl
theorem chk68 : okFunc Try.prog M 68 v68 = true := by kernel_rfl
theorem chk69 : okFunc Try.prog M 69 v69 = true := by kernel_rfl
theorem chk70 : okFunc Try.prog M 70 v70 = true := by kernel_rfl
theorem chk71 : okFunc Try.prog M 71 v71 = true := by kernel_rfl
theorem chk73 : okFunc Try.prog M 73 v73 = true := by kernel_rfl
theorem chk74 : okFunc Try.prog M 74 v74 = true := by kernel_rfl
theorem chk76 : okFunc Try.prog M 76 v76 = true := by kernel_rfl
theorem chk77 : okFunc Try.prog M 77 v77 = true := by kernel_rfl
theorem chk78 : okFunc Try.prog M 78 v78 = true := by kernel_rfl
theorem chk79 : okFunc Try.prog M 79 v79 = true := by kernel_rfl
theorem chk81 : okFunc Try.prog M 81 v81 = true := by kernel_rfl
theorem chk82 : okFunc Try.prog M 82 v82 = true := by kernel_rfl
theorem chk83 : okFunc Try.prog M 83 v83 = true := by kernel_rfl
theorem chk84 : okFunc Try.prog M 84 v84 = true := by kernel_rfl
theorem chk85 : okFunc Try.prog M 85 v85 = true := by kernel_rfl
theorem chk86 : okFunc Try.prog M 86 v86 = true := by kernel_rfl
theorem chk87 : okFunc Try.prog M 87 v87 = true := by kernel_rfl
theorem chk88 : okFunc Try.prog M 88 v88 = true := by kernel_rfl
theorem chk94 : okFunc Try.prog M 94 v94 = true := by kernel_rfl
theorem chk95 : okFunc Try.prog M 95 v95 = true := by kernel_rfl
theorem chk96 : okFunc Try.prog M 96 v96 = true := by kernel_rfl
theorem chk97 : okFunc Try.prog M 97 v97 = true := by kernel_rfl
theorem chk99 : okFunc Try.prog M 99 v99 = true := by kernel_rfl
theorem chk100 : okFunc Try.prog M 100 v100 = true := by kernel_rfl
theorem chk101 : okFunc Try.prog M 101 v101 = true := by kernel_rfl
theorem chk102 : okFunc Try.prog M 102 v102 = true := by kernel_rfl
theorem chk104 : okFunc Try.prog M 104 v104 = true := by kernel_rfl
theorem chk105 : okFunc Try.prog M 105 v105 = true := by kernel_rfl
theorem chk106 : okFunc Try.prog M 106 v106 = true := by kernel_rfl
theorem chk107 : okFunc Try.prog M 107 v107 = true := by kernel_rfl
theorem chk112 : okFunc Try.prog M 112 v112 = true := by kernel_rfl
theorem lookup_mem {α : Type} : ∀ {l : List (Nat × α)} {f : Nat} {x : α}, l.lookup f = some x → (f, x) ∈ l
  | [], f, x, h => by simp at h
  | (g, y) :: l, f, x, h => by
    simp only [List.lookup_cons] at h
    split at h
    · rename_i hb; injection h with h; have : f = g := by simpa using hb
      subst this; subst h; simp
    · exact List.mem_cons_of_mem _ (lookup_mem h)
theorem okTable : table.all (fun p => okFunc Try.prog M p.1 p.2) = true := by
  simp only [table, List.all_cons, List.all_nil, Bool.and_self, chk3, chk4, chk7, chk11, chk15, chk16, chk17, chk18, chk19, chk20, chk21, chk22, chk23, chk31, chk32, chk33, chk34, chk35, chk36, chk37, chk44, chk45, chk46, chk47, chk48, chk49, chk51, chk52, chk53, chk54, chk55, chk56, chk57, chk58, chk59, chk60, chk67, chk68, chk69, chk70, chk71, chk73, chk74, chk76, chk77, chk78, chk79, chk81, chk82, chk83, chk84, chk85, chk86, chk87, chk88, chk94, chk95, chk96, chk97, chk99, chk100, chk101, chk102, chk104, chk105, chk106, chk107, chk112]
theorem okAll : ∀ f F, C f = some F → okFunc Try.prog M f F = true := fun f F h => List.all_eq_true.1 okTable (f, F) (lookup_mem h)
end Go.Vi.Code
