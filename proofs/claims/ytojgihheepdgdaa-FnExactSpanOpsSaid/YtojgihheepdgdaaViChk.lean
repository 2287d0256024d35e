import Derived.Test.YtojgihheepdgdaaViCode
import Derived.Test.YtojgihheepdgdaaProg
namespace Go.Vi.Code
open Go.Proofs
theorem chk3 : okFunc Try.prog M 3 v3 = true := by kernel_rfl
theorem chk4 : okFunc Try.prog M 4 v4 = true := by kernel_rfl
theorem chk5 : okFunc Try.prog M 5 v5 = true := by kernel_rfl
theorem chk6 : okFunc Try.prog M 6 v6 = true := by kernel_rfl
theorem chk7 : okFunc Try.prog M 7 v7 = true := by kernel_rfl
theorem chk8 : okFunc Try.prog M 8 v8 = true := by kernel_rfl
theorem chk9 : okFunc Try.prog M 9 v9 = true := by kernel_rfl
theorem chk10 : okFunc Try.prog M 10 v10 = true := by kernel_rfl
theorem chk11 : okFunc Try.prog M 11 v11 = true := by kernel_rfl
theorem chk12 : okFunc Try.prog M 12 v12 = true := by kernel_rfl
theorem chk13 : okFunc Try.prog M 13 v13 = true := by kernel_rfl
theorem chk14 : okFunc Try.prog M 14 v14 = true := by kernel_rfl
theorem chk15 : okFunc Try.prog M 15 v15 = true := by kernel_rfl
theorem chk16 : okFunc Try.prog M 16 v16 = true := by kernel_rfl
theorem chk17 : okFunc Try.prog M 17 v17 = true := by kernel_rfl
theorem chk18 : okFunc Try.prog M 18 v18 = true := by kernel_rfl
theorem chk19 : okFunc Try.prog M 19 v19 = true := by kernel_rfl
theorem chk20 : okFunc Try.prog M 20 v20 = true := by kernel_rfl
theorem chk21 : okFunc Try.prog M 21 v21 = true := by kernel_rfl
theorem chk22 : okFunc Try.prog M 22 v22 = true := by kernel_rfl
theorem chk23 : okFunc Try.prog M 23 v23 = true := by kernel_rfl
theorem chk24 : okFunc Try.prog M 24 v24 = true := by kernel_rfl
theorem chk25 : okFunc Try.prog M 25 v25 = true := by kernel_rfl
theorem chk26 : okFunc Try.prog M 26 v26 = true := by kernel_rfl
theorem chk27 : okFunc Try.prog M 27 v27 = true := by kernel_rfl
theorem chk28 : okFunc Try.prog M 28 v28 = true := by kernel_rfl
theorem chk29 : okFunc Try.prog M 29 v29 = true := by kernel_rfl
theorem chk30 : okFunc Try.prog M 30 v30 = true := by kernel_rfl
theorem chk31 : okFunc Try.prog M 31 v31 = true := by kernel_rfl
theorem chk32 : okFunc Try.prog M 32 v32 = true := by kernel_rfl
theorem chk33 : okFunc Try.prog M 33 v33 = true := by kernel_rfl
theorem chk34 : okFunc Try.prog M 34 v34 = true := by kernel_rfl
theorem chk35 : okFunc Try.prog M 35 v35 = true := by kernel_rfl
theorem chk36 : okFunc Try.prog M 36 v36 = true := by kernel_rfl
theorem chk37 : okFunc Try.prog M 37 v37 = true := by kernel_rfl
theorem chk38 : okFunc Try.prog M 38 v38 = true := by kernel_rfl
theorem chk39 : okFunc Try.prog M 39 v39 = true := by kernel_rfl
theorem chk40 : okFunc Try.prog M 40 v40 = true := by kernel_rfl
theorem chk41 : okFunc Try.prog M 41 v41 = true := by kernel_rfl
theorem chk42 : okFunc Try.prog M 42 v42 = true := by kernel_rfl
theorem chk43 : okFunc Try.prog M 43 v43 = true := by kernel_rfl
theorem chk44 : okFunc Try.prog M 44 v44 = true := by kernel_rfl
theorem chk45 : okFunc Try.prog M 45 v45 = true := by kernel_rfl
theorem chk46 : okFunc Try.prog M 46 v46 = true := by kernel_rfl
theorem chk47 : okFunc Try.prog M 47 v47 = true := by kernel_rfl
theorem chk48 : okFunc Try.prog M 48 v48 = true := by kernel_rfl
theorem chk49 : okFunc Try.prog M 49 v49 = true := by kernel_rfl
theorem chk50 : okFunc Try.prog M 50 v50 = true := by kernel_rfl
theorem chk51 : okFunc Try.prog M 51 v51 = true := by kernel_rfl
theorem chk52 : okFunc Try.prog M 52 v52 = true := by kernel_rfl
theorem chk53 : okFunc Try.prog M 53 v53 = true := by kernel_rfl
theorem chk54 : okFunc Try.prog M 54 v54 = true := by kernel_rfl
theorem chk55 : okFunc Try.prog M 55 v55 = true := by kernel_rfl
theorem chk56 : okFunc Try.prog M 56 v56 = true := by kernel_rfl
theorem chk57 : okFunc Try.prog M 57 v57 = true := by kernel_rfl
theorem chk58 : okFunc Try.prog M 58 v58 = true := by kernel_rfl
theorem chk59 : okFunc Try.prog M 59 v59 = true := by kernel_rfl
theorem chk60 : okFunc Try.prog M 60 v60 = true := by kernel_rfl
theorem chk61 : okFunc Try.prog M 61 v61 = true := by kernel_rfl
theorem chk62 : okFunc Try.prog M 62 v62 = true := by kernel_rfl
theorem chk63 : okFunc Try.prog M 63 v63 = true := by kernel_rfl
theorem chk64 : okFunc Try.prog M 64 v64 = true := by kernel_rfl
theorem chk65 : okFunc Try.prog M 65 v65 = true := by kernel_rfl
theorem chk66 : okFunc Try.prog M 66 v66 = true := by kernel_rfl
theorem chk67 : okFunc Try.prog M 67 v67 = true := by kernel_rfl
theorem chk68 : okFunc Try.prog M 68 v68 = true := by kernel_rfl
theorem chk69 : okFunc Try.prog M 69 v69 = true := by kernel_rfl
theorem chk70 : okFunc Try.prog M 70 v70 = true := by kernel_rfl
theorem chk71 : okFunc Try.prog M 71 v71 = true := by kernel_rfl
theorem chk72 : okFunc Try.prog M 72 v72 = true := by kernel_rfl
theorem chk73 : okFunc Try.prog M 73 v73 = true := by kernel_rfl
theorem chk74 : okFunc Try.prog M 74 v74 = true := by kernel_rfl
theorem chk75 : okFunc Try.prog M 75 v75 = true := by kernel_rfl
theorem chk76 : okFunc Try.prog M 76 v76 = true := by kernel_rfl
theorem chk77 : okFunc Try.prog M 77 v77 = true := by kernel_rfl
theorem chk78 : okFunc Try.prog M 78 v78 = true := by kernel_rfl
theorem chk79 : okFunc Try.prog M 79 v79 = true := by kernel_rfl
theorem chk80 : okFunc Try.prog M 80 v80 = true := by kernel_rfl
theorem chk81 : okFunc Try.prog M 81 v81 = true := by kernel_rfl
theorem chk82 : okFunc Try.prog M 82 v82 = true := by kernel_rfl
theorem chk83 : okFunc Try.prog M 83 v83 = true := by kernel_rfl
theorem chk84 : okFunc Try.prog M 84 v84 = true := by kernel_rfl
theorem chk85 : okFunc Try.prog M 85 v85 = true := by kernel_rfl
theorem chk86 : okFunc Try.prog M 86 v86 = true := by kernel_rfl
theorem chk87 : okFunc Try.prog M 87 v87 = true := by kernel_rfl
theorem chk88 : okFunc Try.prog M 88 v88 = true := by kernel_rfl
theorem chk89 : okFunc Try.prog M 89 v89 = true := by kernel_rfl
theorem chk90 : okFunc Try.prog M 90 v90 = true := by kernel_rfl
theorem chk91 : okFunc Try.prog M 91 v91 = true := by kernel_rfl
theorem lookup_mem {α : Type} : ∀ {l : List (Nat × α)} {f : Nat} {x : α}, l.lookup f = some x → (f, x) ∈ l
  | [], f, x, h => by simp at h
  | (g, y) :: l, f, x, h => by
    simp only [List.lookup_cons] at h
    split at h
    · rename_i hb; injection h with h; have : f = g := by simpa using hb
      subst this; subst h; simp
    · exact List.mem_cons_of_mem _ (lookup_mem h)
theorem okTable : table.all (fun p => okFunc Try.prog M p.1 p.2) = true := by
  simp only [table, List.all_cons, List.all_nil, Bool.and_self, chk3, chk4, chk5, chk6, chk7, chk8, chk9, chk10, chk11, chk12, chk13, chk14, chk15, chk16, chk17, chk18, chk19, chk20, chk21, chk22, chk23, chk24, chk25, chk26, chk27, chk28, chk29, chk30, chk31, chk32, chk33, chk34, chk35, chk36, chk37, chk38, chk39, chk40, chk41, chk42, chk43, chk44, chk45, chk46, chk47, chk48, chk49, chk50, chk51, chk52, chk53, chk54, chk55, chk56, chk57, chk58, chk59, chk60, chk61, chk62, chk63, chk64, chk65, chk66, chk67, chk68, chk69, chk70, chk71, chk72, chk73, chk74, chk75, chk76, chk77, chk78, chk79, chk80, chk81, chk82, chk83, chk84, chk85, chk86, chk87, chk88, chk89, chk90, chk91]
theorem okAll : ∀ f F, C f = some F → okFunc Try.prog M f F = true := fun f F h => List.all_eq_true.1 okTable (f, F) (lookup_mem h)
end Go.Vi.Code
